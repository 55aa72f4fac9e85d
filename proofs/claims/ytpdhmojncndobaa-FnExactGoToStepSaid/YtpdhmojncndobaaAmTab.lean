/- The functions that are reached, in their normal form; written by a program. -/
import Derived.Test.YtpdhmojncndobaaAmTab1
set_option linter.unusedVariables false
set_option maxRecDepth 100000
namespace Am
open Go
/-- spec.l26Redo -/
def fn560 : AFun := ⟨1,
(.seq (reg [op 3 (.move (.tmp 0)) 1,
  op 4 (.nilCheck (.global 3)) 1,
  op 5 (.fieldAddr 4 (.global 4) 0) 1,
  op 6 (.load 0 (.global 5)) 1,
  op 7 (.indexAddr 7 (.global 6) (.const (I 0))) 1,
  op 8 (.load 4 (.global 7)) 1,
  op 2 (.move (.const (.agg #[(I 0), (I 0), (I 0)]))),
  op 2 (.insert 3 (.tmp 2) (.tmp 2) (.global 8))])
(.seq (reg [op 9 (.move (.tmp 0)) 1,
  op 10 (.nilCheck (.global 9)) 1,
  op 11 (.fieldAddr 0 (.global 10) 0) 1,
  op 12 (.fieldAddr 2 (.global 11) 0) 1,
  op 13 (.load 0 (.global 12)) 1,
  op 14 (.fieldAddr 0 (.tmp 2) 1) 1,
  op 15 (.lookup 0 (.tmp 2) (.global 14) false) 1,
  op 16 (.fieldAddr 2 (.tmp 2) 1) 1,
  op 17 (.lookup 0 (.tmp 2) (.global 16) false) 1,
  op 18 (.indexAddr 3 (.global 13) (.global 15)) 1,
  opn (.store 1 (.global 18) (.global 17))])
(.seq (reg [op 19 (.move (.tmp 0)) 1,
  op 20 (.move (.tmp 0)) 1,
  op 21 (.nilCheck (.global 20)) 1,
  op 22 (.fieldAddr 3 (.global 21) 0) 1,
  op 23 (.load 0 (.global 22)) 1,
  op 24 (.lookup 4 (.tmp 2) (.tmp 2) false) 1,
  op 25 (.buildSlice 3 1 #[(0, (.const (.agg #[(I 0), (I 0), (I 0)]))), (3, (.global 24))]) 1,
  op 26 (bi .append #[(.global 23), (.global 25)] 3) 1,
  op 27 (.nilCheck (.global 19)) 1,
  op 28 (.fieldAddr 3 (.global 27) 0) 1,
  opn (.store 1 (.global 28) (.global 26))])
(reg [op 29 (.move (.tmp 0)) 1,
  op 30 (.move (.const (sl 0 0 0 3))) 1,
  op 31 (.move (.tmp 0)) 1,
  op 32 (.nilCheck (.global 31)) 1,
  op 33 (.fieldAddr 4 (.global 32) 0) 1,
  op 34 (.load 0 (.global 33)) 1,
  op 35 (.slice 7 (.global 34) (some (.const (I 1))) none none) 1,
  op 36 (bi .append #[(.global 30), (.global 35)] 3) 1,
  op 37 (.nilCheck (.global 29)) 1,
  op 38 (.fieldAddr 4 (.global 37) 0) 1,
  opn (.store 1 (.global 38) (.global 36))])))), []⟩

/-- (*impl.Journal).redo -/
def fn1 : AFun := ⟨1,
(.seq (reg [op 3 (.move (.tmp 0)) 1,
  op 4 (.nilCheck (.global 3)) 1,
  op 5 (.fieldAddr 4 (.global 4) 0) 1,
  op 6 (.load 0 (.global 5)) 1,
  op 7 (.indexAddr 7 (.global 6) (.const (I 0))) 1,
  op 8 (.load 4 (.global 7)) 1,
  op 2 (.move (.const (.agg #[(I 0), (I 0), (I 0)]))),
  op 2 (.insert 3 (.tmp 2) (.tmp 2) (.global 8))])
(.seq (reg [op 9 (.move (.tmp 0)) 1,
  op 10 (.nilCheck (.global 9)) 1,
  op 11 (.fieldAddr 0 (.global 10) 0) 1,
  op 12 (.fieldAddr 2 (.global 11) 0) 1,
  op 13 (.load 0 (.global 12)) 1,
  op 14 (.fieldAddr 0 (.tmp 2) 1) 1,
  op 15 (.lookup 0 (.tmp 2) (.global 14) false) 1,
  op 16 (.fieldAddr 2 (.tmp 2) 1) 1,
  op 17 (.lookup 0 (.tmp 2) (.global 16) false) 1,
  op 18 (.indexAddr 3 (.global 13) (.global 15)) 1,
  opn (.store 1 (.global 18) (.global 17))])
(.seq (reg [op 19 (.move (.tmp 0)) 1,
  op 20 (.move (.tmp 0)) 1,
  op 21 (.nilCheck (.global 20)) 1,
  op 22 (.fieldAddr 4 (.global 21) 0) 1,
  op 23 (.load 0 (.global 22)) 1,
  op 24 (call (.func 310) #[(.global 23), (.const (I 0)), (.const (I 1))]) 1,
  op 25 (.nilCheck (.global 19)) 1,
  op 26 (.fieldAddr 4 (.global 25) 0) 1,
  opn (.store 1 (.global 26) (.global 24))])
(reg [op 27 (.move (.tmp 0)) 1,
  op 28 (.move (.tmp 0)) 1,
  op 29 (.nilCheck (.global 28)) 1,
  op 30 (.fieldAddr 3 (.global 29) 0) 1,
  op 31 (.load 0 (.global 30)) 1,
  op 32 (.lookup 4 (.tmp 2) (.tmp 2) false) 1,
  op 33 (.buildSlice 3 1 #[(0, (.const (.agg #[(I 0), (I 0), (I 0)]))), (3, (.global 32))]) 1,
  op 34 (bi .append #[(.global 31), (.global 33)] 3) 1,
  op 35 (.nilCheck (.global 27)) 1,
  op 36 (.fieldAddr 3 (.global 35) 0) 1,
  opn (.store 1 (.global 36) (.global 34))])))), []⟩

/-- spec.l26Undo -/
def fn564 : AFun := ⟨1,
(.seq (reg [op 4 (.move (.tmp 0)) 1,
  op 5 (.nilCheck (.global 4)) 1,
  op 6 (.fieldAddr 3 (.global 5) 0) 1,
  op 7 (.load 0 (.global 6)) 1,
  op 8 (bi .len #[(.global 7)] 1) 1,
  op 2 (.move (.global 8))])
(.seq (reg [op 9 (.move (.tmp 0)) 1,
  op 10 (.nilCheck (.global 9)) 1,
  op 11 (.fieldAddr 3 (.global 10) 0) 1,
  op 12 (.load 0 (.global 11)) 1,
  op 13 (.move (.tmp 2)) 1,
  op 14 (.binOp .sub 0 (.global 13) (.const (I 1)) 0) 1,
  op 15 (.indexAddr 7 (.global 12) (.global 14)) 1,
  op 16 (.load 4 (.global 15)) 1,
  op 3 (.move (.const (.agg #[(I 0), (I 0), (I 0)]))),
  op 3 (.insert 3 (.tmp 3) (.tmp 3) (.global 16))])
(.seq (reg [op 17 (.move (.tmp 0)) 1,
  op 18 (.nilCheck (.global 17)) 1,
  op 19 (.fieldAddr 0 (.global 18) 0) 1,
  op 20 (.fieldAddr 2 (.global 19) 0) 1,
  op 21 (.load 0 (.global 20)) 1,
  op 22 (.fieldAddr 0 (.tmp 3) 1) 1,
  op 23 (.lookup 0 (.tmp 3) (.global 22) false) 1,
  op 24 (.fieldAddr 1 (.tmp 3) 1) 1,
  op 25 (.lookup 0 (.tmp 3) (.global 24) false) 1,
  op 26 (.indexAddr 3 (.global 21) (.global 23)) 1,
  opn (.store 1 (.global 26) (.global 25))])
(.seq (reg [op 27 (.move (.tmp 0)) 1,
  op 28 (.move (.tmp 0)) 1,
  op 29 (.nilCheck (.global 28)) 1,
  op 30 (.fieldAddr 3 (.global 29) 0) 1,
  op 31 (.load 0 (.global 30)) 1,
  op 32 (.move (.tmp 2)) 1,
  op 33 (.binOp .sub 0 (.global 32) (.const (I 1)) 0) 1,
  op 34 (.slice 7 (.global 31) none (some (.global 33)) none) 1,
  op 35 (.nilCheck (.global 27)) 1,
  op 36 (.fieldAddr 3 (.global 35) 0) 1,
  opn (.store 1 (.global 36) (.global 34))])
(reg [op 37 (.move (.tmp 0)) 1,
  op 38 (.lookup 4 (.tmp 3) (.tmp 3) false) 1,
  op 39 (.buildSlice 3 1 #[(0, (.const (.agg #[(I 0), (I 0), (I 0)]))), (3, (.global 38))]) 1,
  op 40 (.move (.tmp 0)) 1,
  op 41 (.nilCheck (.global 40)) 1,
  op 42 (.fieldAddr 4 (.global 41) 0) 1,
  op 43 (.load 0 (.global 42)) 1,
  op 44 (bi .append #[(.global 39), (.global 43)] 3) 1,
  op 45 (.nilCheck (.global 37)) 1,
  op 46 (.fieldAddr 4 (.global 45) 0) 1,
  opn (.store 1 (.global 46) (.global 44))]))))), []⟩

/-- (*impl.Journal).undo -/
def fn2 : AFun := ⟨1,
(.seq (reg [op 4 (.move (.tmp 0)) 1,
  op 5 (.nilCheck (.global 4)) 1,
  op 6 (.fieldAddr 3 (.global 5) 0) 1,
  op 7 (.load 0 (.global 6)) 1,
  op 8 (bi .len #[(.global 7)] 1) 1,
  op 9 (.binOp .sub 0 (.global 8) (.const (I 1)) 0) 1,
  op 2 (.move (.global 9))])
(.seq (reg [op 10 (.move (.tmp 0)) 1,
  op 11 (.nilCheck (.global 10)) 1,
  op 12 (.fieldAddr 3 (.global 11) 0) 1,
  op 13 (.load 0 (.global 12)) 1,
  op 14 (.move (.tmp 2)) 1,
  op 15 (.indexAddr 7 (.global 13) (.global 14)) 1,
  op 16 (.load 4 (.global 15)) 1,
  op 3 (.move (.const (.agg #[(I 0), (I 0), (I 0)]))),
  op 3 (.insert 3 (.tmp 3) (.tmp 3) (.global 16))])
(.seq (reg [op 17 (.move (.tmp 0)) 1,
  op 18 (.nilCheck (.global 17)) 1,
  op 19 (.fieldAddr 0 (.global 18) 0) 1,
  op 20 (.fieldAddr 2 (.global 19) 0) 1,
  op 21 (.load 0 (.global 20)) 1,
  op 22 (.fieldAddr 0 (.tmp 3) 1) 1,
  op 23 (.lookup 0 (.tmp 3) (.global 22) false) 1,
  op 24 (.fieldAddr 1 (.tmp 3) 1) 1,
  op 25 (.lookup 0 (.tmp 3) (.global 24) false) 1,
  op 26 (.indexAddr 3 (.global 21) (.global 23)) 1,
  opn (.store 1 (.global 26) (.global 25))])
(.seq (reg [op 27 (.move (.tmp 0)) 1,
  op 28 (.move (.tmp 0)) 1,
  op 29 (.nilCheck (.global 28)) 1,
  op 30 (.fieldAddr 3 (.global 29) 0) 1,
  op 31 (.load 0 (.global 30)) 1,
  op 32 (.move (.tmp 2)) 1,
  op 33 (.slice 7 (.global 31) none (some (.global 32)) none) 1,
  op 34 (.nilCheck (.global 27)) 1,
  op 35 (.fieldAddr 3 (.global 34) 0) 1,
  opn (.store 1 (.global 35) (.global 33))])
(reg [op 36 (.move (.tmp 0)) 1,
  op 37 (.move (.tmp 0)) 1,
  op 38 (.nilCheck (.global 37)) 1,
  op 39 (.fieldAddr 4 (.global 38) 0) 1,
  op 40 (.load 0 (.global 39)) 1,
  op 41 (.lookup 4 (.tmp 3) (.tmp 3) false) 1,
  op 42 (.buildSlice 3 1 #[(0, (.const (.agg #[(I 0), (I 0), (I 0)]))), (3, (.global 41))]) 1,
  op 43 (call (.func 317) #[(.global 40), (.const (I 0)), (.global 42)]) 1,
  op 44 (.nilCheck (.global 36)) 1,
  op 45 (.fieldAddr 4 (.global 44) 0) 1,
  opn (.store 1 (.global 45) (.global 43))]))))), []⟩

/-- impl.inRange -/
def fn164 : AFun := ⟨3,
(.seq (reg [op 6 (.move (.const (B false)))])
(.seq (reg [op 7 (.move (.tmp 0)) 1,
  op 8 (.move (.tmp 1)) 1,
  op 9 (.binOp .geq 0 (.global 7) (.global 8) 0) 1,
  op 10 (.move (.global 9)) 1,
  op 11 (.move (.tmp 0)) 1 (some (21, true)),
  op 12 (.move (.tmp 2)) 1 (some (21, true)),
  op 13 (.binOp .leq 0 (.global 11) (.global 12) 0) 1 (some (21, true)),
  op 14 (.pick (.global 10) (.global 13) (.const (B false))) 1,
  op 6 (.move (.global 14))])
.ret)), [(6, 0)]⟩

/-- spec.l02Side -/
def fn457 : AFun := ⟨1,
(.seq (reg [op 2 (.move (.const (B false)))])
(.seq (reg [op 3 (.move (.tmp 0)) 1,
  op 4 (call (.func 432) #[(.global 3), (.const (I 1)), (.const (I 8))]) 1,
  op 2 (.move (.global 4))])
.ret)), [(2, 0)]⟩

/-- spec.l02Inner -/
def fn448 : AFun := ⟨2,
(.seq (reg [op 4 (.move (.const (I 0)))])
(.seq (reg [op 5 (.move (.tmp 0)) 1,
  op 6 (.move (.tmp 1)) 1,
  op 7 (.binOp .sub 0 (.global 6) (.const (I 1)) 0) 1,
  op 8 (.binOp .mul 0 (.global 5) (.global 7) 0) 1,
  op 9 (.move (.tmp 1)) 1,
  op 10 (.move (.tmp 0)) 1,
  op 11 (.binOp .sub 0 (.global 10) (.const (I 1)) 0) 1,
  op 12 (.binOp .mul 0 (.global 9) (.global 11) 0) 1,
  op 13 (.binOp .add 0 (.global 8) (.global 12) 0) 1,
  op 4 (.move (.global 13))])
.ret)), [(4, 0)]⟩

/-- spec.l00Own -/
def fn435 : AFun := ⟨1,
(.seq (reg [op 2 (.move (.const (sl 0 0 0 0)))])
(.seq (reg [op 3 (.move (.const (sl 0 0 0 1))) 1,
  op 4 (.move (.tmp 0)) 1,
  op 5 (bi .append #[(.global 3), (.global 4)] 1) 1,
  op 2 (.move (.global 5))])
.ret)), [(2, 0)]⟩

/-- spec.l02Point -/
def fn454 : AFun := ⟨2,
(.seq (reg [op 4 (.move (.const (.agg #[(I 0), (I 0)])))])
(.seq (reg [op 5 (.move (.const (I 1)))])
(.seq (.block 0
  (.loop
    (.seq (.seq (reg [op 6 (.move (.tmp 5)) 1,
      op 7 (.binOp .add 0 (.global 6) (.const (I 1)) 0) 1,
      op 8 (.move (.tmp 0)) 1,
      op 9 (.nilCheck (.global 8)) 1,
      op 10 (.fieldAddr 1 (.global 9) 0) 1,
      op 11 (.load 0 (.global 10)) 1,
      op 12 (.binOp .mul 0 (.const (I 2)) (.global 11) 0) 1,
      op 13 (.binOp .lss 0 (.global 7) (.global 12) 0) 1,
      op 14 (.move (.global 13)) 1,
      op 15 (.move (.tmp 0)) 1 (some (29, true)),
      op 16 (.move (.tmp 5)) 1 (some (29, true)),
      op 17 (.binOp .add 0 (.global 16) (.const (I 1)) 0) 1 (some (29, true)),
      op 18 (call (.func 455) #[(.global 15), (.global 17)]) 1 (some (29, true)),
      op 19 (.move (.tmp 1)) 1 (some (29, true)),
      op 20 (.binOp .leq 0 (.global 18) (.global 19) 0) 1 (some (29, true)),
      op 21 (.pick (.global 14) (.global 20) (.const (B false)))])
    (.cond (.tmp 21)
      .skip
      (.exit 0)))
    (.block 1
      (reg [op 22 (.move (.tmp 5)) 1,
        op 23 (.binOp .add 0 (.global 22) (.const (I 1)) 0) 1,
        op 5 (.move (.global 23))])))))
(.seq (reg [op 24 (.move (.tmp 1)) 1,
  op 25 (.move (.tmp 0)) 1,
  op 26 (.move (.tmp 5)) 1,
  op 27 (call (.func 455) #[(.global 25), (.global 26)]) 1,
  op 28 (.binOp .sub 0 (.global 24) (.global 27) 0) 1,
  op 29 (.binOp .mul 0 (.const (I 2)) (.global 28) 0) 1,
  op 30 (.binOp .add 0 (.global 29) (.const (I 1)) 0) 1,
  op 31 (.move (.tmp 5)) 1,
  op 32 (.binOp .rem 0 (.global 31) (.const (I 2)) 0) 1,
  op 33 (.binOp .add 0 (.global 30) (.global 32) 0) 1,
  op 34 (.move (.tmp 5)) 1,
  op 35 (.build 0 #[(0, (.const (.agg #[(I 0), (I 0)]))), (1, (.global 33)), (1001, (.global 34))]) 1,
  op 4 (.insert 2 (.tmp 4) (.tmp 4) (.global 35))])
.ret)))), [(4, 1000003)]⟩

/-- spec.l02Number -/
def fn451 : AFun := ⟨2,
(.seq (reg [op 3 (.makeChan 2 (.tmp 1)),
  op 4 (.move (.const (I 0)))])
(.seq (reg [op 5 (.move (.tmp 0)) 1,
  op 6 (.fieldAddr 1 (.tmp 3) 1) 1,
  op 7 (.lookup 0 (.tmp 3) (.global 6) false) 1,
  op 8 (call (.func 455) #[(.global 5), (.global 7)]) 1,
  op 9 (.fieldAddr 0 (.tmp 3) 1) 1,
  op 10 (.lookup 0 (.tmp 3) (.global 9) false) 1,
  op 11 (.binOp .sub 0 (.global 10) (.const (I 1)) 0) 1,
  op 12 (.binOp .quo 0 (.global 11) (.const (I 2)) 0) 1,
  op 13 (.binOp .add 0 (.global 8) (.global 12) 0) 1,
  op 4 (.move (.global 13))])
.ret)), [(4, 0)]⟩

/-- impl.validSize -/
def fn198 : AFun := ⟨2,
(.seq (reg [op 4 (.move (.const (B false)))])
(.seq (reg [op 5 (.move (.tmp 0)) 1,
  op 6 (call (.func 164) #[(.global 5), (.const (I 1)), (.const (I 8))]) 1,
  op 7 (.move (.global 6)) 1,
  op 8 (.move (.tmp 1)) 1 (some (15, true)),
  op 9 (call (.func 164) #[(.global 8), (.const (I 1)), (.const (I 8))]) 1 (some (15, true)),
  op 10 (.pick (.global 7) (.global 9) (.const (B false))) 1,
  op 4 (.move (.global 10))])
.ret)), [(4, 0)]⟩

/-- impl.innerPoints -/
def fn166 : AFun := ⟨2,
(.seq (reg [op 4 (.move (.const (I 0)))])
(.seq (reg [op 5 (.move (.tmp 0)) 1,
  op 6 (.move (.tmp 1)) 1,
  op 7 (.binOp .sub 0 (.global 6) (.const (I 1)) 0) 1,
  op 8 (.binOp .mul 0 (.global 5) (.global 7) 0) 1,
  op 9 (.move (.tmp 1)) 1,
  op 10 (.move (.tmp 0)) 1,
  op 11 (.binOp .sub 0 (.global 10) (.const (I 1)) 0) 1,
  op 12 (.binOp .mul 0 (.global 9) (.global 11) 0) 1,
  op 13 (.binOp .add 0 (.global 8) (.global 12) 0) 1,
  op 4 (.move (.global 13))])
.ret)), [(4, 0)]⟩

/-- slices.Clone[[]int64,int64] -/
def fn308 : AFun := ⟨1,
(.seq (reg [op 2 (.move (.const (sl 0 0 0 0)))])
(.seq (.seq (reg [op 3 (.move (.tmp 0)) 1,
  op 4 (.binOp .eql 0 (.global 3) (.const (sl 0 0 0 0)) 1)])
(.cond (.tmp 4)
  (.seq (reg [op 2 (.move (.const (sl 0 0 0 0)))])
  .ret)
  .skip))
(.seq (reg [op 5 (.move (.const (sl 0 0 0 1))) 1,
  op 6 (.move (.tmp 0)) 1,
  op 7 (bi .append #[(.global 5), (.global 6)] 1) 1,
  op 2 (.move (.global 7))])
.ret))), [(2, 0)]⟩

/-- (impl.Panel).points -/
def fn49 : AFun := ⟨1,
(.seq (reg [op 1 (.makeChan 3 (.tmp 0)),
  op 2 (.move (.const (sl 0 0 0 0)))])
(.seq (reg [op 6 (.move (.const (sl 0 0 0 2))) 1,
  op 3 (.move (.global 6))])
(.seq (.seq (reg [op 4 (.move (.const (I 1)))])
(.block 0
  (.loop
    (.seq (.seq (reg [op 7 (.move (.tmp 4)) 1,
      op 8 (.fieldAddr 1 (.tmp 1) 1) 1,
      op 9 (.lookup 0 (.tmp 1) (.global 8) false) 1,
      op 10 (.binOp .mul 0 (.const (I 2)) (.global 9) 0) 1,
      op 11 (.binOp .lss 0 (.global 7) (.global 10) 0)])
    (.cond (.tmp 11)
      .skip
      (.exit 0)))
    (.seq (.block 1
      (.seq (reg [op 14 (.move (.tmp 4)) 1,
        op 15 (.binOp .rem 0 (.global 14) (.const (I 2)) 0) 1,
        op 16 (.binOp .add 0 (.const (I 1)) (.global 15) 0) 1,
        op 5 (.move (.global 16))])
      (.block 2
        (.loop
          (.seq (.seq (reg [op 17 (.move (.tmp 5)) 1,
            op 18 (.fieldAddr 0 (.tmp 1) 1) 1,
            op 19 (.lookup 0 (.tmp 1) (.global 18) false) 1,
            op 20 (.binOp .mul 0 (.const (I 2)) (.global 19) 0) 1,
            op 21 (.binOp .lss 0 (.global 17) (.global 20) 0)])
          (.cond (.tmp 21)
            .skip
            (.exit 2)))
          (.seq (.block 3
            (reg [op 24 (.move (.tmp 3)) 1,
              op 25 (.move (.tmp 5)) 1,
              op 26 (.move (.tmp 4)) 1,
              op 27 (.build 0 #[(0, (.const (.agg #[(I 0), (I 0)]))), (1, (.global 25)), (1001, (.global 26))]) 1,
              op 28 (.buildSlice 2 1 #[(0, (.const (.agg #[(I 0), (I 0)]))), (2, (.global 27))]) 1,
              op 29 (bi .append #[(.global 24), (.global 28)] 2) 1,
              op 3 (.move (.global 29))]))
          (reg [op 22 (.move (.tmp 5)) 1,
            op 23 (.binOp .add 0 (.global 22) (.const (I 2)) 0) 1,
            op 5 (.move (.global 23))])))))))
    (reg [op 12 (.move (.tmp 4)) 1,
      op 13 (.binOp .add 0 (.global 12) (.const (I 1)) 0) 1,
      op 4 (.move (.global 13))]))))))
(.seq (reg [op 30 (.move (.tmp 3)) 1,
  op 2 (.move (.global 30))])
.ret)))), [(2, 0)]⟩

/-- (impl.Panel).number -/
def fn40 : AFun := ⟨2,
(.seq (reg [op 2 (.makeChan 3 (.tmp 0)),
  op 3 (.makeChan 2 (.tmp 1)),
  op 4 (.move (.const (I 0)))])
(.seq (reg [op 6 (.fieldAddr 1 (.tmp 3) 1) 1,
  op 7 (.lookup 0 (.tmp 3) (.global 6) false) 1,
  op 8 (.binOp .quo 0 (.global 7) (.const (I 2)) 0) 1,
  op 9 (.fieldAddr 0 (.tmp 2) 1) 1,
  op 10 (.lookup 0 (.tmp 2) (.global 9) false) 1,
  op 11 (.binOp .sub 0 (.global 10) (.const (I 1)) 0) 1,
  op 12 (.binOp .mul 0 (.global 8) (.global 11) 0) 1,
  op 13 (.fieldAddr 1 (.tmp 3) 1) 1,
  op 14 (.lookup 0 (.tmp 3) (.global 13) false) 1,
  op 15 (.binOp .sub 0 (.global 14) (.const (I 1)) 0) 1,
  op 16 (.binOp .quo 0 (.global 15) (.const (I 2)) 0) 1,
  op 17 (.fieldAddr 0 (.tmp 2) 1) 1,
  op 18 (.lookup 0 (.tmp 2) (.global 17) false) 1,
  op 19 (.binOp .mul 0 (.global 16) (.global 18) 0) 1,
  op 20 (.binOp .add 0 (.global 12) (.global 19) 0) 1,
  op 5 (.move (.global 20))])
(.seq (.seq (reg [op 21 (.fieldAddr 1 (.tmp 3) 1) 1,
  op 22 (.lookup 0 (.tmp 3) (.global 21) false) 1,
  op 23 (.binOp .rem 0 (.global 22) (.const (I 2)) 0) 1,
  op 24 (.binOp .eql 0 (.global 23) (.const (I 1)) 0)])
(.cond (.tmp 24)
  (.seq (reg [op 25 (.move (.tmp 5)) 1,
    op 26 (.fieldAddr 0 (.tmp 3) 1) 1,
    op 27 (.lookup 0 (.tmp 3) (.global 26) false) 1,
    op 28 (.binOp .quo 0 (.global 27) (.const (I 2)) 0) 1,
    op 29 (.binOp .add 0 (.global 25) (.global 28) 0) 1,
    op 30 (.binOp .sub 0 (.global 29) (.const (I 1)) 0) 1,
    op 4 (.move (.global 30))])
  .ret)
  .skip))
(.seq (reg [op 31 (.move (.tmp 5)) 1,
  op 32 (.fieldAddr 0 (.tmp 3) 1) 1,
  op 33 (.lookup 0 (.tmp 3) (.global 32) false) 1,
  op 34 (.binOp .quo 0 (.global 33) (.const (I 2)) 0) 1,
  op 35 (.binOp .add 0 (.global 31) (.global 34) 0) 1,
  op 4 (.move (.global 35))])
.ret)))), [(4, 0)]⟩

/-- impl.shifted -/
def fn188 : AFun := ⟨3,
(.seq (reg [op 3 (.makeChan 2 (.tmp 0)),
  op 6 (.move (.const (.agg #[(I 0), (I 0)])))])
(.seq (reg [op 7 (.fieldAddr 0 (.tmp 3) 1) 1,
  op 8 (.lookup 0 (.tmp 3) (.global 7) false) 1,
  op 9 (.move (.tmp 1)) 1,
  op 10 (.binOp .mul 0 (.const (I 2)) (.global 9) 0) 1,
  op 11 (.binOp .add 0 (.global 8) (.global 10) 0) 1,
  op 12 (.fieldAddr 1 (.tmp 3) 1) 1,
  op 13 (.lookup 0 (.tmp 3) (.global 12) false) 1,
  op 14 (.move (.tmp 2)) 1,
  op 15 (.binOp .mul 0 (.const (I 2)) (.global 14) 0) 1,
  op 16 (.binOp .add 0 (.global 13) (.global 15) 0) 1,
  op 17 (.build 0 #[(0, (.const (.agg #[(I 0), (I 0)]))), (1, (.global 11)), (1001, (.global 16))]) 1,
  op 6 (.insert 2 (.tmp 6) (.tmp 6) (.global 17))])
.ret)), [(6, 1000003)]⟩

/-- laws.eqJournalStep -/
def fn261 : AFun := ⟨2,
(.seq (reg [op 2 (.makeChan 3 (.tmp 0)),
  op 3 (.makeChan 3 (.tmp 1)),
  op 4 (.move (.const (B false)))])
(.seq (.seq (reg [op 5 (.fieldAddr 0 (.tmp 2) 1) 1,
  op 6 (.lookup 0 (.tmp 2) (.global 5) false) 1,
  op 7 (.fieldAddr 0 (.tmp 3) 1) 1,
  op 8 (.lookup 0 (.tmp 3) (.global 7) false) 1,
  op 9 (.binOp .neq 0 (.global 6) (.global 8) 0)])
(.cond (.tmp 9)
  (.seq (reg [op 4 (.move (.const (B false)))])
  .ret)
  .skip))
(.seq (.seq (reg [op 10 (.fieldAddr 1 (.tmp 2) 1) 1,
  op 11 (.lookup 0 (.tmp 2) (.global 10) false) 1,
  op 12 (.fieldAddr 1 (.tmp 3) 1) 1,
  op 13 (.lookup 0 (.tmp 3) (.global 12) false) 1,
  op 14 (.binOp .neq 0 (.global 11) (.global 13) 0)])
(.cond (.tmp 14)
  (.seq (reg [op 4 (.move (.const (B false)))])
  .ret)
  .skip))
(.seq (.seq (reg [op 15 (.fieldAddr 2 (.tmp 2) 1) 1,
  op 16 (.lookup 0 (.tmp 2) (.global 15) false) 1,
  op 17 (.fieldAddr 2 (.tmp 3) 1) 1,
  op 18 (.lookup 0 (.tmp 3) (.global 17) false) 1,
  op 19 (.binOp .neq 0 (.global 16) (.global 18) 0)])
(.cond (.tmp 19)
  (.seq (reg [op 4 (.move (.const (B false)))])
  .ret)
  .skip))
(.seq (reg [op 4 (.move (.const (B true)))])
.ret))))), [(4, 0)]⟩

/-- spec.l26Step -/
def fn562 : AFun := ⟨2,
(.seq (reg [op 3 (.makeChan 3 (.tmp 1)),
  op 4 (.move (.const (B false)))])
(.seq (reg [op 5 (.fieldAddr 0 (.tmp 3) 1) 1,
  op 6 (.lookup 0 (.tmp 3) (.global 5) false) 1,
  op 7 (.move (.tmp 0)) 1,
  op 8 (.nilCheck (.global 7)) 1,
  op 9 (.fieldAddr 2 (.global 8) 0) 1,
  op 10 (.load 0 (.global 9)) 1,
  op 11 (bi .len #[(.global 10)] 1) 1,
  op 12 (.binOp .sub 0 (.global 11) (.const (I 1)) 0) 1,
  op 13 (call (.func 432) #[(.global 6), (.const (I 0)), (.global 12)]) 1,
  op 14 (.move (.global 13)) 1,
  op 15 (.fieldAddr 1 (.tmp 3) 1) 1 (some (29, true)),
  op 16 (.lookup 0 (.tmp 3) (.global 15) false) 1 (some (29, true)),
  op 17 (call (.func 449) #[(.global 16)]) 1 (some (29, true)),
  op 18 (.pick (.global 14) (.global 17) (.const (B false))) 1,
  op 19 (.move (.global 18)) 1,
  op 20 (.fieldAddr 2 (.tmp 3) 1) 1 (some (39, true)),
  op 21 (.lookup 0 (.tmp 3) (.global 20) false) 1 (some (39, true)),
  op 22 (call (.func 449) #[(.global 21)]) 1 (some (39, true)),
  op 23 (.pick (.global 19) (.global 22) (.const (B false))) 1,
  op 24 (.move (.global 23)) 1,
  op 25 (.fieldAddr 1 (.tmp 3) 1) 1 (some (49, true)),
  op 26 (.lookup 0 (.tmp 3) (.global 25) false) 1 (some (49, true)),
  op 27 (.fieldAddr 2 (.tmp 3) 1) 1 (some (49, true)),
  op 28 (.lookup 0 (.tmp 3) (.global 27) false) 1 (some (49, true)),
  op 29 (.binOp .neq 0 (.global 26) (.global 28) 0) 1 (some (49, true)),
  op 30 (.pick (.global 24) (.global 29) (.const (B false))) 1,
  op 4 (.move (.global 30))])
.ret)), [(4, 0)]⟩

/-- laws.toJournalStep -/
def fn299 : AFun := ⟨1,
(.seq (reg [op 1 (.makeChan 3 (.tmp 0)),
  op 2 (.move (.const (.agg #[(I 0), (I 0), (I 0)])))])
(.seq (reg [op 3 (.move (.const (.agg #[(I 0), (I 0), (I 0)])))])
(.seq (reg [op 4 (.fieldAddr 0 (.tmp 1) 1) 1,
  op 5 (.lookup 0 (.tmp 1) (.global 4) false) 1,
  op 6 (.fieldAddr 0 (.tmp 3) 1) 1,
  op 3 (.insert 1 (.tmp 3) (.global 6) (.global 5))])
(.seq (reg [op 7 (.fieldAddr 1 (.tmp 1) 1) 1,
  op 8 (.lookup 0 (.tmp 1) (.global 7) false) 1,
  op 9 (.fieldAddr 1 (.tmp 3) 1) 1,
  op 3 (.insert 1 (.tmp 3) (.global 9) (.global 8))])
(.seq (reg [op 10 (.fieldAddr 2 (.tmp 1) 1) 1,
  op 11 (.lookup 0 (.tmp 1) (.global 10) false) 1,
  op 12 (.fieldAddr 2 (.tmp 3) 1) 1,
  op 3 (.insert 1 (.tmp 3) (.global 12) (.global 11))])
(.seq (reg [op 13 (.lookup 4 (.tmp 3) (.tmp 3) false) 1,
  op 2 (.insert 3 (.tmp 2) (.tmp 2) (.global 13))])
.ret)))))), [(2, 1000004)]⟩

/-- spec.l01Digit -/
def fn438 : AFun := ⟨1,
(.seq (reg [op 2 (.move (.const (B false)))])
(.seq (reg [op 3 (.move (.tmp 0)) 1,
  op 4 (.binOp .geq 0 (.global 3) (.const (U 48)) 0) 1,
  op 5 (.move (.global 4)) 1,
  op 6 (.move (.tmp 0)) 1 (some (11, true)),
  op 7 (.binOp .leq 0 (.global 6) (.const (U 57)) 0) 1 (some (11, true)),
  op 8 (.pick (.global 5) (.global 7) (.const (B false))) 1,
  op 2 (.move (.global 8))])
.ret)), [(2, 0)]⟩

/-- spec.l01Dec -/
def fn437 : AFun := ⟨1,
(.seq (reg [op 2 (.move (.const (S [])))])
(.seq (reg [op 6 (.move (.const (sl 0 0 0 1))) 1,
  op 3 (.move (.global 6))])
(.seq (.seq (reg [op 7 (.move (.tmp 0)) 1,
  op 4 (.move (.global 7))])
(.block 0
  (.loop
    (.seq (.seq (reg [op 8 (.move (.tmp 4)) 1,
      op 9 (.binOp .neq 0 (.global 8) (.const (I 0)) 0)])
    (.cond (.tmp 9)
      .skip
      (.exit 0)))
    (.seq (.block 1
      (.seq (reg [op 12 (.move (.tmp 4)) 1,
        op 13 (.binOp .rem 0 (.global 12) (.const (I 10)) 0) 1,
        op 5 (.move (.global 13))])
      (.seq (.seq (reg [op 14 (.move (.tmp 5)) 1,
        op 15 (.binOp .lss 0 (.global 14) (.const (I 0)) 0)])
      (.cond (.tmp 15)
        (reg [op 16 (.move (.tmp 5)) 1,
          op 17 (.unOp .neg 0 (.global 16)) 1,
          op 5 (.move (.global 17))])
        .skip))
      (reg [op 18 (.move (.tmp 5)) 1,
        op 19 (.binOp .add 0 (.const (I 48)) (.global 18) 0) 1,
        op 20 (.convert 0 4 (.global 19)) 1,
        op 21 (.buildSlice 1 1 #[(0, (.const (.agg #[(U 0)]))), (1, (.global 20))]) 1,
        op 22 (.move (.tmp 3)) 1,
        op 23 (bi .append #[(.global 21), (.global 22)] 1) 1,
        op 3 (.move (.global 23))]))))
    (reg [op 10 (.move (.tmp 4)) 1,
      op 11 (.binOp .quo 0 (.global 10) (.const (I 10)) 0) 1,
      op 4 (.move (.global 11))]))))))
(.seq (.seq (reg [op 24 (.move (.tmp 3)) 1,
  op 25 (bi .len #[(.global 24)] 1) 1,
  op 26 (.binOp .eql 0 (.global 25) (.const (I 0)) 0)])
(.cond (.tmp 26)
  (.seq (reg [op 2 (.move (.const (S [48])))])
  .ret)
  .skip))
(.seq (.seq (reg [op 27 (.move (.tmp 0)) 1,
  op 28 (.binOp .lss 0 (.global 27) (.const (I 0)) 0)])
(.cond (.tmp 28)
  (.seq (reg [op 29 (.move (.tmp 3)) 1,
    op 30 (.convert 0 21 (.global 29)) 1,
    op 31 (.binOp .add 0 (.const (S [45])) (.global 30) 0) 1,
    op 2 (.move (.global 31))])
  .ret)
  .skip))
(.seq (reg [op 32 (.move (.tmp 3)) 1,
  op 33 (.convert 0 21 (.global 32)) 1,
  op 2 (.move (.global 33))])
.ret)))))), [(2, 0)]⟩

/-- impl.Decimal -/
def fn75 : AFun := ⟨1,
(.seq (reg [op 2 (.move (.const (S [])))])
(.seq (.seq (reg [op 6 (.move (.tmp 0)) 1,
  op 7 (.binOp .eql 0 (.global 6) (.const (I 0)) 0)])
(.cond (.tmp 7)
  (.seq (reg [op 2 (.move (.const (S [48])))])
  .ret)
  .skip))
(.seq (reg [op 8 (.build 0 #[(0, (.const (.agg #[(U 0), (U 0), (U 0), (U 0), (U 0), (U 0), (U 0), (U 0), (U 0), (U 0), (U 0), (U 0), (U 0), (U 0), (U 0), (U 0), (U 0), (U 0), (U 0), (U 0)])))]) 1,
  op 3 (.box 20 (.const (.agg #[(U 0), (U 0), (U 0), (U 0), (U 0), (U 0), (U 0), (U 0), (U 0), (U 0), (U 0), (U 0), (U 0), (U 0), (U 0), (U 0), (U 0), (U 0), (U 0), (U 0)]))),
  opn (.store 20 (.tmp 3) (.global 8))])
(.seq (reg [op 4 (.move (.const (I 20)))])
(.seq (reg [op 9 (.move (.tmp 0)) 1,
  op 10 (.convert 0 7 (.global 9)) 1,
  op 5 (.move (.global 10))])
(.seq (.seq (reg [op 11 (.move (.tmp 0)) 1,
  op 12 (.binOp .lss 0 (.global 11) (.const (I 0)) 0)])
(.cond (.tmp 12)
  (reg [op 13 (.move (.tmp 5)) 1,
    op 14 (.unOp .neg 0 (.global 13)) 1,
    op 5 (.move (.global 14))])
  .skip))
(.seq (.block 0
  (.loop
    (.seq (.seq (reg [op 15 (.move (.tmp 5)) 1,
      op 16 (.binOp .gtr 0 (.global 15) (.const (.int .u64 0)) 0)])
    (.cond (.tmp 16)
      .skip
      (.exit 0)))
    (.block 1
      (.seq (reg [op 17 (.move (.tmp 4)) 1,
        op 18 (.binOp .sub 0 (.global 17) (.const (I 1)) 0) 1,
        op 4 (.move (.global 18))])
      (.seq (reg [op 19 (.move (.tmp 4)) 1,
        op 20 (.move (.tmp 5)) 1,
        op 21 (.binOp .rem 0 (.global 20) (.const (.int .u64 10)) 0) 1,
        op 22 (.binOp .add 0 (.const (.int .u64 48)) (.global 21) 0) 1,
        op 23 (.convert 0 4 (.global 22)) 1,
        op 24 (.indexAddr 1020001 (.tmp 3) (.global 19)) 1,
        opn (.store 1 (.global 24) (.global 23))])
      (reg [op 25 (.move (.tmp 5)) 1,
        op 26 (.binOp .quo 0 (.global 25) (.const (.int .u64 10)) 0) 1,
        op 5 (.move (.global 26))])))))))
(.seq (.seq (reg [op 27 (.move (.tmp 0)) 1,
  op 28 (.binOp .lss 0 (.global 27) (.const (I 0)) 0)])
(.cond (.tmp 28)
  (.seq (reg [op 29 (.move (.tmp 4)) 1,
    op 30 (.binOp .sub 0 (.global 29) (.const (I 1)) 0) 1,
    op 4 (.move (.global 30))])
  (reg [op 31 (.move (.tmp 4)) 1,
    op 32 (.indexAddr 1020001 (.tmp 3) (.global 31)) 1,
    opn (.store 1 (.global 32) (.const (U 45)))]))
  .skip))
(.seq (reg [op 33 (.move (.tmp 4)) 1,
  op 34 (.slice 1020001 (.tmp 3) (some (.global 33)) none none) 1,
  op 35 (.convert 0 21 (.global 34)) 1,
  op 2 (.move (.global 35))])
.ret))))))))), [(2, 0)]⟩

/-- spec.PanelText -/
def fn402 : AFun := ⟨1,
(.seq (reg [op 1 (.box 3 (.tmp 0)),
  op 2 (.move (.const (S [])))])
(.seq (.seq (reg [op 3 (call (.func 452) #[(.tmp 1)]) 1,
  op 4 (.unOp .not 0 (.global 3))])
(.cond (.tmp 4)
  (.seq (reg [op 2 (.move (.const (S [])))])
  .ret)
  .skip))
(.seq (reg [op 5 (call (.func 472) #[(.tmp 1)]) 1,
  op 2 (.move (.global 5))])
.ret))), [(2, 0)]⟩

/-- impl.panelText -/
def fn182 : AFun := ⟨1,
(.seq (reg [op 1 (.makeChan 3 (.tmp 0)),
  op 2 (.move (.const (S [])))])
(.seq (reg [op 6 (.fieldAddr 0 (.tmp 1) 1) 1,
  op 7 (.lookup 0 (.tmp 1) (.global 6) false) 1,
  op 8 (call (.func 75) #[(.global 7)]) 1,
  op 9 (.binOp .add 0 (.global 8) (.const (S [120])) 0) 1,
  op 10 (.fieldAddr 1 (.tmp 1) 1) 1,
  op 11 (.lookup 0 (.tmp 1) (.global 10) false) 1,
  op 12 (call (.func 75) #[(.global 11)]) 1,
  op 13 (.binOp .add 0 (.global 9) (.global 12) 0) 1,
  op 14 (.binOp .add 0 (.global 13) (.const (S [58])) 0) 1,
  op 3 (.move (.global 14))])
(.seq (.seq (reg [op 15 (.fieldAddr 2 (.tmp 1) 1) 1,
  op 16 (.lookup 0 (.tmp 1) (.global 15) false),
  op 17 (bi .len #[(.tmp 16)] 1),
  op 18 (.move (.const (I 0)))])
(.block 0
  (.loop
    (.seq (reg [op 19 (.binOp .lss 0 (.tmp 18) (.tmp 17) 0)])
    (.seq (.cond (.tmp 19)
      .skip
      (.exit 0))
    (.seq (.block 1
      (.seq (reg [op 20 (.indexAddr 3 (.tmp 16) (.tmp 18)) 1,
        op 21 (.load 0 (.global 20)) 1,
        op 5 (.move (.global 21))])
      (reg [op 22 (.move (.tmp 3)) 1,
        op 23 (.move (.tmp 5)) 1,
        op 24 (.move (.tmp 5)) 1,
        op 25 (.binOp .add 0 (.global 24) (.const (I 1)) 0) 1,
        op 26 (.slice 0 (.const (S [43, 124, 45])) (some (.global 23)) (some (.global 25)) none) 1,
        op 27 (.binOp .add 0 (.global 22) (.global 26) 0) 1,
        op 3 (.move (.global 27))])))
    (reg [op 28 (.binOp .add 0 (.tmp 18) (.const (I 1)) 0) 1,
      op 18 (.move (.global 28))])))))))
(.seq (reg [op 29 (.move (.tmp 3)) 1,
  op 2 (.move (.global 29))])
.ret)))), [(2, 0)]⟩

/-- slices.Clone[[]impl.JournalStep,impl.JournalStep] -/
def fn307 : AFun := ⟨1,
(.seq (reg [op 2 (.move (.const (sl 0 0 0 0)))])
(.seq (.seq (reg [op 3 (.move (.tmp 0)) 1,
  op 4 (.binOp .eql 0 (.global 3) (.const (sl 0 0 0 0)) 1)])
(.cond (.tmp 4)
  (.seq (reg [op 2 (.move (.const (sl 0 0 0 0)))])
  .ret)
  .skip))
(.seq (reg [op 5 (.move (.const (sl 0 0 0 3))) 1,
  op 6 (.move (.tmp 0)) 1,
  op 7 (bi .append #[(.global 5), (.global 6)] 3) 1,
  op 2 (.move (.global 7))])
.ret))), [(2, 0)]⟩

/-- slices.Delete[[]impl.JournalStep,impl.JournalStep] -/
def fn310 : AFun := ⟨3, .goto 7, []⟩

/-- slices.Insert[[]impl.JournalStep,impl.JournalStep] -/
def fn317 : AFun := ⟨3, .goto 6, []⟩

/-- spec.l02Row -/
def fn455 : AFun := ⟨2,
(.seq (reg [op 4 (.move (.const (I 0)))])
(.seq (reg [op 5 (.move (.const (I 0)))])
(.seq (.seq (reg [op 6 (.move (.const (I 1)))])
(.block 0
  (.loop
    (.seq (.seq (reg [op 7 (.move (.tmp 6)) 1,
      op 8 (.move (.tmp 1)) 1,
      op 9 (.binOp .lss 0 (.global 7) (.global 8) 0)])
    (.cond (.tmp 9)
      .skip
      (.exit 0)))
    (.seq (.block 1
      (.seq (reg [op 12 (.move (.tmp 5)) 1,
        op 13 (.move (.tmp 0)) 1,
        op 14 (.nilCheck (.global 13)) 1,
        op 15 (.fieldAddr 0 (.global 14) 0) 1,
        op 16 (.load 0 (.global 15)) 1,
        op 17 (.binOp .add 0 (.global 12) (.global 16) 0) 1,
        op 5 (.move (.global 17))])
      (.seq (reg [op 18 (.move (.tmp 6)) 1,
        op 19 (.binOp .rem 0 (.global 18) (.const (I 2)) 0) 1,
        op 20 (.binOp .eql 0 (.global 19) (.const (I 1)) 0)])
      (.cond (.tmp 20)
        (reg [op 21 (.move (.tmp 5)) 1,
          op 22 (.binOp .sub 0 (.global 21) (.const (I 1)) 0) 1,
          op 5 (.move (.global 22))])
        .skip))))
    (reg [op 10 (.move (.tmp 6)) 1,
      op 11 (.binOp .add 0 (.global 10) (.const (I 1)) 0) 1,
      op 6 (.move (.global 11))]))))))
(.seq (reg [op 23 (.move (.tmp 5)) 1,
  op 4 (.move (.global 23))])
.ret)))), [(4, 0)]⟩

/-- spec.l05Text -/
def fn472 : AFun := ⟨1,
(.seq (reg [op 2 (.move (.const (S [])))])
(.seq (reg [op 5 (.move (.tmp 0)) 1,
  op 6 (.nilCheck (.global 5)) 1,
  op 7 (.fieldAddr 0 (.global 6) 0) 1,
  op 8 (.load 0 (.global 7)) 1,
  op 9 (call (.func 437) #[(.global 8)]) 3,
  op 10 (.binOp .add 0 (.global 9) (.const (S [120])) 0) 1,
  op 11 (.move (.tmp 0)) 1,
  op 12 (.nilCheck (.global 11)) 1,
  op 13 (.fieldAddr 1 (.global 12) 0) 1,
  op 14 (.load 0 (.global 13)) 1,
  op 15 (call (.func 437) #[(.global 14)]) 1,
  op 16 (.binOp .add 0 (.global 10) (.global 15) 0) 1,
  op 17 (.binOp .add 0 (.global 16) (.const (S [58])) 0) 1,
  op 18 (.convert 0 20 (.global 17)) 1,
  op 3 (.move (.global 18))])
(.seq (.seq (reg [op 4 (.move (.const (I 0)))])
(.block 0
  (.loop
    (.seq (.seq (reg [op 19 (.move (.tmp 4)) 1,
      op 20 (.move (.tmp 0)) 1,
      op 21 (.nilCheck (.global 20)) 1,
      op 22 (.fieldAddr 2 (.global 21) 0) 1,
      op 23 (.load 0 (.global 22)) 1,
      op 24 (bi .len #[(.global 23)] 1) 1,
      op 25 (.binOp .lss 0 (.global 19) (.global 24) 0)])
    (.cond (.tmp 25)
      .skip
      (.exit 0)))
    (.seq (.block 1
      (reg [op 28 (.move (.tmp 3)) 1,
        op 29 (.move (.tmp 0)) 1,
        op 30 (.nilCheck (.global 29)) 1,
        op 31 (.fieldAddr 2 (.global 30) 0) 1,
        op 32 (.load 0 (.global 31)) 1,
        op 33 (.move (.tmp 4)) 1,
        op 34 (.indexAddr 3 (.global 32) (.global 33)) 1,
        op 35 (.load 0 (.global 34)) 1,
        op 36 (call (.func 470) #[(.global 35)]) 1,
        op 37 (.buildSlice 1 1 #[(0, (.const (.agg #[(U 0)]))), (1, (.global 36))]) 1,
        op 38 (bi .append #[(.global 28), (.global 37)] 1) 1,
        op 3 (.move (.global 38))]))
    (reg [op 26 (.move (.tmp 4)) 1,
      op 27 (.binOp .add 0 (.global 26) (.const (I 1)) 0) 1,
      op 4 (.move (.global 27))]))))))
(.seq (reg [op 39 (.move (.tmp 3)) 1,
  op 40 (.convert 0 21 (.global 39)) 1,
  op 2 (.move (.global 40))])
.ret)))), [(2, 0)]⟩

/-- slices.rotateRight[impl.JournalStep] -/
def fn325 : AFun := ⟨2,
(reg [op 4 (.move (.tmp 0)) 1,
  op 5 (.move (.tmp 0)) 1,
  op 6 (bi .len #[(.global 5)] 1) 1,
  op 7 (.move (.tmp 1)) 1,
  op 8 (.binOp .sub 0 (.global 6) (.global 7) 0) 1,
  op 9 (call (.func 323) #[(.global 4), (.global 8)]) 1]), []⟩

/-- spec.l05Sign -/
def fn470 : AFun := ⟨1,
(.seq (reg [op 2 (.move (.const (U 0)))])
(.seq (.seq (reg [op 3 (.move (.tmp 0))])
(.block 0
  (.seq (reg [op 5 (.binOp .eql 0 (.tmp 3) (.const (I 1)) 0) 1,
    op 4 (.move (.global 5))])
  (.cond (.tmp 4)
    (.seq (reg [op 2 (.move (.const (U 124)))])
    .ret)
    (.seq (reg [op 7 (.binOp .eql 0 (.tmp 3) (.const (I 2)) 0) 1,
      op 6 (.move (.global 7))])
    (.cond (.tmp 6)
      (.seq (reg [op 2 (.move (.const (U 45)))])
      .ret)
      .skip))))))
(.seq (reg [op 2 (.move (.const (U 43)))])
.ret))), [(2, 0)]⟩

/-- slices.rotateLeft[impl.JournalStep] -/
def fn323 : AFun := ⟨2,
(.seq (reg [op 4 (.move (.tmp 0)) 1,
  op 5 (.move (.tmp 1)) 1,
  op 6 (.slice 7 (.global 4) none (some (.global 5)) none) 1,
  op 7 (call (.func 319) #[(.global 6)]) 1])
(.seq (reg [op 8 (.move (.tmp 0)) 1,
  op 9 (.move (.tmp 1)) 1,
  op 10 (.slice 7 (.global 8) (some (.global 9)) none none) 1,
  op 11 (call (.func 319) #[(.global 10)]) 1])
(reg [op 12 (.move (.tmp 0)) 1,
  op 13 (call (.func 319) #[(.global 12)]) 1]))), []⟩

/-- slices.Reverse[[]impl.JournalStep,impl.JournalStep] -/
def fn319 : AFun := ⟨1,
(.seq (reg [op 4 (.move (.tmp 0)) 1,
  op 5 (bi .len #[(.global 4)] 1) 1,
  op 6 (.binOp .sub 0 (.global 5) (.const (I 1)) 0) 1,
  op 2 (.move (.const (I 0))),
  op 3 (.move (.global 6))])
(.block 0
  (.loop
    (.seq (.seq (reg [op 7 (.move (.tmp 2)) 1,
      op 8 (.move (.tmp 3)) 1,
      op 9 (.binOp .lss 0 (.global 7) (.global 8) 0)])
    (.cond (.tmp 9)
      .skip
      (.exit 0)))
    (.seq (.block 1
      (reg [op 14 (.move (.tmp 0)) 1,
        op 15 (.move (.tmp 2)) 1,
        op 16 (.move (.tmp 0)) 1,
        op 17 (.move (.tmp 3)) 1,
        op 18 (.move (.tmp 0)) 1,
        op 19 (.move (.tmp 3)) 1,
        op 20 (.indexAddr 7 (.global 18) (.global 19)) 1,
        op 21 (.load 4 (.global 20)) 1,
        op 22 (.move (.tmp 0)) 1,
        op 23 (.move (.tmp 2)) 1,
        op 24 (.indexAddr 7 (.global 22) (.global 23)) 1,
        op 25 (.load 4 (.global 24)) 1,
        op 26 (.indexAddr 7 (.global 14) (.global 15)) 1,
        opn (.store 3 (.global 26) (.global 21)),
        op 27 (.indexAddr 7 (.global 16) (.global 17)) 1,
        opn (.store 3 (.global 27) (.global 25))]))
    (reg [op 10 (.move (.tmp 2)) 1,
      op 11 (.binOp .add 0 (.global 10) (.const (I 1)) 0) 1,
      op 12 (.move (.tmp 3)) 1,
      op 13 (.binOp .sub 0 (.global 12) (.const (I 1)) 0) 1,
      op 2 (.move (.global 11)),
      op 3 (.move (.global 13))])))))), []⟩

def tab : Tab := [(233, fn233), (206, fn206), (228, fn228), (248, fn248), (234, fn234), (244, fn244), (211, fn211), (242, fn242), (215, fn215), (237, fn237), (245, fn245), (216, fn216), (295, fn295), (406, fn406), (303, fn303), (114, fn114), (265, fn265), (286, fn286), (279, fn279), (296, fn296), (331, fn331), (305, fn305), (62, fn62), (267, fn267), (287, fn287), (394, fn394), (101, fn101), (260, fn260), (283, fn283), (276, fn276), (291, fn291), (427, fn427), (298, fn298), (138, fn138), (410, fn410), (119, fn119), (280, fn280), (423, fn423), (133, fn133), (344, fn344), (77, fn77), (421, fn421), (131, fn131), (348, fn348), (82, fn82), (414, fn414), (123, fn123), (424, fn424), (134, fn134), (379, fn379), (86, fn86), (290, fn290), (452, fn452), (549, fn549), (453, fn453), (551, fn551), (297, fn297), (140, fn140), (33, fn33), (150, fn150), (46, fn46), (259, fn259), (282, fn282), (275, fn275), (432, fn432), (449, fn449), (304, fn304), (163, fn163), (196, fn196), (266, fn266), (262, fn262), (284, fn284), (277, fn277), (292, fn292), (558, fn558), (300, fn300), (199, fn199), (441, fn441), (439, fn439), (467, fn467), (550, fn550), (189, fn189), (118, fn118), (174, fn174), (197, fn197), (561, fn561), (22, fn22), (580, fn580), (157, fn157), (559, fn559), (556, fn556), (148, fn148), (560, fn560), (1, fn1), (564, fn564), (2, fn2), (164, fn164), (457, fn457), (448, fn448), (435, fn435), (454, fn454), (451, fn451), (198, fn198), (166, fn166), (308, fn308), (49, fn49), (40, fn40), (188, fn188), (261, fn261), (562, fn562), (299, fn299), (438, fn438), (437, fn437), (75, fn75), (402, fn402), (182, fn182), (307, fn307), (310, fn310), (317, fn317), (455, fn455), (472, fn472), (325, fn325), (470, fn470), (323, fn323), (319, fn319)]
def Gam : Nat → Option AFun := look tab
theorem g233 : Gam 233 = some fn233 := rfl
theorem g206 : Gam 206 = some fn206 := rfl
theorem g228 : Gam 228 = some fn228 := rfl
theorem g248 : Gam 248 = some fn248 := rfl
theorem g234 : Gam 234 = some fn234 := rfl
theorem g244 : Gam 244 = some fn244 := rfl
theorem g211 : Gam 211 = some fn211 := rfl
theorem g242 : Gam 242 = some fn242 := rfl
theorem g215 : Gam 215 = some fn215 := rfl
theorem g237 : Gam 237 = some fn237 := rfl
theorem g245 : Gam 245 = some fn245 := rfl
theorem g216 : Gam 216 = some fn216 := rfl
theorem g295 : Gam 295 = some fn295 := rfl
theorem g406 : Gam 406 = some fn406 := rfl
theorem g303 : Gam 303 = some fn303 := rfl
theorem g114 : Gam 114 = some fn114 := rfl
theorem g265 : Gam 265 = some fn265 := rfl
theorem g286 : Gam 286 = some fn286 := rfl
theorem g279 : Gam 279 = some fn279 := rfl
theorem g296 : Gam 296 = some fn296 := rfl
theorem g331 : Gam 331 = some fn331 := rfl
theorem g305 : Gam 305 = some fn305 := rfl
theorem g62 : Gam 62 = some fn62 := rfl
theorem g267 : Gam 267 = some fn267 := rfl
theorem g287 : Gam 287 = some fn287 := rfl
theorem g394 : Gam 394 = some fn394 := rfl
theorem g101 : Gam 101 = some fn101 := rfl
theorem g260 : Gam 260 = some fn260 := rfl
theorem g283 : Gam 283 = some fn283 := rfl
theorem g276 : Gam 276 = some fn276 := rfl
theorem g291 : Gam 291 = some fn291 := rfl
theorem g427 : Gam 427 = some fn427 := rfl
theorem g298 : Gam 298 = some fn298 := rfl
theorem g138 : Gam 138 = some fn138 := rfl
theorem g410 : Gam 410 = some fn410 := rfl
theorem g119 : Gam 119 = some fn119 := rfl
theorem g280 : Gam 280 = some fn280 := rfl
theorem g423 : Gam 423 = some fn423 := rfl
theorem g133 : Gam 133 = some fn133 := rfl
theorem g344 : Gam 344 = some fn344 := rfl
theorem g77 : Gam 77 = some fn77 := rfl
theorem g421 : Gam 421 = some fn421 := rfl
theorem g131 : Gam 131 = some fn131 := rfl
theorem g348 : Gam 348 = some fn348 := rfl
theorem g82 : Gam 82 = some fn82 := rfl
theorem g414 : Gam 414 = some fn414 := rfl
theorem g123 : Gam 123 = some fn123 := rfl
theorem g424 : Gam 424 = some fn424 := rfl
theorem g134 : Gam 134 = some fn134 := rfl
theorem g379 : Gam 379 = some fn379 := rfl
theorem g86 : Gam 86 = some fn86 := rfl
theorem g290 : Gam 290 = some fn290 := rfl
theorem g452 : Gam 452 = some fn452 := rfl
theorem g549 : Gam 549 = some fn549 := rfl
theorem g453 : Gam 453 = some fn453 := rfl
theorem g551 : Gam 551 = some fn551 := rfl
theorem g297 : Gam 297 = some fn297 := rfl
theorem g140 : Gam 140 = some fn140 := rfl
theorem g33 : Gam 33 = some fn33 := rfl
theorem g150 : Gam 150 = some fn150 := rfl
theorem g46 : Gam 46 = some fn46 := rfl
theorem g259 : Gam 259 = some fn259 := rfl
theorem g282 : Gam 282 = some fn282 := rfl
theorem g275 : Gam 275 = some fn275 := rfl
theorem g432 : Gam 432 = some fn432 := rfl
theorem g449 : Gam 449 = some fn449 := rfl
theorem g304 : Gam 304 = some fn304 := rfl
theorem g163 : Gam 163 = some fn163 := rfl
theorem g196 : Gam 196 = some fn196 := rfl
theorem g266 : Gam 266 = some fn266 := rfl
theorem g262 : Gam 262 = some fn262 := rfl
theorem g284 : Gam 284 = some fn284 := rfl
theorem g277 : Gam 277 = some fn277 := rfl
theorem g292 : Gam 292 = some fn292 := rfl
theorem g558 : Gam 558 = some fn558 := rfl
theorem g300 : Gam 300 = some fn300 := rfl
theorem g199 : Gam 199 = some fn199 := rfl
theorem g441 : Gam 441 = some fn441 := rfl
theorem g439 : Gam 439 = some fn439 := rfl
theorem g467 : Gam 467 = some fn467 := rfl
theorem g550 : Gam 550 = some fn550 := rfl
theorem g189 : Gam 189 = some fn189 := rfl
theorem g118 : Gam 118 = some fn118 := rfl
theorem g174 : Gam 174 = some fn174 := rfl
theorem g197 : Gam 197 = some fn197 := rfl
theorem g561 : Gam 561 = some fn561 := rfl
theorem g22 : Gam 22 = some fn22 := rfl
theorem g580 : Gam 580 = some fn580 := rfl
theorem g157 : Gam 157 = some fn157 := rfl
theorem g559 : Gam 559 = some fn559 := rfl
theorem g556 : Gam 556 = some fn556 := rfl
theorem g148 : Gam 148 = some fn148 := rfl
theorem g560 : Gam 560 = some fn560 := rfl
theorem g1 : Gam 1 = some fn1 := rfl
theorem g564 : Gam 564 = some fn564 := rfl
theorem g2 : Gam 2 = some fn2 := rfl
theorem g164 : Gam 164 = some fn164 := rfl
theorem g457 : Gam 457 = some fn457 := rfl
theorem g448 : Gam 448 = some fn448 := rfl
theorem g435 : Gam 435 = some fn435 := rfl
theorem g454 : Gam 454 = some fn454 := rfl
theorem g451 : Gam 451 = some fn451 := rfl
theorem g198 : Gam 198 = some fn198 := rfl
theorem g166 : Gam 166 = some fn166 := rfl
theorem g308 : Gam 308 = some fn308 := rfl
theorem g49 : Gam 49 = some fn49 := rfl
theorem g40 : Gam 40 = some fn40 := rfl
theorem g188 : Gam 188 = some fn188 := rfl
theorem g261 : Gam 261 = some fn261 := rfl
theorem g562 : Gam 562 = some fn562 := rfl
theorem g299 : Gam 299 = some fn299 := rfl
theorem g438 : Gam 438 = some fn438 := rfl
theorem g437 : Gam 437 = some fn437 := rfl
theorem g75 : Gam 75 = some fn75 := rfl
theorem g402 : Gam 402 = some fn402 := rfl
theorem g182 : Gam 182 = some fn182 := rfl
theorem g307 : Gam 307 = some fn307 := rfl
theorem g310 : Gam 310 = some fn310 := rfl
theorem g317 : Gam 317 = some fn317 := rfl
theorem g455 : Gam 455 = some fn455 := rfl
theorem g472 : Gam 472 = some fn472 := rfl
theorem g325 : Gam 325 = some fn325 := rfl
theorem g470 : Gam 470 = some fn470 := rfl
theorem g323 : Gam 323 = some fn323 := rfl
theorem g319 : Gam 319 = some fn319 := rfl
end Am
