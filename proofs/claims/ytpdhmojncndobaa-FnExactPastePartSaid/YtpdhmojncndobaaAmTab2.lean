/- The functions that are reached, in their normal form; written by a program. -/
import Derived.Test.YtpdhmojncndobaaAmTab1
set_option linter.unusedVariables false
set_option maxRecDepth 100000
namespace Am
open Go
/-- spec.l26Redo -/
def fn560 : AFun := ⟨1,
(.seq (reg [op 3 (.move (.tmp 0)) 1,
  op 4 (.nilCheck (.global 3)) 1,
  op 5 (.fieldAddr 4 (.global 4) 0) 1,
  op 6 (.load 0 (.global 5)) 1,
  op 7 (.indexAddr 7 (.global 6) (.const (I 0))) 1,
  op 8 (.load 4 (.global 7)) 1,
  op 2 (.move (.const (.agg #[(I 0), (I 0), (I 0)]))),
  op 2 (.insert 3 (.tmp 2) (.tmp 2) (.global 8))])
(.seq (reg [op 9 (.move (.tmp 0)) 1,
  op 10 (.nilCheck (.global 9)) 1,
  op 11 (.fieldAddr 0 (.global 10) 0) 1,
  op 12 (.fieldAddr 2 (.global 11) 0) 1,
  op 13 (.load 0 (.global 12)) 1,
  op 14 (.fieldAddr 0 (.tmp 2) 1) 1,
  op 15 (.lookup 0 (.tmp 2) (.global 14) false) 1,
  op 16 (.fieldAddr 2 (.tmp 2) 1) 1,
  op 17 (.lookup 0 (.tmp 2) (.global 16) false) 1,
  op 18 (.indexAddr 3 (.global 13) (.global 15)) 1,
  opn (.store 1 (.global 18) (.global 17))])
(.seq (reg [op 19 (.move (.tmp 0)) 1,
  op 20 (.move (.tmp 0)) 1,
  op 21 (.nilCheck (.global 20)) 1,
  op 22 (.fieldAddr 3 (.global 21) 0) 1,
  op 23 (.load 0 (.global 22)) 1,
  op 24 (.lookup 4 (.tmp 2) (.tmp 2) false) 1,
  op 25 (.buildSlice 3 1 #[(0, (.const (.agg #[(I 0), (I 0), (I 0)]))), (3, (.global 24))]) 1,
  op 26 (bi .append #[(.global 23), (.global 25)] 3) 1,
  op 27 (.nilCheck (.global 19)) 1,
  op 28 (.fieldAddr 3 (.global 27) 0) 1,
  opn (.store 1 (.global 28) (.global 26))])
(reg [op 29 (.move (.tmp 0)) 1,
  op 30 (.move (.const (sl 0 0 0 3))) 1,
  op 31 (.move (.tmp 0)) 1,
  op 32 (.nilCheck (.global 31)) 1,
  op 33 (.fieldAddr 4 (.global 32) 0) 1,
  op 34 (.load 0 (.global 33)) 1,
  op 35 (.slice 7 (.global 34) (some (.const (I 1))) none none) 1,
  op 36 (bi .append #[(.global 30), (.global 35)] 3) 1,
  op 37 (.nilCheck (.global 29)) 1,
  op 38 (.fieldAddr 4 (.global 37) 0) 1,
  opn (.store 1 (.global 38) (.global 36))])))), []⟩

/-- (*impl.Journal).redo -/
def fn1 : AFun := ⟨1,
(.seq (reg [op 3 (.move (.tmp 0)) 1,
  op 4 (.nilCheck (.global 3)) 1,
  op 5 (.fieldAddr 4 (.global 4) 0) 1,
  op 6 (.load 0 (.global 5)) 1,
  op 7 (.indexAddr 7 (.global 6) (.const (I 0))) 1,
  op 8 (.load 4 (.global 7)) 1,
  op 2 (.move (.const (.agg #[(I 0), (I 0), (I 0)]))),
  op 2 (.insert 3 (.tmp 2) (.tmp 2) (.global 8))])
(.seq (reg [op 9 (.move (.tmp 0)) 1,
  op 10 (.nilCheck (.global 9)) 1,
  op 11 (.fieldAddr 0 (.global 10) 0) 1,
  op 12 (.fieldAddr 2 (.global 11) 0) 1,
  op 13 (.load 0 (.global 12)) 1,
  op 14 (.fieldAddr 0 (.tmp 2) 1) 1,
  op 15 (.lookup 0 (.tmp 2) (.global 14) false) 1,
  op 16 (.fieldAddr 2 (.tmp 2) 1) 1,
  op 17 (.lookup 0 (.tmp 2) (.global 16) false) 1,
  op 18 (.indexAddr 3 (.global 13) (.global 15)) 1,
  opn (.store 1 (.global 18) (.global 17))])
(.seq (reg [op 19 (.move (.tmp 0)) 1,
  op 20 (.move (.tmp 0)) 1,
  op 21 (.nilCheck (.global 20)) 1,
  op 22 (.fieldAddr 4 (.global 21) 0) 1,
  op 23 (.load 0 (.global 22)) 1,
  op 24 (call (.func 310) #[(.global 23), (.const (I 0)), (.const (I 1))]) 1,
  op 25 (.nilCheck (.global 19)) 1,
  op 26 (.fieldAddr 4 (.global 25) 0) 1,
  opn (.store 1 (.global 26) (.global 24))])
(reg [op 27 (.move (.tmp 0)) 1,
  op 28 (.move (.tmp 0)) 1,
  op 29 (.nilCheck (.global 28)) 1,
  op 30 (.fieldAddr 3 (.global 29) 0) 1,
  op 31 (.load 0 (.global 30)) 1,
  op 32 (.lookup 4 (.tmp 2) (.tmp 2) false) 1,
  op 33 (.buildSlice 3 1 #[(0, (.const (.agg #[(I 0), (I 0), (I 0)]))), (3, (.global 32))]) 1,
  op 34 (bi .append #[(.global 31), (.global 33)] 3) 1,
  op 35 (.nilCheck (.global 27)) 1,
  op 36 (.fieldAddr 3 (.global 35) 0) 1,
  opn (.store 1 (.global 36) (.global 34))])))), []⟩

/-- spec.l26Undo -/
def fn564 : AFun := ⟨1,
(.seq (reg [op 4 (.move (.tmp 0)) 1,
  op 5 (.nilCheck (.global 4)) 1,
  op 6 (.fieldAddr 3 (.global 5) 0) 1,
  op 7 (.load 0 (.global 6)) 1,
  op 8 (bi .len #[(.global 7)] 1) 1,
  op 2 (.move (.global 8))])
(.seq (reg [op 9 (.move (.tmp 0)) 1,
  op 10 (.nilCheck (.global 9)) 1,
  op 11 (.fieldAddr 3 (.global 10) 0) 1,
  op 12 (.load 0 (.global 11)) 1,
  op 13 (.move (.tmp 2)) 1,
  op 14 (.binOp .sub 0 (.global 13) (.const (I 1)) 0) 1,
  op 15 (.indexAddr 7 (.global 12) (.global 14)) 1,
  op 16 (.load 4 (.global 15)) 1,
  op 3 (.move (.const (.agg #[(I 0), (I 0), (I 0)]))),
  op 3 (.insert 3 (.tmp 3) (.tmp 3) (.global 16))])
(.seq (reg [op 17 (.move (.tmp 0)) 1,
  op 18 (.nilCheck (.global 17)) 1,
  op 19 (.fieldAddr 0 (.global 18) 0) 1,
  op 20 (.fieldAddr 2 (.global 19) 0) 1,
  op 21 (.load 0 (.global 20)) 1,
  op 22 (.fieldAddr 0 (.tmp 3) 1) 1,
  op 23 (.lookup 0 (.tmp 3) (.global 22) false) 1,
  op 24 (.fieldAddr 1 (.tmp 3) 1) 1,
  op 25 (.lookup 0 (.tmp 3) (.global 24) false) 1,
  op 26 (.indexAddr 3 (.global 21) (.global 23)) 1,
  opn (.store 1 (.global 26) (.global 25))])
(.seq (reg [op 27 (.move (.tmp 0)) 1,
  op 28 (.move (.tmp 0)) 1,
  op 29 (.nilCheck (.global 28)) 1,
  op 30 (.fieldAddr 3 (.global 29) 0) 1,
  op 31 (.load 0 (.global 30)) 1,
  op 32 (.move (.tmp 2)) 1,
  op 33 (.binOp .sub 0 (.global 32) (.const (I 1)) 0) 1,
  op 34 (.slice 7 (.global 31) none (some (.global 33)) none) 1,
  op 35 (.nilCheck (.global 27)) 1,
  op 36 (.fieldAddr 3 (.global 35) 0) 1,
  opn (.store 1 (.global 36) (.global 34))])
(reg [op 37 (.move (.tmp 0)) 1,
  op 38 (.lookup 4 (.tmp 3) (.tmp 3) false) 1,
  op 39 (.buildSlice 3 1 #[(0, (.const (.agg #[(I 0), (I 0), (I 0)]))), (3, (.global 38))]) 1,
  op 40 (.move (.tmp 0)) 1,
  op 41 (.nilCheck (.global 40)) 1,
  op 42 (.fieldAddr 4 (.global 41) 0) 1,
  op 43 (.load 0 (.global 42)) 1,
  op 44 (bi .append #[(.global 39), (.global 43)] 3) 1,
  op 45 (.nilCheck (.global 37)) 1,
  op 46 (.fieldAddr 4 (.global 45) 0) 1,
  opn (.store 1 (.global 46) (.global 44))]))))), []⟩

/-- (*impl.Journal).undo -/
def fn2 : AFun := ⟨1,
(.seq (reg [op 4 (.move (.tmp 0)) 1,
  op 5 (.nilCheck (.global 4)) 1,
  op 6 (.fieldAddr 3 (.global 5) 0) 1,
  op 7 (.load 0 (.global 6)) 1,
  op 8 (bi .len #[(.global 7)] 1) 1,
  op 9 (.binOp .sub 0 (.global 8) (.const (I 1)) 0) 1,
  op 2 (.move (.global 9))])
(.seq (reg [op 10 (.move (.tmp 0)) 1,
  op 11 (.nilCheck (.global 10)) 1,
  op 12 (.fieldAddr 3 (.global 11) 0) 1,
  op 13 (.load 0 (.global 12)) 1,
  op 14 (.move (.tmp 2)) 1,
  op 15 (.indexAddr 7 (.global 13) (.global 14)) 1,
  op 16 (.load 4 (.global 15)) 1,
  op 3 (.move (.const (.agg #[(I 0), (I 0), (I 0)]))),
  op 3 (.insert 3 (.tmp 3) (.tmp 3) (.global 16))])
(.seq (reg [op 17 (.move (.tmp 0)) 1,
  op 18 (.nilCheck (.global 17)) 1,
  op 19 (.fieldAddr 0 (.global 18) 0) 1,
  op 20 (.fieldAddr 2 (.global 19) 0) 1,
  op 21 (.load 0 (.global 20)) 1,
  op 22 (.fieldAddr 0 (.tmp 3) 1) 1,
  op 23 (.lookup 0 (.tmp 3) (.global 22) false) 1,
  op 24 (.fieldAddr 1 (.tmp 3) 1) 1,
  op 25 (.lookup 0 (.tmp 3) (.global 24) false) 1,
  op 26 (.indexAddr 3 (.global 21) (.global 23)) 1,
  opn (.store 1 (.global 26) (.global 25))])
(.seq (reg [op 27 (.move (.tmp 0)) 1,
  op 28 (.move (.tmp 0)) 1,
  op 29 (.nilCheck (.global 28)) 1,
  op 30 (.fieldAddr 3 (.global 29) 0) 1,
  op 31 (.load 0 (.global 30)) 1,
  op 32 (.move (.tmp 2)) 1,
  op 33 (.slice 7 (.global 31) none (some (.global 32)) none) 1,
  op 34 (.nilCheck (.global 27)) 1,
  op 35 (.fieldAddr 3 (.global 34) 0) 1,
  opn (.store 1 (.global 35) (.global 33))])
(reg [op 36 (.move (.tmp 0)) 1,
  op 37 (.move (.tmp 0)) 1,
  op 38 (.nilCheck (.global 37)) 1,
  op 39 (.fieldAddr 4 (.global 38) 0) 1,
  op 40 (.load 0 (.global 39)) 1,
  op 41 (.lookup 4 (.tmp 3) (.tmp 3) false) 1,
  op 42 (.buildSlice 3 1 #[(0, (.const (.agg #[(I 0), (I 0), (I 0)]))), (3, (.global 41))]) 1,
  op 43 (call (.func 317) #[(.global 40), (.const (I 0)), (.global 42)]) 1,
  op 44 (.nilCheck (.global 36)) 1,
  op 45 (.fieldAddr 4 (.global 44) 0) 1,
  opn (.store 1 (.global 45) (.global 43))]))))), []⟩

/-- impl.inRange -/
def fn164 : AFun := ⟨3,
(.seq (reg [op 6 (.move (.const (B false)))])
(.seq (reg [op 7 (.move (.tmp 0)) 1,
  op 8 (.move (.tmp 1)) 1,
  op 9 (.binOp .geq 0 (.global 7) (.global 8) 0) 1,
  op 10 (.move (.global 9)) 1,
  op 11 (.move (.tmp 0)) 1 (some (21, true)),
  op 12 (.move (.tmp 2)) 1 (some (21, true)),
  op 13 (.binOp .leq 0 (.global 11) (.global 12) 0) 1 (some (21, true)),
  op 14 (.pick (.global 10) (.global 13) (.const (B false))) 1,
  op 6 (.move (.global 14))])
.ret)), [(6, 0)]⟩

/-- spec.l02Side -/
def fn457 : AFun := ⟨1,
(.seq (reg [op 2 (.move (.const (B false)))])
(.seq (reg [op 3 (.move (.tmp 0)) 1,
  op 4 (call (.func 432) #[(.global 3), (.const (I 1)), (.const (I 8))]) 1,
  op 2 (.move (.global 4))])
.ret)), [(2, 0)]⟩

/-- spec.l02Inner -/
def fn448 : AFun := ⟨2,
(.seq (reg [op 4 (.move (.const (I 0)))])
(.seq (reg [op 5 (.move (.tmp 0)) 1,
  op 6 (.move (.tmp 1)) 1,
  op 7 (.binOp .sub 0 (.global 6) (.const (I 1)) 0) 1,
  op 8 (.binOp .mul 0 (.global 5) (.global 7) 0) 1,
  op 9 (.move (.tmp 1)) 1,
  op 10 (.move (.tmp 0)) 1,
  op 11 (.binOp .sub 0 (.global 10) (.const (I 1)) 0) 1,
  op 12 (.binOp .mul 0 (.global 9) (.global 11) 0) 1,
  op 13 (.binOp .add 0 (.global 8) (.global 12) 0) 1,
  op 4 (.move (.global 13))])
.ret)), [(4, 0)]⟩

/-- spec.l00Own -/
def fn435 : AFun := ⟨1,
(.seq (reg [op 2 (.move (.const (sl 0 0 0 0)))])
(.seq (reg [op 3 (.move (.const (sl 0 0 0 1))) 1,
  op 4 (.move (.tmp 0)) 1,
  op 5 (bi .append #[(.global 3), (.global 4)] 1) 1,
  op 2 (.move (.global 5))])
.ret)), [(2, 0)]⟩

/-- spec.l02Point -/
def fn454 : AFun := ⟨2,
(.seq (reg [op 4 (.move (.const (.agg #[(I 0), (I 0)])))])
(.seq (reg [op 5 (.move (.const (I 1)))])
(.seq (.block 0
  (.loop
    (.seq (.seq (reg [op 6 (.move (.tmp 5)) 1,
      op 7 (.binOp .add 0 (.global 6) (.const (I 1)) 0) 1,
      op 8 (.move (.tmp 0)) 1,
      op 9 (.nilCheck (.global 8)) 1,
      op 10 (.fieldAddr 1 (.global 9) 0) 1,
      op 11 (.load 0 (.global 10)) 1,
      op 12 (.binOp .mul 0 (.const (I 2)) (.global 11) 0) 1,
      op 13 (.binOp .lss 0 (.global 7) (.global 12) 0) 1,
      op 14 (.move (.global 13)) 1,
      op 15 (.move (.tmp 0)) 1 (some (29, true)),
      op 16 (.move (.tmp 5)) 1 (some (29, true)),
      op 17 (.binOp .add 0 (.global 16) (.const (I 1)) 0) 1 (some (29, true)),
      op 18 (call (.func 455) #[(.global 15), (.global 17)]) 1 (some (29, true)),
      op 19 (.move (.tmp 1)) 1 (some (29, true)),
      op 20 (.binOp .leq 0 (.global 18) (.global 19) 0) 1 (some (29, true)),
      op 21 (.pick (.global 14) (.global 20) (.const (B false)))])
    (.cond (.tmp 21)
      .skip
      (.exit 0)))
    (.block 1
      (reg [op 22 (.move (.tmp 5)) 1,
        op 23 (.binOp .add 0 (.global 22) (.const (I 1)) 0) 1,
        op 5 (.move (.global 23))])))))
(.seq (reg [op 24 (.move (.tmp 1)) 1,
  op 25 (.move (.tmp 0)) 1,
  op 26 (.move (.tmp 5)) 1,
  op 27 (call (.func 455) #[(.global 25), (.global 26)]) 1,
  op 28 (.binOp .sub 0 (.global 24) (.global 27) 0) 1,
  op 29 (.binOp .mul 0 (.const (I 2)) (.global 28) 0) 1,
  op 30 (.binOp .add 0 (.global 29) (.const (I 1)) 0) 1,
  op 31 (.move (.tmp 5)) 1,
  op 32 (.binOp .rem 0 (.global 31) (.const (I 2)) 0) 1,
  op 33 (.binOp .add 0 (.global 30) (.global 32) 0) 1,
  op 34 (.move (.tmp 5)) 1,
  op 35 (.build 0 #[(0, (.const (.agg #[(I 0), (I 0)]))), (1, (.global 33)), (1001, (.global 34))]) 1,
  op 4 (.insert 2 (.tmp 4) (.tmp 4) (.global 35))])
.ret)))), [(4, 1000003)]⟩

/-- spec.l02Number -/
def fn451 : AFun := ⟨2,
(.seq (reg [op 3 (.makeChan 2 (.tmp 1)),
  op 4 (.move (.const (I 0)))])
(.seq (reg [op 5 (.move (.tmp 0)) 1,
  op 6 (.fieldAddr 1 (.tmp 3) 1) 1,
  op 7 (.lookup 0 (.tmp 3) (.global 6) false) 1,
  op 8 (call (.func 455) #[(.global 5), (.global 7)]) 1,
  op 9 (.fieldAddr 0 (.tmp 3) 1) 1,
  op 10 (.lookup 0 (.tmp 3) (.global 9) false) 1,
  op 11 (.binOp .sub 0 (.global 10) (.const (I 1)) 0) 1,
  op 12 (.binOp .quo 0 (.global 11) (.const (I 2)) 0) 1,
  op 13 (.binOp .add 0 (.global 8) (.global 12) 0) 1,
  op 4 (.move (.global 13))])
.ret)), [(4, 0)]⟩

/-- impl.validSize -/
def fn198 : AFun := ⟨2,
(.seq (reg [op 4 (.move (.const (B false)))])
(.seq (reg [op 5 (.move (.tmp 0)) 1,
  op 6 (call (.func 164) #[(.global 5), (.const (I 1)), (.const (I 8))]) 1,
  op 7 (.move (.global 6)) 1,
  op 8 (.move (.tmp 1)) 1 (some (15, true)),
  op 9 (call (.func 164) #[(.global 8), (.const (I 1)), (.const (I 8))]) 1 (some (15, true)),
  op 10 (.pick (.global 7) (.global 9) (.const (B false))) 1,
  op 4 (.move (.global 10))])
.ret)), [(4, 0)]⟩

/-- impl.innerPoints -/
def fn166 : AFun := ⟨2,
(.seq (reg [op 4 (.move (.const (I 0)))])
(.seq (reg [op 5 (.move (.tmp 0)) 1,
  op 6 (.move (.tmp 1)) 1,
  op 7 (.binOp .sub 0 (.global 6) (.const (I 1)) 0) 1,
  op 8 (.binOp .mul 0 (.global 5) (.global 7) 0) 1,
  op 9 (.move (.tmp 1)) 1,
  op 10 (.move (.tmp 0)) 1,
  op 11 (.binOp .sub 0 (.global 10) (.const (I 1)) 0) 1,
  op 12 (.binOp .mul 0 (.global 9) (.global 11) 0) 1,
  op 13 (.binOp .add 0 (.global 8) (.global 12) 0) 1,
  op 4 (.move (.global 13))])
.ret)), [(4, 0)]⟩

/-- slices.Clone[[]int64,int64] -/
def fn308 : AFun := ⟨1,
(.seq (reg [op 2 (.move (.const (sl 0 0 0 0)))])
(.seq (.seq (reg [op 3 (.move (.tmp 0)) 1,
  op 4 (.binOp .eql 0 (.global 3) (.const (sl 0 0 0 0)) 1)])
(.cond (.tmp 4)
  (.seq (reg [op 2 (.move (.const (sl 0 0 0 0)))])
  .ret)
  .skip))
(.seq (reg [op 5 (.move (.const (sl 0 0 0 1))) 1,
  op 6 (.move (.tmp 0)) 1,
  op 7 (bi .append #[(.global 5), (.global 6)] 1) 1,
  op 2 (.move (.global 7))])
.ret))), [(2, 0)]⟩

/-- (impl.Panel).points -/
def fn49 : AFun := ⟨1,
(.seq (reg [op 1 (.makeChan 3 (.tmp 0)),
  op 2 (.move (.const (sl 0 0 0 0)))])
(.seq (reg [op 6 (.move (.const (sl 0 0 0 2))) 1,
  op 3 (.move (.global 6))])
(.seq (.seq (reg [op 4 (.move (.const (I 1)))])
(.block 0
  (.loop
    (.seq (.seq (reg [op 7 (.move (.tmp 4)) 1,
      op 8 (.fieldAddr 1 (.tmp 1) 1) 1,
      op 9 (.lookup 0 (.tmp 1) (.global 8) false) 1,
      op 10 (.binOp .mul 0 (.const (I 2)) (.global 9) 0) 1,
      op 11 (.binOp .lss 0 (.global 7) (.global 10) 0)])
    (.cond (.tmp 11)
      .skip
      (.exit 0)))
    (.seq (.block 1
      (.seq (reg [op 14 (.move (.tmp 4)) 1,
        op 15 (.binOp .rem 0 (.global 14) (.const (I 2)) 0) 1,
        op 16 (.binOp .add 0 (.const (I 1)) (.global 15) 0) 1,
        op 5 (.move (.global 16))])
      (.block 2
        (.loop
          (.seq (.seq (reg [op 17 (.move (.tmp 5)) 1,
            op 18 (.fieldAddr 0 (.tmp 1) 1) 1,
            op 19 (.lookup 0 (.tmp 1) (.global 18) false) 1,
            op 20 (.binOp .mul 0 (.const (I 2)) (.global 19) 0) 1,
            op 21 (.binOp .lss 0 (.global 17) (.global 20) 0)])
          (.cond (.tmp 21)
            .skip
            (.exit 2)))
          (.seq (.block 3
            (reg [op 24 (.move (.tmp 3)) 1,
              op 25 (.move (.tmp 5)) 1,
              op 26 (.move (.tmp 4)) 1,
              op 27 (.build 0 #[(0, (.const (.agg #[(I 0), (I 0)]))), (1, (.global 25)), (1001, (.global 26))]) 1,
              op 28 (.buildSlice 2 1 #[(0, (.const (.agg #[(I 0), (I 0)]))), (2, (.global 27))]) 1,
              op 29 (bi .append #[(.global 24), (.global 28)] 2) 1,
              op 3 (.move (.global 29))]))
          (reg [op 22 (.move (.tmp 5)) 1,
            op 23 (.binOp .add 0 (.global 22) (.const (I 2)) 0) 1,
            op 5 (.move (.global 23))])))))))
    (reg [op 12 (.move (.tmp 4)) 1,
      op 13 (.binOp .add 0 (.global 12) (.const (I 1)) 0) 1,
      op 4 (.move (.global 13))]))))))
(.seq (reg [op 30 (.move (.tmp 3)) 1,
  op 2 (.move (.global 30))])
.ret)))), [(2, 0)]⟩

/-- (impl.Panel).number -/
def fn40 : AFun := ⟨2,
(.seq (reg [op 2 (.makeChan 3 (.tmp 0)),
  op 3 (.makeChan 2 (.tmp 1)),
  op 4 (.move (.const (I 0)))])
(.seq (reg [op 6 (.fieldAddr 1 (.tmp 3) 1) 1,
  op 7 (.lookup 0 (.tmp 3) (.global 6) false) 1,
  op 8 (.binOp .quo 0 (.global 7) (.const (I 2)) 0) 1,
  op 9 (.fieldAddr 0 (.tmp 2) 1) 1,
  op 10 (.lookup 0 (.tmp 2) (.global 9) false) 1,
  op 11 (.binOp .sub 0 (.global 10) (.const (I 1)) 0) 1,
  op 12 (.binOp .mul 0 (.global 8) (.global 11) 0) 1,
  op 13 (.fieldAddr 1 (.tmp 3) 1) 1,
  op 14 (.lookup 0 (.tmp 3) (.global 13) false) 1,
  op 15 (.binOp .sub 0 (.global 14) (.const (I 1)) 0) 1,
  op 16 (.binOp .quo 0 (.global 15) (.const (I 2)) 0) 1,
  op 17 (.fieldAddr 0 (.tmp 2) 1) 1,
  op 18 (.lookup 0 (.tmp 2) (.global 17) false) 1,
  op 19 (.binOp .mul 0 (.global 16) (.global 18) 0) 1,
  op 20 (.binOp .add 0 (.global 12) (.global 19) 0) 1,
  op 5 (.move (.global 20))])
(.seq (.seq (reg [op 21 (.fieldAddr 1 (.tmp 3) 1) 1,
  op 22 (.lookup 0 (.tmp 3) (.global 21) false) 1,
  op 23 (.binOp .rem 0 (.global 22) (.const (I 2)) 0) 1,
  op 24 (.binOp .eql 0 (.global 23) (.const (I 1)) 0)])
(.cond (.tmp 24)
  (.seq (reg [op 25 (.move (.tmp 5)) 1,
    op 26 (.fieldAddr 0 (.tmp 3) 1) 1,
    op 27 (.lookup 0 (.tmp 3) (.global 26) false) 1,
    op 28 (.binOp .quo 0 (.global 27) (.const (I 2)) 0) 1,
    op 29 (.binOp .add 0 (.global 25) (.global 28) 0) 1,
    op 30 (.binOp .sub 0 (.global 29) (.const (I 1)) 0) 1,
    op 4 (.move (.global 30))])
  .ret)
  .skip))
(.seq (reg [op 31 (.move (.tmp 5)) 1,
  op 32 (.fieldAddr 0 (.tmp 3) 1) 1,
  op 33 (.lookup 0 (.tmp 3) (.global 32) false) 1,
  op 34 (.binOp .quo 0 (.global 33) (.const (I 2)) 0) 1,
  op 35 (.binOp .add 0 (.global 31) (.global 34) 0) 1,
  op 4 (.move (.global 35))])
.ret)))), [(4, 0)]⟩

/-- impl.shifted -/
def fn188 : AFun := ⟨3,
(.seq (reg [op 3 (.makeChan 2 (.tmp 0)),
  op 6 (.move (.const (.agg #[(I 0), (I 0)])))])
(.seq (reg [op 7 (.fieldAddr 0 (.tmp 3) 1) 1,
  op 8 (.lookup 0 (.tmp 3) (.global 7) false) 1,
  op 9 (.move (.tmp 1)) 1,
  op 10 (.binOp .mul 0 (.const (I 2)) (.global 9) 0) 1,
  op 11 (.binOp .add 0 (.global 8) (.global 10) 0) 1,
  op 12 (.fieldAddr 1 (.tmp 3) 1) 1,
  op 13 (.lookup 0 (.tmp 3) (.global 12) false) 1,
  op 14 (.move (.tmp 2)) 1,
  op 15 (.binOp .mul 0 (.const (I 2)) (.global 14) 0) 1,
  op 16 (.binOp .add 0 (.global 13) (.global 15) 0) 1,
  op 17 (.build 0 #[(0, (.const (.agg #[(I 0), (I 0)]))), (1, (.global 11)), (1001, (.global 16))]) 1,
  op 6 (.insert 2 (.tmp 6) (.tmp 6) (.global 17))])
.ret)), [(6, 1000003)]⟩

/-- laws.eqJournalStep -/
def fn261 : AFun := ⟨2,
(.seq (reg [op 2 (.makeChan 3 (.tmp 0)),
  op 3 (.makeChan 3 (.tmp 1)),
  op 4 (.move (.const (B false)))])
(.seq (.seq (reg [op 5 (.fieldAddr 0 (.tmp 2) 1) 1,
  op 6 (.lookup 0 (.tmp 2) (.global 5) false) 1,
  op 7 (.fieldAddr 0 (.tmp 3) 1) 1,
  op 8 (.lookup 0 (.tmp 3) (.global 7) false) 1,
  op 9 (.binOp .neq 0 (.global 6) (.global 8) 0)])
(.cond (.tmp 9)
  (.seq (reg [op 4 (.move (.const (B false)))])
  .ret)
  .skip))
(.seq (.seq (reg [op 10 (.fieldAddr 1 (.tmp 2) 1) 1,
  op 11 (.lookup 0 (.tmp 2) (.global 10) false) 1,
  op 12 (.fieldAddr 1 (.tmp 3) 1) 1,
  op 13 (.lookup 0 (.tmp 3) (.global 12) false) 1,
  op 14 (.binOp .neq 0 (.global 11) (.global 13) 0)])
(.cond (.tmp 14)
  (.seq (reg [op 4 (.move (.const (B false)))])
  .ret)
  .skip))
(.seq (.seq (reg [op 15 (.fieldAddr 2 (.tmp 2) 1) 1,
  op 16 (.lookup 0 (.tmp 2) (.global 15) false) 1,
  op 17 (.fieldAddr 2 (.tmp 3) 1) 1,
  op 18 (.lookup 0 (.tmp 3) (.global 17) false) 1,
  op 19 (.binOp .neq 0 (.global 16) (.global 18) 0)])
(.cond (.tmp 19)
  (.seq (reg [op 4 (.move (.const (B false)))])
  .ret)
  .skip))
(.seq (reg [op 4 (.move (.const (B true)))])
.ret))))), [(4, 0)]⟩

/-- spec.l26Step -/
def fn562 : AFun := ⟨2,
(.seq (reg [op 3 (.makeChan 3 (.tmp 1)),
  op 4 (.move (.const (B false)))])
(.seq (reg [op 5 (.fieldAddr 0 (.tmp 3) 1) 1,
  op 6 (.lookup 0 (.tmp 3) (.global 5) false) 1,
  op 7 (.move (.tmp 0)) 1,
  op 8 (.nilCheck (.global 7)) 1,
  op 9 (.fieldAddr 2 (.global 8) 0) 1,
  op 10 (.load 0 (.global 9)) 1,
  op 11 (bi .len #[(.global 10)] 1) 1,
  op 12 (.binOp .sub 0 (.global 11) (.const (I 1)) 0) 1,
  op 13 (call (.func 432) #[(.global 6), (.const (I 0)), (.global 12)]) 1,
  op 14 (.move (.global 13)) 1,
  op 15 (.fieldAddr 1 (.tmp 3) 1) 1 (some (29, true)),
  op 16 (.lookup 0 (.tmp 3) (.global 15) false) 1 (some (29, true)),
  op 17 (call (.func 449) #[(.global 16)]) 1 (some (29, true)),
  op 18 (.pick (.global 14) (.global 17) (.const (B false))) 1,
  op 19 (.move (.global 18)) 1,
  op 20 (.fieldAddr 2 (.tmp 3) 1) 1 (some (39, true)),
  op 21 (.lookup 0 (.tmp 3) (.global 20) false) 1 (some (39, true)),
  op 22 (call (.func 449) #[(.global 21)]) 1 (some (39, true)),
  op 23 (.pick (.global 19) (.global 22) (.const (B false))) 1,
  op 24 (.move (.global 23)) 1,
  op 25 (.fieldAddr 1 (.tmp 3) 1) 1 (some (49, true)),
  op 26 (.lookup 0 (.tmp 3) (.global 25) false) 1 (some (49, true)),
  op 27 (.fieldAddr 2 (.tmp 3) 1) 1 (some (49, true)),
  op 28 (.lookup 0 (.tmp 3) (.global 27) false) 1 (some (49, true)),
  op 29 (.binOp .neq 0 (.global 26) (.global 28) 0) 1 (some (49, true)),
  op 30 (.pick (.global 24) (.global 29) (.const (B false))) 1,
  op 4 (.move (.global 30))])
.ret)), [(4, 0)]⟩

/-- laws.toJournalStep -/
def fn299 : AFun := ⟨1,
(.seq (reg [op 1 (.makeChan 3 (.tmp 0)),
  op 2 (.move (.const (.agg #[(I 0), (I 0), (I 0)])))])
(.seq (reg [op 3 (.move (.const (.agg #[(I 0), (I 0), (I 0)])))])
(.seq (reg [op 4 (.fieldAddr 0 (.tmp 1) 1) 1,
  op 5 (.lookup 0 (.tmp 1) (.global 4) false) 1,
  op 6 (.fieldAddr 0 (.tmp 3) 1) 1,
  op 3 (.insert 1 (.tmp 3) (.global 6) (.global 5))])
(.seq (reg [op 7 (.fieldAddr 1 (.tmp 1) 1) 1,
  op 8 (.lookup 0 (.tmp 1) (.global 7) false) 1,
  op 9 (.fieldAddr 1 (.tmp 3) 1) 1,
  op 3 (.insert 1 (.tmp 3) (.global 9) (.global 8))])
(.seq (reg [op 10 (.fieldAddr 2 (.tmp 1) 1) 1,
  op 11 (.lookup 0 (.tmp 1) (.global 10) false) 1,
  op 12 (.fieldAddr 2 (.tmp 3) 1) 1,
  op 3 (.insert 1 (.tmp 3) (.global 12) (.global 11))])
(.seq (reg [op 13 (.lookup 4 (.tmp 3) (.tmp 3) false) 1,
  op 2 (.insert 3 (.tmp 2) (.tmp 2) (.global 13))])
.ret)))))), [(2, 1000004)]⟩

/-- spec.l01Digit -/
def fn438 : AFun := ⟨1,
(.seq (reg [op 2 (.move (.const (B false)))])
(.seq (reg [op 3 (.move (.tmp 0)) 1,
  op 4 (.binOp .geq 0 (.global 3) (.const (U 48)) 0) 1,
  op 5 (.move (.global 4)) 1,
  op 6 (.move (.tmp 0)) 1 (some (11, true)),
  op 7 (.binOp .leq 0 (.global 6) (.const (U 57)) 0) 1 (some (11, true)),
  op 8 (.pick (.global 5) (.global 7) (.const (B false))) 1,
  op 2 (.move (.global 8))])
.ret)), [(2, 0)]⟩

/-- spec.l01Dec -/
def fn437 : AFun := ⟨1,
(.seq (reg [op 2 (.move (.const (S [])))])
(.seq (reg [op 6 (.move (.const (sl 0 0 0 1))) 1,
  op 3 (.move (.global 6))])
(.seq (.seq (reg [op 7 (.move (.tmp 0)) 1,
  op 4 (.move (.global 7))])
(.block 0
  (.loop
    (.seq (.seq (reg [op 8 (.move (.tmp 4)) 1,
      op 9 (.binOp .neq 0 (.global 8) (.const (I 0)) 0)])
    (.cond (.tmp 9)
      .skip
      (.exit 0)))
    (.seq (.block 1
      (.seq (reg [op 12 (.move (.tmp 4)) 1,
        op 13 (.binOp .rem 0 (.global 12) (.const (I 10)) 0) 1,
        op 5 (.move (.global 13))])
      (.seq (.seq (reg [op 14 (.move (.tmp 5)) 1,
        op 15 (.binOp .lss 0 (.global 14) (.const (I 0)) 0)])
      (.cond (.tmp 15)
        (reg [op 16 (.move (.tmp 5)) 1,
          op 17 (.unOp .neg 0 (.global 16)) 1,
          op 5 (.move (.global 17))])
        .skip))
      (reg [op 18 (.move (.tmp 5)) 1,
        op 19 (.binOp .add 0 (.const (I 48)) (.global 18) 0) 1,
        op 20 (.convert 0 4 (.global 19)) 1,
        op 21 (.buildSlice 1 1 #[(0, (.const (.agg #[(U 0)]))), (1, (.global 20))]) 1,
        op 22 (.move (.tmp 3)) 1,
        op 23 (bi .append #[(.global 21), (.global 22)] 1) 1,
        op 3 (.move (.global 23))]))))
    (reg [op 10 (.move (.tmp 4)) 1,
      op 11 (.binOp .quo 0 (.global 10) (.const (I 10)) 0) 1,
      op 4 (.move (.global 11))]))))))
(.seq (.seq (reg [op 24 (.move (.tmp 3)) 1,
  op 25 (bi .len #[(.global 24)] 1) 1,
  op 26 (.binOp .eql 0 (.global 25) (.const (I 0)) 0)])
(.cond (.tmp 26)
  (.seq (reg [op 2 (.move (.const (S [48])))])
  .ret)
  .skip))
(.seq (.seq (reg [op 27 (.move (.tmp 0)) 1,
  op 28 (.binOp .lss 0 (.global 27) (.const (I 0)) 0)])
(.cond (.tmp 28)
  (.seq (reg [op 29 (.move (.tmp 3)) 1,
    op 30 (.convert 0 21 (.global 29)) 1,
    op 31 (.binOp .add 0 (.const (S [45])) (.global 30) 0) 1,
    op 2 (.move (.global 31))])
  .ret)
  .skip))
(.seq (reg [op 32 (.move (.tmp 3)) 1,
  op 33 (.convert 0 21 (.global 32)) 1,
  op 2 (.move (.global 33))])
.ret)))))), [(2, 0)]⟩

/-- impl.Decimal -/
def fn75 : AFun := ⟨1,
(.seq (reg [op 2 (.move (.const (S [])))])
(.seq (.seq (reg [op 6 (.move (.tmp 0)) 1,
  op 7 (.binOp .eql 0 (.global 6) (.const (I 0)) 0)])
(.cond (.tmp 7)
  (.seq (reg [op 2 (.move (.const (S [48])))])
  .ret)
  .skip))
(.seq (reg [op 8 (.build 0 #[(0, (.const (.agg #[(U 0), (U 0), (U 0), (U 0), (U 0), (U 0), (U 0), (U 0), (U 0), (U 0), (U 0), (U 0), (U 0), (U 0), (U 0), (U 0), (U 0), (U 0), (U 0), (U 0)])))]) 1,
  op 3 (.box 20 (.const (.agg #[(U 0), (U 0), (U 0), (U 0), (U 0), (U 0), (U 0), (U 0), (U 0), (U 0), (U 0), (U 0), (U 0), (U 0), (U 0), (U 0), (U 0), (U 0), (U 0), (U 0)]))),
  opn (.store 20 (.tmp 3) (.global 8))])
(.seq (reg [op 4 (.move (.const (I 20)))])
(.seq (reg [op 9 (.move (.tmp 0)) 1,
  op 10 (.convert 0 7 (.global 9)) 1,
  op 5 (.move (.global 10))])
(.seq (.seq (reg [op 11 (.move (.tmp 0)) 1,
  op 12 (.binOp .lss 0 (.global 11) (.const (I 0)) 0)])
(.cond (.tmp 12)
  (reg [op 13 (.move (.tmp 5)) 1,
    op 14 (.unOp .neg 0 (.global 13)) 1,
    op 5 (.move (.global 14))])
  .skip))
(.seq (.block 0
  (.loop
    (.seq (.seq (reg [op 15 (.move (.tmp 5)) 1,
      op 16 (.binOp .gtr 0 (.global 15) (.const (.int .u64 0)) 0)])
    (.cond (.tmp 16)
      .skip
      (.exit 0)))
    (.block 1
      (.seq (reg [op 17 (.move (.tmp 4)) 1,
        op 18 (.binOp .sub 0 (.global 17) (.const (I 1)) 0) 1,
        op 4 (.move (.global 18))])
      (.seq (reg [op 19 (.move (.tmp 4)) 1,
        op 20 (.move (.tmp 5)) 1,
        op 21 (.binOp .rem 0 (.global 20) (.const (.int .u64 10)) 0) 1,
        op 22 (.binOp .add 0 (.const (.int .u64 48)) (.global 21) 0) 1,
        op 23 (.convert 0 4 (.global 22)) 1,
        op 24 (.indexAddr 1020001 (.tmp 3) (.global 19)) 1,
        opn (.store 1 (.global 24) (.global 23))])
      (reg [op 25 (.move (.tmp 5)) 1,
        op 26 (.binOp .quo 0 (.global 25) (.const (.int .u64 10)) 0) 1,
        op 5 (.move (.global 26))])))))))
(.seq (.seq (reg [op 27 (.move (.tmp 0)) 1,
  op 28 (.binOp .lss 0 (.global 27) (.const (I 0)) 0)])
(.cond (.tmp 28)
  (.seq (reg [op 29 (.move (.tmp 4)) 1,
    op 30 (.binOp .sub 0 (.global 29) (.const (I 1)) 0) 1,
    op 4 (.move (.global 30))])
  (reg [op 31 (.move (.tmp 4)) 1,
    op 32 (.indexAddr 1020001 (.tmp 3) (.global 31)) 1,
    opn (.store 1 (.global 32) (.const (U 45)))]))
  .skip))
(.seq (reg [op 33 (.move (.tmp 4)) 1,
  op 34 (.slice 1020001 (.tmp 3) (some (.global 33)) none none) 1,
  op 35 (.convert 0 21 (.global 34)) 1,
  op 2 (.move (.global 35))])
.ret))))))))), [(2, 0)]⟩

/-- spec.PanelText -/
def fn402 : AFun := ⟨1,
(.seq (reg [op 1 (.box 3 (.tmp 0)),
  op 2 (.move (.const (S [])))])
(.seq (.seq (reg [op 3 (call (.func 452) #[(.tmp 1)]) 1,
  op 4 (.unOp .not 0 (.global 3))])
(.cond (.tmp 4)
  (.seq (reg [op 2 (.move (.const (S [])))])
  .ret)
  .skip))
(.seq (reg [op 5 (call (.func 472) #[(.tmp 1)]) 1,
  op 2 (.move (.global 5))])
.ret))), [(2, 0)]⟩

/-- impl.panelText -/
def fn182 : AFun := ⟨1,
(.seq (reg [op 1 (.makeChan 3 (.tmp 0)),
  op 2 (.move (.const (S [])))])
(.seq (reg [op 6 (.fieldAddr 0 (.tmp 1) 1) 1,
  op 7 (.lookup 0 (.tmp 1) (.global 6) false) 1,
  op 8 (call (.func 75) #[(.global 7)]) 1,
  op 9 (.binOp .add 0 (.global 8) (.const (S [120])) 0) 1,
  op 10 (.fieldAddr 1 (.tmp 1) 1) 1,
  op 11 (.lookup 0 (.tmp 1) (.global 10) false) 1,
  op 12 (call (.func 75) #[(.global 11)]) 1,
  op 13 (.binOp .add 0 (.global 9) (.global 12) 0) 1,
  op 14 (.binOp .add 0 (.global 13) (.const (S [58])) 0) 1,
  op 3 (.move (.global 14))])
(.seq (.seq (reg [op 15 (.fieldAddr 2 (.tmp 1) 1) 1,
  op 16 (.lookup 0 (.tmp 1) (.global 15) false),
  op 17 (bi .len #[(.tmp 16)] 1),
  op 18 (.move (.const (I 0)))])
(.block 0
  (.loop
    (.seq (reg [op 19 (.binOp .lss 0 (.tmp 18) (.tmp 17) 0)])
    (.seq (.cond (.tmp 19)
      .skip
      (.exit 0))
    (.seq (.block 1
      (.seq (reg [op 20 (.indexAddr 3 (.tmp 16) (.tmp 18)) 1,
        op 21 (.load 0 (.global 20)) 1,
        op 5 (.move (.global 21))])
      (reg [op 22 (.move (.tmp 3)) 1,
        op 23 (.move (.tmp 5)) 1,
        op 24 (.move (.tmp 5)) 1,
        op 25 (.binOp .add 0 (.global 24) (.const (I 1)) 0) 1,
        op 26 (.slice 0 (.const (S [43, 124, 45])) (some (.global 23)) (some (.global 25)) none) 1,
        op 27 (.binOp .add 0 (.global 22) (.global 26) 0) 1,
        op 3 (.move (.global 27))])))
    (reg [op 28 (.binOp .add 0 (.tmp 18) (.const (I 1)) 0) 1,
      op 18 (.move (.global 28))])))))))
(.seq (reg [op 29 (.move (.tmp 3)) 1,
  op 2 (.move (.global 29))])
.ret)))), [(2, 0)]⟩

/-- slices.Clone[[]impl.JournalStep,impl.JournalStep] -/
def fn307 : AFun := ⟨1,
(.seq (reg [op 2 (.move (.const (sl 0 0 0 0)))])
(.seq (.seq (reg [op 3 (.move (.tmp 0)) 1,
  op 4 (.binOp .eql 0 (.global 3) (.const (sl 0 0 0 0)) 1)])
(.cond (.tmp 4)
  (.seq (reg [op 2 (.move (.const (sl 0 0 0 0)))])
  .ret)
  .skip))
(.seq (reg [op 5 (.move (.const (sl 0 0 0 3))) 1,
  op 6 (.move (.tmp 0)) 1,
  op 7 (bi .append #[(.global 5), (.global 6)] 3) 1,
  op 2 (.move (.global 7))])
.ret))), [(2, 0)]⟩

/-- spec.l02Row -/
def fn455 : AFun := ⟨2,
(.seq (reg [op 4 (.move (.const (I 0)))])
(.seq (reg [op 5 (.move (.const (I 0)))])
(.seq (.seq (reg [op 6 (.move (.const (I 1)))])
(.block 0
  (.loop
    (.seq (.seq (reg [op 7 (.move (.tmp 6)) 1,
      op 8 (.move (.tmp 1)) 1,
      op 9 (.binOp .lss 0 (.global 7) (.global 8) 0)])
    (.cond (.tmp 9)
      .skip
      (.exit 0)))
    (.seq (.block 1
      (.seq (reg [op 12 (.move (.tmp 5)) 1,
        op 13 (.move (.tmp 0)) 1,
        op 14 (.nilCheck (.global 13)) 1,
        op 15 (.fieldAddr 0 (.global 14) 0) 1,
        op 16 (.load 0 (.global 15)) 1,
        op 17 (.binOp .add 0 (.global 12) (.global 16) 0) 1,
        op 5 (.move (.global 17))])
      (.seq (reg [op 18 (.move (.tmp 6)) 1,
        op 19 (.binOp .rem 0 (.global 18) (.const (I 2)) 0) 1,
        op 20 (.binOp .eql 0 (.global 19) (.const (I 1)) 0)])
      (.cond (.tmp 20)
        (reg [op 21 (.move (.tmp 5)) 1,
          op 22 (.binOp .sub 0 (.global 21) (.const (I 1)) 0) 1,
          op 5 (.move (.global 22))])
        .skip))))
    (reg [op 10 (.move (.tmp 6)) 1,
      op 11 (.binOp .add 0 (.global 10) (.const (I 1)) 0) 1,
      op 6 (.move (.global 11))]))))))
(.seq (reg [op 23 (.move (.tmp 5)) 1,
  op 4 (.move (.global 23))])
.ret)))), [(4, 0)]⟩

/-- spec.l05Text -/
def fn472 : AFun := ⟨1,
(.seq (reg [op 2 (.move (.const (S [])))])
(.seq (reg [op 5 (.move (.tmp 0)) 1,
  op 6 (.nilCheck (.global 5)) 1,
  op 7 (.fieldAddr 0 (.global 6) 0) 1,
  op 8 (.load 0 (.global 7)) 1,
  op 9 (call (.func 437) #[(.global 8)]) 3,
  op 10 (.binOp .add 0 (.global 9) (.const (S [120])) 0) 1,
  op 11 (.move (.tmp 0)) 1,
  op 12 (.nilCheck (.global 11)) 1,
  op 13 (.fieldAddr 1 (.global 12) 0) 1,
  op 14 (.load 0 (.global 13)) 1,
  op 15 (call (.func 437) #[(.global 14)]) 1,
  op 16 (.binOp .add 0 (.global 10) (.global 15) 0) 1,
  op 17 (.binOp .add 0 (.global 16) (.const (S [58])) 0) 1,
  op 18 (.convert 0 20 (.global 17)) 1,
  op 3 (.move (.global 18))])
(.seq (.seq (reg [op 4 (.move (.const (I 0)))])
(.block 0
  (.loop
    (.seq (.seq (reg [op 19 (.move (.tmp 4)) 1,
      op 20 (.move (.tmp 0)) 1,
      op 21 (.nilCheck (.global 20)) 1,
      op 22 (.fieldAddr 2 (.global 21) 0) 1,
      op 23 (.load 0 (.global 22)) 1,
      op 24 (bi .len #[(.global 23)] 1) 1,
      op 25 (.binOp .lss 0 (.global 19) (.global 24) 0)])
    (.cond (.tmp 25)
      .skip
      (.exit 0)))
    (.seq (.block 1
      (reg [op 28 (.move (.tmp 3)) 1,
        op 29 (.move (.tmp 0)) 1,
        op 30 (.nilCheck (.global 29)) 1,
        op 31 (.fieldAddr 2 (.global 30) 0) 1,
        op 32 (.load 0 (.global 31)) 1,
        op 33 (.move (.tmp 4)) 1,
        op 34 (.indexAddr 3 (.global 32) (.global 33)) 1,
        op 35 (.load 0 (.global 34)) 1,
        op 36 (call (.func 470) #[(.global 35)]) 1,
        op 37 (.buildSlice 1 1 #[(0, (.const (.agg #[(U 0)]))), (1, (.global 36))]) 1,
        op 38 (bi .append #[(.global 28), (.global 37)] 1) 1,
        op 3 (.move (.global 38))]))
    (reg [op 26 (.move (.tmp 4)) 1,
      op 27 (.binOp .add 0 (.global 26) (.const (I 1)) 0) 1,
      op 4 (.move (.global 27))]))))))
(.seq (reg [op 39 (.move (.tmp 3)) 1,
  op 40 (.convert 0 21 (.global 39)) 1,
  op 2 (.move (.global 40))])
.ret)))), [(2, 0)]⟩

/-- slices.rotateRight[impl.JournalStep] -/
def fn325 : AFun := ⟨2,
(reg [op 4 (.move (.tmp 0)) 1,
  op 5 (.move (.tmp 0)) 1,
  op 6 (bi .len #[(.global 5)] 1) 1,
  op 7 (.move (.tmp 1)) 1,
  op 8 (.binOp .sub 0 (.global 6) (.global 7) 0) 1,
  op 9 (call (.func 323) #[(.global 4), (.global 8)]) 1]), []⟩

/-- spec.l05Sign -/
def fn470 : AFun := ⟨1,
(.seq (reg [op 2 (.move (.const (U 0)))])
(.seq (.seq (reg [op 3 (.move (.tmp 0))])
(.block 0
  (.seq (reg [op 5 (.binOp .eql 0 (.tmp 3) (.const (I 1)) 0) 1,
    op 4 (.move (.global 5))])
  (.cond (.tmp 4)
    (.seq (reg [op 2 (.move (.const (U 124)))])
    .ret)
    (.seq (reg [op 7 (.binOp .eql 0 (.tmp 3) (.const (I 2)) 0) 1,
      op 6 (.move (.global 7))])
    (.cond (.tmp 6)
      (.seq (reg [op 2 (.move (.const (U 45)))])
      .ret)
      .skip))))))
(.seq (reg [op 2 (.move (.const (U 43)))])
.ret))), [(2, 0)]⟩

/-- slices.rotateLeft[impl.JournalStep] -/
def fn323 : AFun := ⟨2,
(.seq (reg [op 4 (.move (.tmp 0)) 1,
  op 5 (.move (.tmp 1)) 1,
  op 6 (.slice 7 (.global 4) none (some (.global 5)) none) 1,
  op 7 (call (.func 319) #[(.global 6)]) 1])
(.seq (reg [op 8 (.move (.tmp 0)) 1,
  op 9 (.move (.tmp 1)) 1,
  op 10 (.slice 7 (.global 8) (some (.global 9)) none none) 1,
  op 11 (call (.func 319) #[(.global 10)]) 1])
(reg [op 12 (.move (.tmp 0)) 1,
  op 13 (call (.func 319) #[(.global 12)]) 1]))), []⟩

/-- slices.Reverse[[]impl.JournalStep,impl.JournalStep] -/
def fn319 : AFun := ⟨1,
(.seq (reg [op 4 (.move (.tmp 0)) 1,
  op 5 (bi .len #[(.global 4)] 1) 1,
  op 6 (.binOp .sub 0 (.global 5) (.const (I 1)) 0) 1,
  op 2 (.move (.const (I 0))),
  op 3 (.move (.global 6))])
(.block 0
  (.loop
    (.seq (.seq (reg [op 7 (.move (.tmp 2)) 1,
      op 8 (.move (.tmp 3)) 1,
      op 9 (.binOp .lss 0 (.global 7) (.global 8) 0)])
    (.cond (.tmp 9)
      .skip
      (.exit 0)))
    (.seq (.block 1
      (reg [op 14 (.move (.tmp 0)) 1,
        op 15 (.move (.tmp 2)) 1,
        op 16 (.move (.tmp 0)) 1,
        op 17 (.move (.tmp 3)) 1,
        op 18 (.move (.tmp 0)) 1,
        op 19 (.move (.tmp 3)) 1,
        op 20 (.indexAddr 7 (.global 18) (.global 19)) 1,
        op 21 (.load 4 (.global 20)) 1,
        op 22 (.move (.tmp 0)) 1,
        op 23 (.move (.tmp 2)) 1,
        op 24 (.indexAddr 7 (.global 22) (.global 23)) 1,
        op 25 (.load 4 (.global 24)) 1,
        op 26 (.indexAddr 7 (.global 14) (.global 15)) 1,
        opn (.store 3 (.global 26) (.global 21)),
        op 27 (.indexAddr 7 (.global 16) (.global 17)) 1,
        opn (.store 3 (.global 27) (.global 25))]))
    (reg [op 10 (.move (.tmp 2)) 1,
      op 11 (.binOp .add 0 (.global 10) (.const (I 1)) 0) 1,
      op 12 (.move (.tmp 3)) 1,
      op 13 (.binOp .sub 0 (.global 12) (.const (I 1)) 0) 1,
      op 2 (.move (.global 11)),
      op 3 (.move (.global 13))])))))), []⟩

/-- laws.FnExactHexText -/
def fn217 : AFun := ⟨1,
(.seq (reg [op 2 (.move (.const (B false)))])
(.seq (.seq (reg [op 5 (.move (.tmp 0)) 1,
  op 6 (bi .len #[(.global 5)] 0) 1,
  op 7 (.binOp .gtr 0 (.global 6) (.const (I 1048576)) 0)])
(.cond (.tmp 7)
  (.seq (reg [op 2 (.move (.const (B true)))])
  .ret)
  .skip))
(.seq (reg [op 8 (.move (.tmp 0)) 1,
  op 9 (call (.func 380) #[(.global 8)]) 1,
  op 3 (.move (.global 9))])
(.seq (reg [op 10 (.move (.tmp 0)) 1,
  op 11 (call (.func 87) #[(.global 10)]) 1,
  op 4 (.move (.global 11))])
(.seq (.seq (reg [op 12 (.move (.tmp 4)) 1,
  op 13 (.move (.tmp 3)) 1,
  op 14 (.binOp .neq 0 (.global 12) (.global 13) 0)])
(.cond (.tmp 14)
  (.seq (reg [op 2 (.move (.const (B false)))])
  .ret)
  .skip))
(.seq (reg [op 2 (.move (.const (B true)))])
.ret)))))), [(2, 0)]⟩

/-- laws.FnExactChecksumOf -/
def fn207 : AFun := ⟨1,
(.seq (reg [op 2 (.move (.const (B false)))])
(.seq (.seq (reg [op 5 (.move (.tmp 0)) 1,
  op 6 (bi .len #[(.global 5)] 0) 1,
  op 7 (.binOp .gtr 0 (.global 6) (.const (I 1048576)) 0)])
(.cond (.tmp 7)
  (.seq (reg [op 2 (.move (.const (B true)))])
  .ret)
  .skip))
(.seq (reg [op 8 (.move (.tmp 0)) 1,
  op 9 (call (.func 333) #[(.global 8)]) 1,
  op 3 (.move (.global 9))])
(.seq (reg [op 10 (.move (.tmp 0)) 1,
  op 11 (call (.func 64) #[(.global 10)]) 1,
  op 4 (.move (.global 11))])
(.seq (.seq (reg [op 12 (.move (.tmp 4)) 1,
  op 13 (.move (.tmp 3)) 1,
  op 14 (.binOp .neq 0 (.global 12) (.global 13) 0)])
(.cond (.tmp 14)
  (.seq (reg [op 2 (.move (.const (B false)))])
  .ret)
  .skip))
(.seq (reg [op 2 (.move (.const (B true)))])
.ret)))))), [(2, 0)]⟩

/-- laws.FnExactPackedSize -/
def fn231 : AFun := ⟨2,
(.seq (reg [op 4 (.move (.const (B false)))])
(.seq (reg [op 10 (.move (.tmp 0)) 1,
  op 11 (.move (.tmp 1)) 1,
  op 12 (call (.func 399) #[(.global 10), (.global 11)]) 1,
  op 9 (.move (.global 12)) 1,
  op 13 (.extract (.global 9) 0) 1,
  op 14 (.extract (.global 9) 1) 1,
  op 5 (.move (.global 13)),
  op 6 (.move (.global 14))])
(.seq (reg [op 16 (.move (.tmp 0)) 1,
  op 17 (.move (.tmp 1)) 1,
  op 18 (call (.func 108) #[(.global 16), (.global 17)]) 1,
  op 15 (.move (.global 18)) 1,
  op 19 (.extract (.global 15) 0) 1,
  op 20 (.extract (.global 15) 1) 1,
  op 7 (.move (.global 19)),
  op 8 (.move (.global 20))])
(.seq (.seq (reg [op 21 (.move (.tmp 7)) 1,
  op 22 (.move (.tmp 5)) 1,
  op 23 (.binOp .neq 0 (.global 21) (.global 22) 0) 1,
  op 24 (.move (.global 23)) 1,
  op 25 (.move (.tmp 8)) 1 (some (49, false)),
  op 26 (.move (.tmp 6)) 1 (some (49, false)),
  op 27 (.binOp .neq 0 (.global 25) (.global 26) 0) 1 (some (49, false)),
  op 28 (.pick (.global 24) (.const (B true)) (.global 27))])
(.cond (.tmp 28)
  (.seq (reg [op 4 (.move (.const (B false)))])
  .ret)
  .skip))
(.seq (reg [op 4 (.move (.const (B true)))])
.ret))))), [(4, 0)]⟩

/-- laws.FnExactDeskWords -/
def fn212 : AFun := ⟨0,
(.seq (reg [op 0 (.move (.const (B false)))])
(.seq (reg [op 6 (call (.func 345) #[]) 1,
  op 1 (.move (.global 6))])
(.seq (reg [op 7 (call (.func 78) #[]) 1,
  op 2 (.move (.global 7))])
(.seq (.seq (reg [op 8 (.move (.tmp 2)) 1,
  op 9 (.move (.tmp 1)) 1,
  op 10 (call (.func 268) #[(.global 8), (.global 9)]) 1,
  op 11 (.unOp .not 0 (.global 10))])
(.cond (.tmp 11)
  (.seq (reg [op 0 (.move (.const (B false)))])
  .ret)
  .skip))
(.seq (reg [op 3 (.move (.const (I 1)))])
(.seq (reg [op 12 (.move (.tmp 2)) 1,
  op 13 (.move (.tmp 3)) 1,
  op 14 (call (.func 288) #[(.global 12), (.global 13)]) 1,
  op 3 (.move (.global 14))])
(.seq (reg [op 4 (.move (.const (I 1)))])
(.seq (reg [op 15 (.move (.tmp 2)) 1,
  op 16 (.move (.tmp 4)) 1,
  op 17 (call (.func 281) #[(.global 15), (.global 16)]) 1,
  op 4 (.move (.global 17))])
(.seq (.seq (reg [op 18 (.move (.tmp 4)) 1,
  op 19 (.binOp .lss 0 (.global 18) (.const (I 0)) 0)])
(.cond (.tmp 19)
  (.seq (reg [op 0 (.move (.const (B false)))])
  .ret)
  .skip))
(.seq (.seq (reg [op 20 (.move (.tmp 4)) 1,
  op 21 (.move (.tmp 3)) 1,
  op 22 (.binOp .neq 0 (.global 20) (.global 21) 0)])
(.cond (.tmp 22)
  (.seq (reg [op 0 (.move (.const (B false)))])
  .ret)
  .skip))
(.seq (reg [op 23 (call (.func 78) #[]) 1,
  op 5 (.move (.global 23))])
(.seq (.seq (reg [op 24 (.move (.tmp 5)) 1,
  op 25 (.move (.tmp 1)) 1,
  op 26 (call (.func 268) #[(.global 24), (.global 25)]) 1,
  op 27 (.unOp .not 0 (.global 26))])
(.cond (.tmp 27)
  (.seq (reg [op 0 (.move (.const (B false)))])
  .ret)
  .skip))
(.seq (reg [op 4 (.move (.const (I 1)))])
(.seq (reg [op 28 (.move (.tmp 2)) 1,
  op 29 (.move (.tmp 4)) 1,
  op 30 (call (.func 281) #[(.global 28), (.global 29)]) 1,
  op 4 (.move (.global 30))])
(.seq (.seq (reg [op 31 (.move (.tmp 4)) 1,
  op 32 (.binOp .lss 0 (.global 31) (.const (I 0)) 0)])
(.cond (.tmp 32)
  (.seq (reg [op 0 (.move (.const (B false)))])
  .ret)
  .skip))
(.seq (.seq (reg [op 33 (.move (.tmp 4)) 1,
  op 34 (.move (.tmp 3)) 1,
  op 35 (.binOp .neq 0 (.global 33) (.global 34) 0)])
(.cond (.tmp 35)
  (.seq (reg [op 0 (.move (.const (B false)))])
  .ret)
  .skip))
(.seq (reg [op 0 (.move (.const (B true)))])
.ret))))))))))))))))), [(0, 0)]⟩

/-- laws.FnExactReadHex -/
def fn235 : AFun := ⟨1,
(.seq (reg [op 2 (.move (.const (B false)))])
(.seq (.seq (reg [op 7 (.move (.tmp 0)) 1,
  op 8 (bi .len #[(.global 7)] 0) 1,
  op 9 (.binOp .gtr 0 (.global 8) (.const (I 1048576)) 0)])
(.cond (.tmp 9)
  (.seq (reg [op 2 (.move (.const (B true)))])
  .ret)
  .skip))
(.seq (reg [op 11 (.move (.tmp 0)) 1,
  op 12 (call (.func 411) #[(.global 11)]) 1,
  op 10 (.move (.global 12)) 1,
  op 13 (.extract (.global 10) 0) 1,
  op 14 (.extract (.global 10) 1) 1,
  op 3 (.move (.global 13)),
  op 4 (.move (.global 14))])
(.seq (reg [op 16 (.move (.tmp 0)) 1,
  op 17 (call (.func 120) #[(.global 16)]) 1,
  op 15 (.move (.global 17)) 1,
  op 18 (.extract (.global 15) 0) 1,
  op 19 (.extract (.global 15) 1) 1,
  op 5 (.move (.global 18)),
  op 6 (.move (.global 19))])
(.seq (.seq (reg [op 20 (.move (.tmp 5)) 1,
  op 21 (.move (.tmp 3)) 1,
  op 22 (.binOp .neq 0 (.global 20) (.global 21) 0) 1,
  op 23 (.move (.global 22)) 1,
  op 24 (.move (.tmp 6)) 1 (some (47, false)),
  op 25 (.move (.tmp 4)) 1 (some (47, false)),
  op 26 (.binOp .neq 1 (.global 24) (.global 25) 0) 1 (some (47, false)),
  op 27 (.pick (.global 23) (.const (B true)) (.global 26))])
(.cond (.tmp 27)
  (.seq (reg [op 2 (.move (.const (B false)))])
  .ret)
  .skip))
(.seq (reg [op 2 (.move (.const (B true)))])
.ret)))))), [(2, 0)]⟩

/-- laws.FnExactInverseDiff -/
def fn219 : AFun := ⟨1,
(.seq (reg [op 2 (.move (.const (B false)))])
(.seq (reg [op 3 (.move (.const (I 1048576)))])
(.seq (reg [op 11 (.move (.tmp 0)) 1,
  op 12 (.move (.tmp 3)) 1,
  op 13 (call (.func 296) #[(.global 11), (.global 12)]) 1,
  op 3 (.move (.global 13))])
(.seq (.seq (reg [op 14 (.move (.tmp 3)) 1,
  op 15 (.binOp .lss 0 (.global 14) (.const (I 0)) 0)])
(.cond (.tmp 15)
  (.seq (reg [op 2 (.move (.const (B true)))])
  .ret)
  .skip))
(.seq (reg [op 16 (.move (.tmp 0)) 1,
  op 17 (call (.func 305) #[(.global 16)]) 1,
  op 18 (call (.func 382) #[(.global 17)]) 1,
  op 4 (.move (.global 18))])
(.seq (reg [op 19 (.move (.tmp 0)) 1,
  op 20 (call (.func 305) #[(.global 19)]) 1,
  op 5 (.move (.global 20))])
(.seq (reg [op 21 (.move (.tmp 5)) 1,
  op 22 (call (.func 89) #[(.global 21)]) 1,
  op 6 (.move (.global 22))])
(.seq (.seq (reg [op 23 (.move (.tmp 6)) 1,
  op 24 (.move (.tmp 4)) 1,
  op 25 (call (.func 267) #[(.global 23), (.global 24)]) 1,
  op 26 (.unOp .not 0 (.global 25))])
(.cond (.tmp 26)
  (.seq (reg [op 2 (.move (.const (B false)))])
  .ret)
  .skip))
(.seq (.seq (reg [op 27 (.move (.tmp 5)) 1,
  op 28 (.move (.tmp 0)) 1,
  op 29 (call (.func 305) #[(.global 28)]) 1,
  op 30 (call (.func 267) #[(.global 27), (.global 29)]) 1,
  op 31 (.unOp .not 0 (.global 30))])
(.cond (.tmp 31)
  (.seq (reg [op 2 (.move (.const (B false)))])
  .ret)
  .skip))
(.seq (reg [op 7 (.move (.const (I 1)))])
(.seq (reg [op 32 (.move (.tmp 5)) 1,
  op 33 (.move (.tmp 7)) 1,
  op 34 (call (.func 287) #[(.global 32), (.global 33)]) 1,
  op 7 (.move (.global 34))])
(.seq (.seq (reg [op 35 (.move (.tmp 7)) 1,
  op 36 (.binOp .lss 0 (.global 35) (.const (I 0)) 0) 1,
  op 37 (.move (.global 36)) 1,
  op 38 (.move (.tmp 6)) 1 (some (75, false)),
  op 39 (.move (.tmp 4)) 1 (some (75, false)),
  op 40 (call (.func 267) #[(.global 38), (.global 39)]) 1 (some (75, false)),
  op 41 (.unOp .not 0 (.global 40)) 1 (some (75, false)),
  op 42 (.pick (.global 37) (.const (B true)) (.global 41))])
(.cond (.tmp 42)
  (.seq (reg [op 2 (.move (.const (B false)))])
  .ret)
  .skip))
(.seq (reg [op 8 (.move (.const (I 1)))])
(.seq (reg [op 43 (.move (.tmp 6)) 1,
  op 44 (.move (.tmp 8)) 1,
  op 45 (call (.func 287) #[(.global 43), (.global 44)]) 1,
  op 8 (.move (.global 45))])
(.seq (reg [op 9 (.move (.const (I 1)))])
(.seq (reg [op 46 (.move (.tmp 6)) 1,
  op 47 (.move (.tmp 9)) 1,
  op 48 (call (.func 280) #[(.global 46), (.global 47)]) 1,
  op 9 (.move (.global 48))])
(.seq (.seq (reg [op 49 (.move (.tmp 9)) 1,
  op 50 (.binOp .lss 0 (.global 49) (.const (I 0)) 0)])
(.cond (.tmp 50)
  (.seq (reg [op 2 (.move (.const (B false)))])
  .ret)
  .skip))
(.seq (.seq (reg [op 51 (.move (.tmp 9)) 1,
  op 52 (.move (.tmp 8)) 1,
  op 53 (.binOp .neq 0 (.global 51) (.global 52) 0)])
(.cond (.tmp 53)
  (.seq (reg [op 2 (.move (.const (B false)))])
  .ret)
  .skip))
(.seq (reg [op 54 (.move (.tmp 0)) 1,
  op 55 (call (.func 305) #[(.global 54)]) 1,
  op 56 (call (.func 89) #[(.global 55)]) 1,
  op 10 (.move (.global 56))])
(.seq (.seq (reg [op 57 (.move (.tmp 10)) 1,
  op 58 (.move (.tmp 4)) 1,
  op 59 (call (.func 267) #[(.global 57), (.global 58)]) 1,
  op 60 (.unOp .not 0 (.global 59))])
(.cond (.tmp 60)
  (.seq (reg [op 2 (.move (.const (B false)))])
  .ret)
  .skip))
(.seq (reg [op 9 (.move (.const (I 1)))])
(.seq (reg [op 61 (.move (.tmp 6)) 1,
  op 62 (.move (.tmp 9)) 1,
  op 63 (call (.func 280) #[(.global 61), (.global 62)]) 1,
  op 9 (.move (.global 63))])
(.seq (.seq (reg [op 64 (.move (.tmp 9)) 1,
  op 65 (.binOp .lss 0 (.global 64) (.const (I 0)) 0)])
(.cond (.tmp 65)
  (.seq (reg [op 2 (.move (.const (B false)))])
  .ret)
  .skip))
(.seq (.seq (reg [op 66 (.move (.tmp 9)) 1,
  op 67 (.move (.tmp 8)) 1,
  op 68 (.binOp .neq 0 (.global 66) (.global 67) 0)])
(.cond (.tmp 68)
  (.seq (reg [op 2 (.move (.const (B false)))])
  .ret)
  .skip))
(.seq (reg [op 2 (.move (.const (B true)))])
.ret))))))))))))))))))))))))), [(2, 0)]⟩

/-- spec.HexText -/
def fn380 : AFun := ⟨1,
(.seq (reg [op 2 (.move (.const (S [])))])
(.seq (reg [op 3 (.move (.const (S [48, 49, 50, 51, 52, 53, 54, 55, 56, 57, 97, 98, 99, 100, 101, 102])))])
(.seq (reg [op 6 (.move (.const (sl 0 0 0 1))) 1,
  op 4 (.move (.global 6))])
(.seq (.seq (reg [op 5 (.move (.const (I 0)))])
(.block 0
  (.loop
    (.seq (.seq (reg [op 7 (.move (.tmp 5)) 1,
      op 8 (.move (.tmp 0)) 1,
      op 9 (bi .len #[(.global 8)] 0) 1,
      op 10 (.binOp .lss 0 (.global 7) (.global 9) 0)])
    (.cond (.tmp 10)
      .skip
      (.exit 0)))
    (.seq (.block 1
      (reg [op 13 (.move (.tmp 4)) 1,
        op 14 (.move (.tmp 3)) 1,
        op 15 (.move (.tmp 0)) 1,
        op 16 (.move (.tmp 5)) 1,
        op 17 (.index 0 (.global 15) (.global 16)) 1,
        op 18 (.binOp .quo 0 (.global 17) (.const (U 16)) 0) 1,
        op 19 (.index 0 (.global 14) (.global 18)) 1,
        op 20 (.move (.tmp 3)) 1,
        op 21 (.move (.tmp 0)) 1,
        op 22 (.move (.tmp 5)) 1,
        op 23 (.index 0 (.global 21) (.global 22)) 1,
        op 24 (.binOp .rem 0 (.global 23) (.const (U 16)) 0) 1,
        op 25 (.index 0 (.global 20) (.global 24)) 1,
        op 26 (.buildSlice 1 2 #[(0, (.const (.agg #[(U 0), (U 0)]))), (1, (.global 19)), (1001, (.global 25))]) 1,
        op 27 (bi .append #[(.global 13), (.global 26)] 1) 1,
        op 4 (.move (.global 27))]))
    (reg [op 11 (.move (.tmp 5)) 1,
      op 12 (.binOp .add 0 (.global 11) (.const (I 1)) 0) 1,
      op 5 (.move (.global 12))]))))))
(.seq (reg [op 28 (.move (.tmp 4)) 1,
  op 29 (.convert 0 21 (.global 28)) 1,
  op 2 (.move (.global 29))])
.ret))))), [(2, 0)]⟩

/-- impl.HexText -/
def fn87 : AFun := ⟨1,
(.seq (reg [op 2 (.move (.const (S [])))])
(.seq (reg [op 5 (.move (.const (sl 0 0 0 1))) 1,
  op 3 (.move (.global 5))])
(.seq (.seq (reg [op 6 (.move (.tmp 0)) 1,
  op 7 (bi .len #[(.global 6)] 0),
  op 8 (.move (.const (I 0)))])
(.block 0
  (.loop
    (.seq (reg [op 9 (.binOp .lss 0 (.tmp 8) (.tmp 7) 0)])
    (.seq (.cond (.tmp 9)
      .skip
      (.exit 0))
    (.seq (.block 1
      (.seq (reg [op 10 (.move (.tmp 8)) 1,
        op 4 (.move (.global 10))])
      (reg [op 11 (.move (.tmp 3)) 1,
        op 12 (.move (.tmp 0)) 1,
        op 13 (.move (.tmp 4)) 1,
        op 14 (.index 0 (.global 12) (.global 13)) 1,
        op 15 (.binOp .quo 0 (.global 14) (.const (U 16)) 0) 1,
        op 16 (.index 0 (.const (S [48, 49, 50, 51, 52, 53, 54, 55, 56, 57, 97, 98, 99, 100, 101, 102])) (.global 15)) 1,
        op 17 (.move (.tmp 0)) 1,
        op 18 (.move (.tmp 4)) 1,
        op 19 (.index 0 (.global 17) (.global 18)) 1,
        op 20 (.binOp .rem 0 (.global 19) (.const (U 16)) 0) 1,
        op 21 (.index 0 (.const (S [48, 49, 50, 51, 52, 53, 54, 55, 56, 57, 97, 98, 99, 100, 101, 102])) (.global 20)) 1,
        op 22 (.buildSlice 1 2 #[(0, (.const (.agg #[(U 0), (U 0)]))), (1, (.global 16)), (1001, (.global 21))]) 1,
        op 23 (bi .append #[(.global 11), (.global 22)] 1) 1,
        op 3 (.move (.global 23))])))
    (reg [op 24 (.binOp .add 0 (.tmp 8) (.const (I 1)) 0) 1,
      op 8 (.move (.global 24))])))))))
(.seq (reg [op 25 (.move (.tmp 3)) 1,
  op 26 (.convert 0 21 (.global 25)) 1,
  op 2 (.move (.global 26))])
.ret)))), [(2, 0)]⟩

/-- spec.ChecksumOf -/
def fn333 : AFun := ⟨1,
(.seq (reg [op 2 (.move (.const (I 0)))])
(.seq (reg [op 3 (.move (.tmp 0)) 1,
  op 4 (call (.func 573) #[(.global 3)]) 1,
  op 2 (.move (.global 4))])
.ret)), [(2, 0)]⟩

/-- impl.ChecksumOf -/
def fn64 : AFun := ⟨1,
(.seq (reg [op 2 (.move (.const (I 0)))])
(.seq (reg [op 3 (.move (.const (I 1))),
  op 4 (.move (.const (I 0)))])
(.seq (.seq (reg [op 6 (.move (.tmp 0)) 1,
  op 7 (bi .len #[(.global 6)] 0),
  op 8 (.move (.const (I 0)))])
(.block 0
  (.loop
    (.seq (reg [op 9 (.binOp .lss 0 (.tmp 8) (.tmp 7) 0)])
    (.seq (.cond (.tmp 9)
      .skip
      (.exit 0))
    (.seq (.block 1
      (.seq (reg [op 10 (.move (.tmp 8)) 1,
        op 5 (.move (.global 10))])
      (.seq (reg [op 11 (.move (.tmp 3)) 1,
        op 12 (.move (.tmp 0)) 1,
        op 13 (.move (.tmp 5)) 1,
        op 14 (.index 0 (.global 12) (.global 13)) 1,
        op 15 (.convert 0 3 (.global 14)) 1,
        op 16 (.binOp .add 0 (.global 11) (.global 15) 0) 1,
        op 17 (.binOp .rem 0 (.global 16) (.const (I 251)) 0) 1,
        op 3 (.move (.global 17))])
      (reg [op 18 (.move (.tmp 4)) 1,
        op 19 (.move (.tmp 3)) 1,
        op 20 (.binOp .add 0 (.global 18) (.global 19) 0) 1,
        op 21 (.binOp .rem 0 (.global 20) (.const (I 251)) 0) 1,
        op 4 (.move (.global 21))]))))
    (reg [op 22 (.binOp .add 0 (.tmp 8) (.const (I 1)) 0) 1,
      op 8 (.move (.global 22))])))))))
(.seq (reg [op 23 (.move (.tmp 4)) 1,
  op 24 (.binOp .mul 0 (.const (I 256)) (.global 23) 0) 1,
  op 25 (.move (.tmp 3)) 1,
  op 26 (.binOp .add 0 (.global 24) (.global 25) 0) 1,
  op 2 (.move (.global 26))])
.ret)))), [(2, 0)]⟩

/-- spec.PackedSize -/
def fn399 : AFun := ⟨2,
(.seq (reg [op 4 (.move (.const (I 0))),
  op 5 (.move (.const (I 0)))])
(.seq (.seq (reg [op 6 (.move (.tmp 0)) 1,
  op 7 (call (.func 457) #[(.global 6)]) 1,
  op 8 (.unOp .not 0 (.global 7)) 1,
  op 9 (.move (.global 8)) 1,
  op 10 (.move (.tmp 1)) 1 (some (19, false)),
  op 11 (call (.func 457) #[(.global 10)]) 1 (some (19, false)),
  op 12 (.unOp .not 0 (.global 11)) 1 (some (19, false)),
  op 13 (.pick (.global 9) (.const (B true)) (.global 12))])
(.cond (.tmp 13)
  (.seq (reg [op 4 (.move (.const (I 0))),
    op 5 (.move (.const (I 2)))])
  .ret)
  .skip))
(.seq (reg [op 14 (.move (.tmp 0)) 1,
  op 15 (.move (.tmp 1)) 1,
  op 16 (call (.func 572) #[(.global 14), (.global 15)]) 1,
  op 4 (.move (.global 16)),
  op 5 (.move (.const (I 0)))])
.ret))), [(4, 0), (5, 0)]⟩

/-- impl.PackedSize -/
def fn108 : AFun := ⟨2,
(.seq (reg [op 4 (.move (.const (I 0))),
  op 5 (.move (.const (I 0)))])
(.seq (.seq (reg [op 6 (.move (.tmp 0)) 1,
  op 7 (.move (.tmp 1)) 1,
  op 8 (call (.func 198) #[(.global 6), (.global 7)]) 1,
  op 9 (.unOp .not 0 (.global 8))])
(.cond (.tmp 9)
  (.seq (reg [op 4 (.move (.const (I 0))),
    op 5 (.move (.const (I 2)))])
  .ret)
  .skip))
(.seq (reg [op 10 (.move (.tmp 0)) 1,
  op 11 (.move (.tmp 1)) 1,
  op 12 (call (.func 181) #[(.global 10), (.global 11)]) 1,
  op 4 (.move (.global 12)),
  op 5 (.move (.const (I 0)))])
.ret))), [(4, 0), (5, 0)]⟩

/-- spec.DeskWords -/
def fn345 : AFun := ⟨0,
(.seq (reg [op 0 (.move (.const (sl 0 0 0 0)))])
(.seq (reg [op 1 (call (.func 581) #[]) 1,
  op 0 (.move (.global 1))])
.ret)), [(0, 0)]⟩

/-- impl.DeskWords -/
def fn78 : AFun := ⟨0,
(.seq (reg [op 0 (.move (.const (sl 0 0 0 0)))])
(.seq (reg [op 1 (.buildSlice 1 18 #[(0, (.const (.agg #[(S []), (S []), (S []), (S []), (S []), (S []), (S []), (S []), (S []), (S []), (S []), (S []), (S []), (S []), (S []), (S []), (S []), (S [])]))), (1, (.const (S [97, 108, 111, 110, 103]))), (1001, (.const (S [98, 114, 97, 99, 107, 101, 116]))), (2001, (.const (S [99, 111, 100, 101]))), (3001, (.const (S [99, 111, 108, 117, 109, 110]))), (4001, (.const (S [99, 111, 117, 110, 116]))), (5001, (.const (S [108, 101, 110, 103, 116, 104, 115]))), (6001, (.const (S [108, 105, 110, 107]))), (7001, (.const (S [110, 101, 119]))), (8001, (.const (S [112, 97, 115, 115, 101, 115]))), (9001, (.const (S [112, 105, 99, 116, 117, 114, 101]))), (10001, (.const (S [114, 101, 97, 100]))), (11001, (.const (S [114, 101, 100, 111]))), (12001, (.const (S [115, 101, 97, 114, 99, 104]))), (13001, (.const (S [115, 101, 116]))), (14001, (.const (S [115, 104, 111, 119]))), (15001, (.const (S [115, 113, 117, 97, 115, 104]))), (16001, (.const (S [117, 110, 100, 111]))), (17001, (.const (S [119, 114, 105, 116, 104, 101])))]) 1,
  op 0 (.move (.global 1))])
.ret)), [(0, 0)]⟩

/-- laws.eqStringS -/
def fn268 : AFun := ⟨2,
(.seq (reg [op 4 (.move (.const (B false)))])
(.seq (.seq (reg [op 6 (.move (.tmp 0)) 1,
  op 7 (bi .len #[(.global 6)] 1) 1,
  op 8 (.move (.tmp 1)) 1,
  op 9 (bi .len #[(.global 8)] 1) 1,
  op 10 (.binOp .neq 0 (.global 7) (.global 9) 0)])
(.cond (.tmp 10)
  (.seq (reg [op 4 (.move (.const (B false)))])
  .ret)
  .skip))
(.seq (.seq (reg [op 5 (.move (.const (I 0)))])
(.block 0
  (.loop
    (.seq (.seq (reg [op 11 (.move (.tmp 5)) 1,
      op 12 (.move (.tmp 0)) 1,
      op 13 (bi .len #[(.global 12)] 1) 1,
      op 14 (.binOp .lss 0 (.global 11) (.global 13) 0)])
    (.cond (.tmp 14)
      .skip
      (.exit 0)))
    (.seq (.block 1
      (.seq (reg [op 17 (.move (.tmp 0)) 1,
        op 18 (.move (.tmp 5)) 1,
        op 19 (.indexAddr 3 (.global 17) (.global 18)) 1,
        op 20 (.load 0 (.global 19)) 1,
        op 21 (.move (.tmp 1)) 1,
        op 22 (.move (.tmp 5)) 1,
        op 23 (.indexAddr 3 (.global 21) (.global 22)) 1,
        op 24 (.load 0 (.global 23)) 1,
        op 25 (.binOp .neq 0 (.global 20) (.global 24) 0)])
      (.cond (.tmp 25)
        (.seq (reg [op 4 (.move (.const (B false)))])
        .ret)
        .skip)))
    (reg [op 15 (.move (.tmp 5)) 1,
      op 16 (.binOp .add 0 (.global 15) (.const (I 1)) 0) 1,
      op 5 (.move (.global 16))]))))))
(.seq (reg [op 4 (.move (.const (B true)))])
.ret)))), [(4, 0)]⟩

/-- laws.markStringS -/
def fn288 : AFun := ⟨2,
(.seq (reg [op 4 (.move (.const (I 0)))])
(.seq (.seq (reg [op 5 (.move (.const (I 0)))])
(.block 0
  (.loop
    (.seq (.seq (reg [op 6 (.move (.tmp 5)) 1,
      op 7 (.move (.tmp 0)) 1,
      op 8 (bi .len #[(.global 7)] 1) 1,
      op 9 (.binOp .lss 0 (.global 6) (.global 8) 0)])
    (.cond (.tmp 9)
      .skip
      (.exit 0)))
    (.seq (.block 1
      (.seq (reg [op 12 (.move (.tmp 0)) 1,
        op 13 (.move (.tmp 5)) 1,
        op 14 (.move (.tmp 1)) 1,
        op 15 (call (.func 289) #[(.global 14)]) 1,
        op 16 (.indexAddr 3 (.global 12) (.global 13)) 1,
        opn (.store 1 (.global 16) (.global 15))])
      (reg [op 17 (.move (.tmp 1)) 1,
        op 18 (.binOp .add 0 (.global 17) (.const (I 1)) 0) 1,
        op 1 (.move (.global 18))])))
    (reg [op 10 (.move (.tmp 5)) 1,
      op 11 (.binOp .add 0 (.global 10) (.const (I 1)) 0) 1,
      op 5 (.move (.global 11))]))))))
(.seq (reg [op 19 (.move (.tmp 1)) 1,
  op 4 (.move (.global 19))])
.ret))), [(4, 0)]⟩

/-- laws.heldStringS -/
def fn281 : AFun := ⟨2,
(.seq (reg [op 4 (.move (.const (I 0)))])
(.seq (.seq (reg [op 5 (.move (.const (I 0)))])
(.block 0
  (.loop
    (.seq (.seq (reg [op 6 (.move (.tmp 5)) 1,
      op 7 (.move (.tmp 0)) 1,
      op 8 (bi .len #[(.global 7)] 1) 1,
      op 9 (.binOp .lss 0 (.global 6) (.global 8) 0)])
    (.cond (.tmp 9)
      .skip
      (.exit 0)))
    (.seq (.block 1
      (.seq (.seq (reg [op 12 (.move (.tmp 0)) 1,
        op 13 (.move (.tmp 5)) 1,
        op 14 (.indexAddr 3 (.global 12) (.global 13)) 1,
        op 15 (.load 0 (.global 14)) 1,
        op 16 (.move (.tmp 1)) 1,
        op 17 (call (.func 289) #[(.global 16)]) 3,
        op 18 (.binOp .neq 0 (.global 15) (.global 17) 0)])
      (.cond (.tmp 18)
        (.seq (reg [op 4 (.move (.const (I (-1))))])
        .ret)
        .skip))
      (reg [op 19 (.move (.tmp 1)) 1,
        op 20 (.binOp .add 0 (.global 19) (.const (I 1)) 0) 1,
        op 1 (.move (.global 20))])))
    (reg [op 10 (.move (.tmp 5)) 1,
      op 11 (.binOp .add 0 (.global 10) (.const (I 1)) 0) 1,
      op 5 (.move (.global 11))]))))))
(.seq (reg [op 21 (.move (.tmp 1)) 1,
  op 4 (.move (.global 21))])
.ret))), [(4, 0)]⟩

/-- spec.ReadHex -/
def fn411 : AFun := ⟨1,
(.seq (reg [op 2 (.move (.const (S []))),
  op 3 (.move (.const (B false)))])
(.seq (.seq (reg [op 8 (.move (.tmp 0)) 1,
  op 9 (bi .len #[(.global 8)] 0) 1,
  op 10 (.binOp .rem 0 (.global 9) (.const (I 2)) 0) 1,
  op 11 (.binOp .eql 0 (.global 10) (.const (I 1)) 0)])
(.cond (.tmp 11)
  (.seq (reg [op 2 (.move (.const (S []))),
    op 3 (.move (.const (B false)))])
  .ret)
  .skip))
(.seq (reg [op 12 (.move (.const (sl 0 0 0 1))) 1,
  op 4 (.move (.global 12))])
(.seq (.seq (reg [op 5 (.move (.const (I 0)))])
(.block 0
  (.loop
    (.seq (.seq (reg [op 13 (.move (.tmp 5)) 1,
      op 14 (.move (.tmp 0)) 1,
      op 15 (bi .len #[(.global 14)] 0) 1,
      op 16 (.binOp .lss 0 (.global 13) (.global 15) 0)])
    (.cond (.tmp 16)
      .skip
      (.exit 0)))
    (.seq (.block 1
      (.seq (reg [op 19 (.move (.tmp 0)) 1,
        op 20 (.move (.tmp 5)) 1,
        op 21 (.index 0 (.global 19) (.global 20)) 1,
        op 22 (call (.func 567) #[(.global 21)]) 1,
        op 6 (.move (.global 22))])
      (.seq (reg [op 23 (.move (.tmp 0)) 1,
        op 24 (.move (.tmp 5)) 1,
        op 25 (.binOp .add 0 (.global 24) (.const (I 1)) 0) 1,
        op 26 (.index 0 (.global 23) (.global 25)) 1,
        op 27 (call (.func 567) #[(.global 26)]) 1,
        op 7 (.move (.global 27))])
      (.seq (.seq (reg [op 28 (.move (.tmp 6)) 1,
        op 29 (.binOp .lss 0 (.global 28) (.const (I 0)) 0) 1,
        op 30 (.move (.global 29)) 1,
        op 31 (.move (.tmp 7)) 1 (some (61, false)),
        op 32 (.binOp .lss 0 (.global 31) (.const (I 0)) 0) 1 (some (61, false)),
        op 33 (.pick (.global 30) (.const (B true)) (.global 32))])
      (.cond (.tmp 33)
        (.seq (reg [op 2 (.move (.const (S []))),
          op 3 (.move (.const (B false)))])
        .ret)
        .skip))
      (reg [op 34 (.move (.tmp 4)) 1,
        op 35 (.move (.tmp 6)) 1,
        op 36 (.binOp .mul 0 (.const (I 16)) (.global 35) 0) 1,
        op 37 (.move (.tmp 7)) 1,
        op 38 (.binOp .add 0 (.global 36) (.global 37) 0) 1,
        op 39 (.convert 0 4 (.global 38)) 1,
        op 40 (.buildSlice 1 1 #[(0, (.const (.agg #[(U 0)]))), (1, (.global 39))]) 1,
        op 41 (bi .append #[(.global 34), (.global 40)] 1) 1,
        op 4 (.move (.global 41))])))))
    (reg [op 17 (.move (.tmp 5)) 1,
      op 18 (.binOp .add 0 (.global 17) (.const (I 2)) 0) 1,
      op 5 (.move (.global 18))]))))))
(.seq (reg [op 42 (.move (.tmp 4)) 1,
  op 43 (.convert 0 21 (.global 42)) 1,
  op 2 (.move (.global 43)),
  op 3 (.move (.const (B true)))])
.ret))))), [(2, 0), (3, 0)]⟩

/-- impl.ReadHex -/
def fn120 : AFun := ⟨1,
(.seq (reg [op 2 (.move (.const (S []))),
  op 3 (.move (.const (B false)))])
(.seq (.seq (reg [op 8 (.move (.tmp 0)) 1,
  op 9 (bi .len #[(.global 8)] 0) 1,
  op 10 (.binOp .rem 0 (.global 9) (.const (I 2)) 0) 1,
  op 11 (.binOp .neq 0 (.global 10) (.const (I 0)) 0)])
(.cond (.tmp 11)
  (.seq (reg [op 2 (.move (.const (S []))),
    op 3 (.move (.const (B false)))])
  .ret)
  .skip))
(.seq (reg [op 12 (.move (.const (sl 0 0 0 1))) 1,
  op 4 (.move (.global 12))])
(.seq (.seq (reg [op 5 (.move (.const (I 0)))])
(.block 0
  (.loop
    (.seq (.seq (reg [op 13 (.move (.tmp 5)) 1,
      op 14 (.move (.tmp 0)) 1,
      op 15 (bi .len #[(.global 14)] 0) 1,
      op 16 (.binOp .lss 0 (.global 13) (.global 15) 0)])
    (.cond (.tmp 16)
      .skip
      (.exit 0)))
    (.seq (.block 1
      (.seq (reg [op 19 (.move (.tmp 0)) 1,
        op 20 (.move (.tmp 5)) 1,
        op 21 (.index 0 (.global 19) (.global 20)) 1,
        op 22 (call (.func 183) #[(.const (S [48, 49, 50, 51, 52, 53, 54, 55, 56, 57, 97, 98, 99, 100, 101, 102])), (.global 21), (.const (I 0))]) 1,
        op 23 (.move (.tmp 0)) 1,
        op 24 (.move (.tmp 5)) 1,
        op 25 (.binOp .add 0 (.global 24) (.const (I 1)) 0) 1,
        op 26 (.index 0 (.global 23) (.global 25)) 1,
        op 27 (call (.func 183) #[(.const (S [48, 49, 50, 51, 52, 53, 54, 55, 56, 57, 97, 98, 99, 100, 101, 102])), (.global 26), (.const (I 0))]) 1,
        op 6 (.move (.global 22)),
        op 7 (.move (.global 27))])
      (.seq (.seq (reg [op 28 (.move (.tmp 6)) 1,
        op 29 (.binOp .lss 0 (.global 28) (.const (I 0)) 0) 1,
        op 30 (.move (.global 29)) 1,
        op 31 (.move (.tmp 7)) 1 (some (61, false)),
        op 32 (.binOp .lss 0 (.global 31) (.const (I 0)) 0) 1 (some (61, false)),
        op 33 (.pick (.global 30) (.const (B true)) (.global 32))])
      (.cond (.tmp 33)
        (.seq (reg [op 2 (.move (.const (S []))),
          op 3 (.move (.const (B false)))])
        .ret)
        .skip))
      (reg [op 34 (.move (.tmp 4)) 1,
        op 35 (.move (.tmp 6)) 1,
        op 36 (.binOp .mul 0 (.const (I 16)) (.global 35) 0) 1,
        op 37 (.move (.tmp 7)) 1,
        op 38 (.binOp .add 0 (.global 36) (.global 37) 0) 1,
        op 39 (.convert 0 4 (.global 38)) 1,
        op 40 (.buildSlice 1 1 #[(0, (.const (.agg #[(U 0)]))), (1, (.global 39))]) 1,
        op 41 (bi .append #[(.global 34), (.global 40)] 1) 1,
        op 4 (.move (.global 41))]))))
    (reg [op 17 (.move (.tmp 5)) 1,
      op 18 (.binOp .add 0 (.global 17) (.const (I 2)) 0) 1,
      op 5 (.move (.global 18))]))))))
(.seq (reg [op 42 (.move (.tmp 4)) 1,
  op 43 (.convert 0 21 (.global 42)) 1,
  op 2 (.move (.global 43)),
  op 3 (.move (.const (B true)))])
.ret))))), [(2, 0), (3, 0)]⟩

/-- spec.InverseDiff -/
def fn382 : AFun := ⟨1,
(.seq (reg [op 2 (.move (.const (sl 0 0 0 0)))])
(.seq (reg [op 5 (.move (.const (sl 0 0 0 3))) 1,
  op 3 (.move (.global 5))])
(.seq (.seq (reg [op 6 (.move (.tmp 0)) 1,
  op 7 (bi .len #[(.global 6)] 1) 1,
  op 8 (.binOp .sub 0 (.global 7) (.const (I 1)) 0) 1,
  op 4 (.move (.global 8))])
(.block 0
  (.loop
    (.seq (.seq (reg [op 9 (.move (.tmp 4)) 1,
      op 10 (.binOp .geq 0 (.global 9) (.const (I 0)) 0)])
    (.cond (.tmp 10)
      .skip
      (.exit 0)))
    (.seq (.block 1
      (reg [op 13 (.move (.tmp 3)) 1,
        op 14 (.move (.tmp 0)) 1,
        op 15 (.move (.tmp 4)) 1,
        op 16 (.indexAddr 7 (.global 14) (.global 15)) 1,
        op 17 (.fieldAddr 0 (.global 16) 0) 1,
        op 18 (.load 0 (.global 17)) 1,
        op 19 (.move (.tmp 0)) 1,
        op 20 (.move (.tmp 4)) 1,
        op 21 (.indexAddr 7 (.global 19) (.global 20)) 1,
        op 22 (.fieldAddr 2 (.global 21) 0) 1,
        op 23 (.load 0 (.global 22)) 1,
        op 24 (.move (.tmp 0)) 1,
        op 25 (.move (.tmp 4)) 1,
        op 26 (.indexAddr 7 (.global 24) (.global 25)) 1,
        op 27 (.fieldAddr 1 (.global 26) 0) 1,
        op 28 (.load 0 (.global 27)) 1,
        op 29 (.build 0 #[(0, (.const (.agg #[(I 0), (I 0), (I 0)]))), (1, (.global 18)), (1001, (.global 23)), (2001, (.global 28))]) 1,
        op 30 (.buildSlice 3 1 #[(0, (.const (.agg #[(I 0), (I 0), (I 0)]))), (3, (.global 29))]) 1,
        op 31 (bi .append #[(.global 13), (.global 30)] 3) 1,
        op 3 (.move (.global 31))]))
    (reg [op 11 (.move (.tmp 4)) 1,
      op 12 (.binOp .sub 0 (.global 11) (.const (I 1)) 0) 1,
      op 4 (.move (.global 12))]))))))
(.seq (reg [op 32 (.move (.tmp 3)) 1,
  op 2 (.move (.global 32))])
.ret)))), [(2, 0)]⟩

/-- impl.InverseDiff -/
def fn89 : AFun := ⟨1,
(.seq (reg [op 2 (.move (.const (sl 0 0 0 0)))])
(.seq (reg [op 5 (.move (.const (sl 0 0 0 3))) 1,
  op 3 (.move (.global 5))])
(.seq (.seq (reg [op 6 (.move (.tmp 0)) 1,
  op 7 (bi .len #[(.global 6)] 1) 1,
  op 8 (.binOp .sub 0 (.global 7) (.const (I 1)) 0) 1,
  op 4 (.move (.global 8))])
(.block 0
  (.loop
    (.seq (.seq (reg [op 9 (.move (.tmp 4)) 1,
      op 10 (.binOp .geq 0 (.global 9) (.const (I 0)) 0)])
    (.cond (.tmp 10)
      .skip
      (.exit 0)))
    (.seq (.block 1
      (reg [op 13 (.move (.tmp 3)) 1,
        op 14 (.move (.tmp 0)) 1,
        op 15 (.move (.tmp 4)) 1,
        op 16 (.indexAddr 7 (.global 14) (.global 15)) 1,
        op 17 (.fieldAddr 0 (.global 16) 0) 1,
        op 18 (.load 0 (.global 17)) 1,
        op 19 (.move (.tmp 0)) 1,
        op 20 (.move (.tmp 4)) 1,
        op 21 (.indexAddr 7 (.global 19) (.global 20)) 1,
        op 22 (.fieldAddr 2 (.global 21) 0) 1,
        op 23 (.load 0 (.global 22)) 1,
        op 24 (.move (.tmp 0)) 1,
        op 25 (.move (.tmp 4)) 1,
        op 26 (.indexAddr 7 (.global 24) (.global 25)) 1,
        op 27 (.fieldAddr 1 (.global 26) 0) 1,
        op 28 (.load 0 (.global 27)) 1,
        op 29 (.build 0 #[(0, (.const (.agg #[(I 0), (I 0), (I 0)]))), (1, (.global 18)), (1001, (.global 23)), (2001, (.global 28))]) 1,
        op 30 (.buildSlice 3 1 #[(0, (.const (.agg #[(I 0), (I 0), (I 0)]))), (3, (.global 29))]) 1,
        op 31 (bi .append #[(.global 13), (.global 30)] 3) 1,
        op 3 (.move (.global 31))]))
    (reg [op 11 (.move (.tmp 4)) 1,
      op 12 (.binOp .sub 0 (.global 11) (.const (I 1)) 0) 1,
      op 4 (.move (.global 12))]))))))
(.seq (reg [op 32 (.move (.tmp 3)) 1,
  op 2 (.move (.global 32))])
.ret)))), [(2, 0)]⟩

/-- spec.l27Sum -/
def fn573 : AFun := ⟨1,
(.seq (reg [op 2 (.move (.const (I 0)))])
(.seq (reg [op 3 (.move (.const (I 1)))])
(.seq (reg [op 4 (.move (.const (I 0)))])
(.seq (.seq (reg [op 5 (.move (.const (I 0)))])
(.block 0
  (.loop
    (.seq (.seq (reg [op 6 (.move (.tmp 5)) 1,
      op 7 (.move (.tmp 0)) 1,
      op 8 (bi .len #[(.global 7)] 0) 1,
      op 9 (.binOp .lss 0 (.global 6) (.global 8) 0)])
    (.cond (.tmp 9)
      .skip
      (.exit 0)))
    (.seq (.block 1
      (.seq (reg [op 12 (.move (.tmp 3)) 1,
        op 13 (.move (.tmp 0)) 1,
        op 14 (.move (.tmp 5)) 1,
        op 15 (.index 0 (.global 13) (.global 14)) 1,
        op 16 (.convert 0 3 (.global 15)) 1,
        op 17 (.binOp .add 0 (.global 12) (.global 16) 0) 1,
        op 18 (.binOp .rem 0 (.global 17) (.const (I 251)) 0) 1,
        op 3 (.move (.global 18))])
      (reg [op 19 (.move (.tmp 4)) 1,
        op 20 (.move (.tmp 3)) 1,
        op 21 (.binOp .add 0 (.global 19) (.global 20) 0) 1,
        op 22 (.binOp .rem 0 (.global 21) (.const (I 251)) 0) 1,
        op 4 (.move (.global 22))])))
    (reg [op 10 (.move (.tmp 5)) 1,
      op 11 (.binOp .add 0 (.global 10) (.const (I 1)) 0) 1,
      op 5 (.move (.global 11))]))))))
(.seq (reg [op 23 (.move (.tmp 4)) 1,
  op 24 (.binOp .mul 0 (.const (I 256)) (.global 23) 0) 1,
  op 25 (.move (.tmp 3)) 1,
  op 26 (.binOp .add 0 (.global 24) (.global 25) 0) 1,
  op 2 (.move (.global 26))])
.ret))))), [(2, 0)]⟩

/-- spec.l27Size -/
def fn572 : AFun := ⟨2,
(.seq (reg [op 4 (.move (.const (I 0)))])
(.seq (reg [op 5 (.move (.tmp 0)) 1,
  op 6 (.move (.tmp 1)) 1,
  op 7 (call (.func 448) #[(.global 5), (.global 6)]) 1,
  op 8 (.binOp .add 0 (.global 7) (.const (I 4)) 0) 1,
  op 9 (.binOp .quo 0 (.global 8) (.const (I 5)) 0) 1,
  op 10 (.binOp .add 0 (.const (I 3)) (.global 9) 0) 1,
  op 11 (.binOp .add 0 (.global 10) (.const (I 2)) 0) 1,
  op 4 (.move (.global 11))])
.ret)), [(4, 0)]⟩

/-- impl.packedSize -/
def fn181 : AFun := ⟨2,
(.seq (reg [op 4 (.move (.const (I 0)))])
(.seq (reg [op 5 (.move (.tmp 0)) 1,
  op 6 (.move (.tmp 1)) 1,
  op 7 (call (.func 166) #[(.global 5), (.global 6)]) 1,
  op 8 (.binOp .add 0 (.global 7) (.const (I 4)) 0) 1,
  op 9 (.binOp .quo 0 (.global 8) (.const (I 5)) 0) 1,
  op 10 (.binOp .add 0 (.const (I 5)) (.global 9) 0) 1,
  op 4 (.move (.global 10))])
.ret)), [(4, 0)]⟩

/-- spec.l28Words -/
def fn581 : AFun := ⟨0,
(.seq (reg [op 0 (.move (.const (sl 0 0 0 0)))])
(.seq (reg [op 1 (.buildSlice 1 18 #[(0, (.const (.agg #[(S []), (S []), (S []), (S []), (S []), (S []), (S []), (S []), (S []), (S []), (S []), (S []), (S []), (S []), (S []), (S []), (S []), (S [])]))), (1, (.const (S [97, 108, 111, 110, 103]))), (1001, (.const (S [98, 114, 97, 99, 107, 101, 116]))), (2001, (.const (S [99, 111, 100, 101]))), (3001, (.const (S [99, 111, 108, 117, 109, 110]))), (4001, (.const (S [99, 111, 117, 110, 116]))), (5001, (.const (S [108, 101, 110, 103, 116, 104, 115]))), (6001, (.const (S [108, 105, 110, 107]))), (7001, (.const (S [110, 101, 119]))), (8001, (.const (S [112, 97, 115, 115, 101, 115]))), (9001, (.const (S [112, 105, 99, 116, 117, 114, 101]))), (10001, (.const (S [114, 101, 97, 100]))), (11001, (.const (S [114, 101, 100, 111]))), (12001, (.const (S [115, 101, 97, 114, 99, 104]))), (13001, (.const (S [115, 101, 116]))), (14001, (.const (S [115, 104, 111, 119]))), (15001, (.const (S [115, 113, 117, 97, 115, 104]))), (16001, (.const (S [117, 110, 100, 111]))), (17001, (.const (S [119, 114, 105, 116, 104, 101])))]) 1,
  op 0 (.move (.global 1))])
.ret)), [(0, 0)]⟩

/-- laws.markText -/
def fn289 : AFun := ⟨1,
(.seq (reg [op 2 (.move (.const (S [])))])
(.seq (.seq (reg [op 4 (.move (.tmp 0)) 1,
  op 5 (.binOp .leq 0 (.global 4) (.const (I 0)) 0)])
(.cond (.tmp 5)
  (.seq (reg [op 2 (.move (.const (S [109, 48])))])
  .ret)
  .skip))
(.seq (reg [op 3 (.move (.const (S [])))])
(.seq (.block 0
  (.loop
    (.seq (.seq (reg [op 6 (.move (.tmp 0)) 1,
      op 7 (.binOp .gtr 0 (.global 6) (.const (I 0)) 0)])
    (.cond (.tmp 7)
      .skip
      (.exit 0)))
    (.block 1
      (.seq (reg [op 8 (.move (.tmp 0)) 1,
        op 9 (.binOp .rem 0 (.global 8) (.const (I 10)) 0) 1,
        op 10 (.binOp .add 0 (.const (I 48)) (.global 9) 0) 1,
        op 11 (.convert 0 4 (.global 10)) 1,
        op 12 (.buildSlice 1 1 #[(0, (.const (.agg #[(U 0)]))), (1, (.global 11))]) 1,
        op 13 (.convert 0 21 (.global 12)) 1,
        op 14 (.move (.tmp 3)) 1,
        op 15 (.binOp .add 0 (.global 13) (.global 14) 0) 1,
        op 3 (.move (.global 15))])
      (reg [op 16 (.move (.tmp 0)) 1,
        op 17 (.binOp .quo 0 (.global 16) (.const (I 10)) 0) 1,
        op 0 (.move (.global 17))]))))))
(.seq (reg [op 18 (.move (.tmp 3)) 1,
  op 19 (.binOp .add 0 (.const (S [109])) (.global 18) 0) 1,
  op 2 (.move (.global 19))])
.ret))))), [(2, 0)]⟩

/-- spec.l27Digit -/
def fn567 : AFun := ⟨1,
(.seq (reg [op 2 (.move (.const (I 0)))])
(.seq (.block 0
  (.seq (reg [op 4 (.move (.tmp 0)) 1,
    op 5 (.binOp .geq 0 (.global 4) (.const (U 48)) 0) 1,
    op 6 (.move (.global 5)) 1,
    op 7 (.move (.tmp 0)) 1 (some (13, true)),
    op 8 (.binOp .leq 0 (.global 7) (.const (U 57)) 0) 1 (some (13, true)),
    op 9 (.pick (.global 6) (.global 8) (.const (B false))) 1,
    op 3 (.move (.global 9))])
  (.cond (.tmp 3)
    (.seq (reg [op 10 (.move (.tmp 0)) 1,
      op 11 (.binOp .sub 0 (.global 10) (.const (U 48)) 0) 1,
      op 12 (.convert 0 3 (.global 11)) 1,
      op 2 (.move (.global 12))])
    .ret)
    (.seq (reg [op 14 (.move (.tmp 0)) 1,
      op 15 (.binOp .geq 0 (.global 14) (.const (U 97)) 0) 1,
      op 16 (.move (.global 15)) 1,
      op 17 (.move (.tmp 0)) 1 (some (33, true)),
      op 18 (.binOp .leq 0 (.global 17) (.const (U 102)) 0) 1 (some (33, true)),
      op 19 (.pick (.global 16) (.global 18) (.const (B false))) 1,
      op 13 (.move (.global 19))])
    (.cond (.tmp 13)
      (.seq (reg [op 20 (.move (.tmp 0)) 1,
        op 21 (.binOp .sub 0 (.global 20) (.const (U 97)) 0) 1,
        op 22 (.convert 0 3 (.global 21)) 1,
        op 23 (.binOp .add 0 (.global 22) (.const (I 10)) 0) 1,
        op 2 (.move (.global 23))])
      .ret)
      .skip)))))
(.seq (reg [op 2 (.move (.const (I (-1))))])
.ret))), [(2, 0)]⟩

/-- impl.placeOf -/
def fn183 : AFun := ⟨3,
(.seq (reg [op 6 (.move (.const (I 0)))])
(.seq (.seq (reg [op 8 (.move (.tmp 2)) 1,
  op 7 (.move (.global 8))])
(.block 0
  (.loop
    (.seq (.seq (reg [op 9 (.move (.tmp 7)) 1,
      op 10 (.move (.tmp 0)) 1,
      op 11 (bi .len #[(.global 10)] 0) 1,
      op 12 (.binOp .lss 0 (.global 9) (.global 11) 0)])
    (.cond (.tmp 12)
      .skip
      (.exit 0)))
    (.seq (.block 1
      (.seq (reg [op 15 (.move (.tmp 0)) 1,
        op 16 (.move (.tmp 7)) 1,
        op 17 (.index 0 (.global 15) (.global 16)) 1,
        op 18 (.move (.tmp 1)) 1,
        op 19 (.binOp .eql 0 (.global 17) (.global 18) 0)])
      (.cond (.tmp 19)
        (.seq (reg [op 20 (.move (.tmp 7)) 1,
          op 6 (.move (.global 20))])
        .ret)
        .skip)))
    (reg [op 13 (.move (.tmp 7)) 1,
      op 14 (.binOp .add 0 (.global 13) (.const (I 1)) 0) 1,
      op 7 (.move (.global 14))]))))))
(.seq (reg [op 6 (.move (.const (I (-1))))])
.ret))), [(6, 0)]⟩

/-- laws.FnExactImageFault -/
def fn218 : AFun := ⟨1,
(.seq (reg [op 2 (.move (.const (B false)))])
(.seq (.seq (reg [op 5 (.move (.tmp 0)) 1,
  op 6 (bi .len #[(.global 5)] 0) 1,
  op 7 (.binOp .gtr 0 (.global 6) (.const (I 1048576)) 0)])
(.cond (.tmp 7)
  (.seq (reg [op 2 (.move (.const (B true)))])
  .ret)
  .skip))
(.seq (reg [op 8 (.move (.tmp 0)) 1,
  op 9 (call (.func 381) #[(.global 8)]) 1,
  op 3 (.move (.global 9))])
(.seq (reg [op 10 (.move (.tmp 0)) 1,
  op 11 (call (.func 88) #[(.global 10)]) 1,
  op 4 (.move (.global 11))])
(.seq (.seq (reg [op 12 (.move (.tmp 4)) 1,
  op 13 (.move (.tmp 3)) 1,
  op 14 (.binOp .neq 0 (.global 12) (.global 13) 0)])
(.cond (.tmp 14)
  (.seq (reg [op 2 (.move (.const (B false)))])
  .ret)
  .skip))
(.seq (reg [op 2 (.move (.const (B true)))])
.ret)))))), [(2, 0)]⟩

/-- laws.FnExactNewDesk -/
def fn227 : AFun := ⟨0,
(.seq (reg [op 0 (.move (.const (B false)))])
(.seq (reg [op 6 (call (.func 393) #[]) 1,
  op 1 (.move (.const (.agg #[(I 0), (I 0), (sl 0 0 0 0), (sl 0 0 0 0), (sl 0 0 0 0)]))),
  op 1 (.insert 5 (.tmp 1) (.tmp 1) (.global 6))])
(.seq (reg [op 7 (call (.func 100) #[]) 1,
  op 2 (.move (.const (.agg #[(I 0), (I 0), (sl 0 0 0 0), (sl 0 0 0 0), (sl 0 0 0 0)]))),
  op 2 (.insert 5 (.tmp 2) (.tmp 2) (.global 7))])
(.seq (.seq (reg [op 8 (.lookup 6 (.tmp 2) (.tmp 2) false) 1,
  op 9 (.lookup 6 (.tmp 1) (.tmp 1) false) 1,
  op 10 (call (.func 260) #[(.global 8), (.global 9)]) 1,
  op 11 (.unOp .not 0 (.global 10))])
(.cond (.tmp 11)
  (.seq (reg [op 0 (.move (.const (B false)))])
  .ret)
  .skip))
(.seq (reg [op 3 (.move (.const (I 1)))])
(.seq (reg [op 12 (.lookup 6 (.tmp 2) (.tmp 2) false) 1,
  op 13 (.move (.tmp 3)) 1,
  op 14 (call (.func 283) #[(.global 12), (.global 13)]) 1,
  op 3 (.move (.global 14))])
(.seq (reg [op 4 (.move (.const (I 1)))])
(.seq (reg [op 15 (.lookup 6 (.tmp 2) (.tmp 2) false) 1,
  op 16 (.move (.tmp 4)) 1,
  op 17 (call (.func 276) #[(.global 15), (.global 16)]) 1,
  op 4 (.move (.global 17))])
(.seq (.seq (reg [op 18 (.move (.tmp 4)) 1,
  op 19 (.binOp .lss 0 (.global 18) (.const (I 0)) 0)])
(.cond (.tmp 19)
  (.seq (reg [op 0 (.move (.const (B false)))])
  .ret)
  .skip))
(.seq (.seq (reg [op 20 (.move (.tmp 4)) 1,
  op 21 (.move (.tmp 3)) 1,
  op 22 (.binOp .neq 0 (.global 20) (.global 21) 0)])
(.cond (.tmp 22)
  (.seq (reg [op 0 (.move (.const (B false)))])
  .ret)
  .skip))
(.seq (reg [op 23 (call (.func 100) #[]) 1,
  op 5 (.move (.const (.agg #[(I 0), (I 0), (sl 0 0 0 0), (sl 0 0 0 0), (sl 0 0 0 0)]))),
  op 5 (.insert 5 (.tmp 5) (.tmp 5) (.global 23))])
(.seq (.seq (reg [op 24 (.lookup 6 (.tmp 5) (.tmp 5) false) 1,
  op 25 (.lookup 6 (.tmp 1) (.tmp 1) false) 1,
  op 26 (call (.func 260) #[(.global 24), (.global 25)]) 1,
  op 27 (.unOp .not 0 (.global 26))])
(.cond (.tmp 27)
  (.seq (reg [op 0 (.move (.const (B false)))])
  .ret)
  .skip))
(.seq (reg [op 4 (.move (.const (I 1)))])
(.seq (reg [op 28 (.lookup 6 (.tmp 2) (.tmp 2) false) 1,
  op 29 (.move (.tmp 4)) 1,
  op 30 (call (.func 276) #[(.global 28), (.global 29)]) 1,
  op 4 (.move (.global 30))])
(.seq (.seq (reg [op 31 (.move (.tmp 4)) 1,
  op 32 (.binOp .lss 0 (.global 31) (.const (I 0)) 0)])
(.cond (.tmp 32)
  (.seq (reg [op 0 (.move (.const (B false)))])
  .ret)
  .skip))
(.seq (.seq (reg [op 33 (.move (.tmp 4)) 1,
  op 34 (.move (.tmp 3)) 1,
  op 35 (.binOp .neq 0 (.global 33) (.global 34) 0)])
(.cond (.tmp 35)
  (.seq (reg [op 0 (.move (.const (B false)))])
  .ret)
  .skip))
(.seq (reg [op 0 (.move (.const (B true)))])
.ret))))))))))))))))), [(0, 0)]⟩

/-- laws.FnExactDiffText -/
def fn214 : AFun := ⟨1,
(.seq (reg [op 2 (.move (.const (B false)))])
(.seq (reg [op 3 (.move (.const (I 1048576)))])
(.seq (reg [op 7 (.move (.tmp 0)) 1,
  op 8 (.move (.tmp 3)) 1,
  op 9 (call (.func 296) #[(.global 7), (.global 8)]) 1,
  op 3 (.move (.global 9))])
(.seq (.seq (reg [op 10 (.move (.tmp 3)) 1,
  op 11 (.binOp .lss 0 (.global 10) (.const (I 0)) 0)])
(.cond (.tmp 11)
  (.seq (reg [op 2 (.move (.const (B true)))])
  .ret)
  .skip))
(.seq (reg [op 12 (.move (.tmp 0)) 1,
  op 13 (call (.func 305) #[(.global 12)]) 1,
  op 14 (call (.func 347) #[(.global 13)]) 1,
  op 4 (.move (.global 14))])
(.seq (reg [op 15 (.move (.tmp 0)) 1,
  op 16 (call (.func 305) #[(.global 15)]) 1,
  op 5 (.move (.global 16))])
(.seq (reg [op 17 (.move (.tmp 5)) 1,
  op 18 (call (.func 80) #[(.global 17)]) 1,
  op 6 (.move (.global 18))])
(.seq (.seq (reg [op 19 (.move (.tmp 6)) 1,
  op 20 (.move (.tmp 4)) 1,
  op 21 (.binOp .neq 0 (.global 19) (.global 20) 0)])
(.cond (.tmp 21)
  (.seq (reg [op 2 (.move (.const (B false)))])
  .ret)
  .skip))
(.seq (.seq (reg [op 22 (.move (.tmp 5)) 1,
  op 23 (.move (.tmp 0)) 1,
  op 24 (call (.func 305) #[(.global 23)]) 1,
  op 25 (call (.func 267) #[(.global 22), (.global 24)]) 1,
  op 26 (.unOp .not 0 (.global 25))])
(.cond (.tmp 26)
  (.seq (reg [op 2 (.move (.const (B false)))])
  .ret)
  .skip))
(.seq (reg [op 2 (.move (.const (B true)))])
.ret)))))))))), [(2, 0)]⟩

/-- laws.FnExactPackPanel -/
def fn230 : AFun := ⟨1,
(.seq (reg [op 1 (.makeChan 3 (.tmp 0)),
  op 2 (.move (.const (B false)))])
(.seq (reg [op 3 (.move (.const (I 1048576)))])
(.seq (reg [op 9 (.lookup 4 (.tmp 1) (.tmp 1) false) 1,
  op 10 (.move (.tmp 3)) 1,
  op 11 (call (.func 295) #[(.global 9), (.global 10)]) 1,
  op 3 (.move (.global 11))])
(.seq (.seq (reg [op 12 (.move (.tmp 3)) 1,
  op 13 (.binOp .lss 0 (.global 12) (.const (I 0)) 0)])
(.cond (.tmp 13)
  (.seq (reg [op 2 (.move (.const (B true)))])
  .ret)
  .skip))
(.seq (reg [op 15 (.lookup 4 (.tmp 1) (.tmp 1) false) 1,
  op 16 (call (.func 303) #[(.global 15)]) 1,
  op 17 (call (.func 398) #[(.global 16)]) 1,
  op 14 (.move (.global 17)) 1,
  op 18 (.extract (.global 14) 0) 1,
  op 19 (.extract (.global 14) 1) 1,
  op 4 (.move (.global 18)),
  op 5 (.move (.global 19))])
(.seq (reg [op 20 (.lookup 4 (.tmp 1) (.tmp 1) false) 1,
  op 21 (call (.func 303) #[(.global 20)]) 1,
  op 6 (.move (.const (.agg #[(I 0), (I 0), (sl 0 0 0 0)]))),
  op 6 (.insert 3 (.tmp 6) (.tmp 6) (.global 21))])
(.seq (reg [op 23 (.lookup 4 (.tmp 6) (.tmp 6) false) 1,
  op 24 (call (.func 107) #[(.global 23)]) 1,
  op 22 (.move (.global 24)) 1,
  op 25 (.extract (.global 22) 0) 1,
  op 26 (.extract (.global 22) 1) 1,
  op 7 (.move (.global 25)),
  op 8 (.move (.global 26))])
(.seq (.seq (reg [op 27 (.move (.tmp 7)) 1,
  op 28 (.move (.tmp 4)) 1,
  op 29 (.binOp .neq 0 (.global 27) (.global 28) 0) 1,
  op 30 (.move (.global 29)) 1,
  op 31 (.move (.tmp 8)) 1 (some (61, false)),
  op 32 (.move (.tmp 5)) 1 (some (61, false)),
  op 33 (.binOp .neq 0 (.global 31) (.global 32) 0) 1 (some (61, false)),
  op 34 (.pick (.global 30) (.const (B true)) (.global 33))])
(.cond (.tmp 34)
  (.seq (reg [op 2 (.move (.const (B false)))])
  .ret)
  .skip))
(.seq (.seq (reg [op 35 (.lookup 4 (.tmp 6) (.tmp 6) false) 1,
  op 36 (.lookup 4 (.tmp 1) (.tmp 1) false) 1,
  op 37 (call (.func 303) #[(.global 36)]) 1,
  op 38 (call (.func 265) #[(.global 35), (.global 37)]) 1,
  op 39 (.unOp .not 0 (.global 38))])
(.cond (.tmp 39)
  (.seq (reg [op 2 (.move (.const (B false)))])
  .ret)
  .skip))
(.seq (reg [op 2 (.move (.const (B true)))])
.ret)))))))))), [(2, 0)]⟩

/-- laws.FnExactClashesOf -/
def fn208 : AFun := ⟨3,
(.seq (reg [op 3 (.makeChan 3 (.tmp 0)),
  op 4 (.makeChan 3 (.tmp 1)),
  op 5 (.makeChan 3 (.tmp 2)),
  op 6 (.move (.const (B false)))])
(.seq (reg [op 7 (.move (.const (I 1048576)))])
(.seq (reg [op 20 (.lookup 4 (.tmp 3) (.tmp 3) false) 1,
  op 21 (.move (.tmp 7)) 1,
  op 22 (call (.func 295) #[(.global 20), (.global 21)]) 1,
  op 7 (.move (.global 22))])
(.seq (.seq (reg [op 23 (.move (.tmp 7)) 1,
  op 24 (.binOp .lss 0 (.global 23) (.const (I 0)) 0)])
(.cond (.tmp 24)
  (.seq (reg [op 6 (.move (.const (B true)))])
  .ret)
  .skip))
(.seq (reg [op 25 (.lookup 4 (.tmp 4) (.tmp 4) false) 1,
  op 26 (.move (.tmp 7)) 1,
  op 27 (call (.func 295) #[(.global 25), (.global 26)]) 1,
  op 7 (.move (.global 27))])
(.seq (.seq (reg [op 28 (.move (.tmp 7)) 1,
  op 29 (.binOp .lss 0 (.global 28) (.const (I 0)) 0)])
(.cond (.tmp 29)
  (.seq (reg [op 6 (.move (.const (B true)))])
  .ret)
  .skip))
(.seq (reg [op 30 (.lookup 4 (.tmp 5) (.tmp 5) false) 1,
  op 31 (.move (.tmp 7)) 1,
  op 32 (call (.func 295) #[(.global 30), (.global 31)]) 1,
  op 7 (.move (.global 32))])
(.seq (.seq (reg [op 33 (.move (.tmp 7)) 1,
  op 34 (.binOp .lss 0 (.global 33) (.const (I 0)) 0)])
(.cond (.tmp 34)
  (.seq (reg [op 6 (.move (.const (B true)))])
  .ret)
  .skip))
(.seq (reg [op 36 (.lookup 4 (.tmp 3) (.tmp 3) false) 1,
  op 37 (call (.func 303) #[(.global 36)]) 1,
  op 38 (.lookup 4 (.tmp 4) (.tmp 4) false) 1,
  op 39 (call (.func 303) #[(.global 38)]) 1,
  op 40 (.lookup 4 (.tmp 5) (.tmp 5) false) 1,
  op 41 (call (.func 303) #[(.global 40)]) 1,
  op 42 (call (.func 334) #[(.global 37), (.global 39), (.global 41)]) 1,
  op 35 (.move (.global 42)) 1,
  op 43 (.extract (.global 35) 0) 1,
  op 44 (.extract (.global 35) 1) 1,
  op 8 (.move (.global 43)),
  op 9 (.move (.global 44))])
(.seq (reg [op 45 (.lookup 4 (.tmp 3) (.tmp 3) false) 1,
  op 46 (call (.func 303) #[(.global 45)]) 1,
  op 10 (.move (.const (.agg #[(I 0), (I 0), (sl 0 0 0 0)]))),
  op 10 (.insert 3 (.tmp 10) (.tmp 10) (.global 46))])
(.seq (reg [op 47 (.lookup 4 (.tmp 4) (.tmp 4) false) 1,
  op 48 (call (.func 303) #[(.global 47)]) 1,
  op 11 (.move (.const (.agg #[(I 0), (I 0), (sl 0 0 0 0)]))),
  op 11 (.insert 3 (.tmp 11) (.tmp 11) (.global 48))])
(.seq (reg [op 49 (.lookup 4 (.tmp 5) (.tmp 5) false) 1,
  op 50 (call (.func 303) #[(.global 49)]) 1,
  op 12 (.move (.const (.agg #[(I 0), (I 0), (sl 0 0 0 0)]))),
  op 12 (.insert 3 (.tmp 12) (.tmp 12) (.global 50))])
(.seq (reg [op 52 (.lookup 4 (.tmp 10) (.tmp 10) false) 1,
  op 53 (.lookup 4 (.tmp 11) (.tmp 11) false) 1,
  op 54 (.lookup 4 (.tmp 12) (.tmp 12) false) 1,
  op 55 (call (.func 65) #[(.global 52), (.global 53), (.global 54)]) 1,
  op 51 (.move (.global 55)) 1,
  op 56 (.extract (.global 51) 0) 1,
  op 57 (.extract (.global 51) 1) 1,
  op 13 (.move (.global 56)),
  op 14 (.move (.global 57))])
(.seq (.seq (reg [op 58 (.move (.tmp 13)) 1,
  op 59 (.move (.tmp 8)) 1,
  op 60 (call (.func 259) #[(.global 58), (.global 59)]) 1,
  op 61 (.unOp .not 0 (.global 60)) 1,
  op 62 (.move (.global 61)) 1,
  op 63 (.move (.tmp 14)) 1 (some (125, false)),
  op 64 (.move (.tmp 9)) 1 (some (125, false)),
  op 65 (.binOp .neq 0 (.global 63) (.global 64) 0) 1 (some (125, false)),
  op 66 (.pick (.global 62) (.const (B true)) (.global 65))])
(.cond (.tmp 66)
  (.seq (reg [op 6 (.move (.const (B false)))])
  .ret)
  .skip))
(.seq (.seq (reg [op 67 (.lookup 4 (.tmp 10) (.tmp 10) false) 1,
  op 68 (.lookup 4 (.tmp 3) (.tmp 3) false) 1,
  op 69 (call (.func 303) #[(.global 68)]) 1,
  op 70 (call (.func 265) #[(.global 67), (.global 69)]) 1,
  op 71 (.unOp .not 0 (.global 70))])
(.cond (.tmp 71)
  (.seq (reg [op 6 (.move (.const (B false)))])
  .ret)
  .skip))
(.seq (.seq (reg [op 72 (.lookup 4 (.tmp 11) (.tmp 11) false) 1,
  op 73 (.lookup 4 (.tmp 4) (.tmp 4) false) 1,
  op 74 (call (.func 303) #[(.global 73)]) 1,
  op 75 (call (.func 265) #[(.global 72), (.global 74)]) 1,
  op 76 (.unOp .not 0 (.global 75))])
(.cond (.tmp 76)
  (.seq (reg [op 6 (.move (.const (B false)))])
  .ret)
  .skip))
(.seq (.seq (reg [op 77 (.lookup 4 (.tmp 12) (.tmp 12) false) 1,
  op 78 (.lookup 4 (.tmp 5) (.tmp 5) false) 1,
  op 79 (call (.func 303) #[(.global 78)]) 1,
  op 80 (call (.func 265) #[(.global 77), (.global 79)]) 1,
  op 81 (.unOp .not 0 (.global 80))])
(.cond (.tmp 81)
  (.seq (reg [op 6 (.move (.const (B false)))])
  .ret)
  .skip))
(.seq (reg [op 15 (.move (.const (I 1)))])
(.seq (reg [op 82 (.lookup 4 (.tmp 10) (.tmp 10) false) 1,
  op 83 (.move (.tmp 15)) 1,
  op 84 (call (.func 286) #[(.global 82), (.global 83)]) 1,
  op 15 (.move (.global 84))])
(.seq (reg [op 85 (.lookup 4 (.tmp 11) (.tmp 11) false) 1,
  op 86 (.move (.tmp 15)) 1,
  op 87 (call (.func 286) #[(.global 85), (.global 86)]) 1,
  op 15 (.move (.global 87))])
(.seq (reg [op 88 (.lookup 4 (.tmp 12) (.tmp 12) false) 1,
  op 89 (.move (.tmp 15)) 1,
  op 90 (call (.func 286) #[(.global 88), (.global 89)]) 1,
  op 15 (.move (.global 90))])
(.seq (.seq (reg [op 91 (.move (.tmp 15)) 1,
  op 92 (.binOp .lss 0 (.global 91) (.const (I 0)) 0) 1,
  op 93 (.move (.global 92)) 1,
  op 94 (.move (.tmp 13)) 1 (some (187, false)),
  op 95 (.move (.tmp 8)) 1 (some (187, false)),
  op 96 (call (.func 259) #[(.global 94), (.global 95)]) 1 (some (187, false)),
  op 97 (.unOp .not 0 (.global 96)) 1 (some (187, false)),
  op 98 (.pick (.global 93) (.const (B true)) (.global 97)) 1,
  op 99 (.move (.global 98)) 1,
  op 100 (.move (.tmp 14)) 1 (some (199, false)),
  op 101 (.move (.tmp 9)) 1 (some (199, false)),
  op 102 (.binOp .neq 0 (.global 100) (.global 101) 0) 1 (some (199, false)),
  op 103 (.pick (.global 99) (.const (B true)) (.global 102))])
(.cond (.tmp 103)
  (.seq (reg [op 6 (.move (.const (B false)))])
  .ret)
  .skip))
(.seq (reg [op 16 (.move (.const (I 1)))])
(.seq (reg [op 104 (.move (.tmp 13)) 1,
  op 105 (.move (.tmp 16)) 1,
  op 106 (call (.func 282) #[(.global 104), (.global 105)]) 1,
  op 16 (.move (.global 106))])
(.seq (reg [op 17 (.move (.const (I 1)))])
(.seq (reg [op 107 (.move (.tmp 13)) 1,
  op 108 (.move (.tmp 17)) 1,
  op 109 (call (.func 275) #[(.global 107), (.global 108)]) 1,
  op 17 (.move (.global 109))])
(.seq (.seq (reg [op 110 (.move (.tmp 17)) 1,
  op 111 (.binOp .lss 0 (.global 110) (.const (I 0)) 0)])
(.cond (.tmp 111)
  (.seq (reg [op 6 (.move (.const (B false)))])
  .ret)
  .skip))
(.seq (.seq (reg [op 112 (.move (.tmp 17)) 1,
  op 113 (.move (.tmp 16)) 1,
  op 114 (.binOp .neq 0 (.global 112) (.global 113) 0)])
(.cond (.tmp 114)
  (.seq (reg [op 6 (.move (.const (B false)))])
  .ret)
  .skip))
(.seq (reg [op 116 (.lookup 4 (.tmp 3) (.tmp 3) false) 1,
  op 117 (call (.func 303) #[(.global 116)]) 1,
  op 118 (.lookup 4 (.tmp 4) (.tmp 4) false) 1,
  op 119 (call (.func 303) #[(.global 118)]) 1,
  op 120 (.lookup 4 (.tmp 5) (.tmp 5) false) 1,
  op 121 (call (.func 303) #[(.global 120)]) 1,
  op 122 (call (.func 65) #[(.global 117), (.global 119), (.global 121)]) 1,
  op 115 (.move (.global 122)) 1,
  op 123 (.extract (.global 115) 0) 1,
  op 124 (.extract (.global 115) 1) 1,
  op 18 (.move (.global 123)),
  op 19 (.move (.global 124))])
(.seq (.seq (reg [op 125 (.move (.tmp 18)) 1,
  op 126 (.move (.tmp 8)) 1,
  op 127 (call (.func 259) #[(.global 125), (.global 126)]) 1,
  op 128 (.unOp .not 0 (.global 127)) 1,
  op 129 (.move (.global 128)) 1,
  op 130 (.move (.tmp 19)) 1 (some (259, false)),
  op 131 (.move (.tmp 9)) 1 (some (259, false)),
  op 132 (.binOp .neq 0 (.global 130) (.global 131) 0) 1 (some (259, false)),
  op 133 (.pick (.global 129) (.const (B true)) (.global 132))])
(.cond (.tmp 133)
  (.seq (reg [op 6 (.move (.const (B false)))])
  .ret)
  .skip))
(.seq (reg [op 17 (.move (.const (I 1)))])
(.seq (reg [op 134 (.move (.tmp 13)) 1,
  op 135 (.move (.tmp 17)) 1,
  op 136 (call (.func 275) #[(.global 134), (.global 135)]) 1,
  op 17 (.move (.global 136))])
(.seq (.seq (reg [op 137 (.move (.tmp 17)) 1,
  op 138 (.binOp .lss 0 (.global 137) (.const (I 0)) 0)])
(.cond (.tmp 138)
  (.seq (reg [op 6 (.move (.const (B false)))])
  .ret)
  .skip))
(.seq (.seq (reg [op 139 (.move (.tmp 17)) 1,
  op 140 (.move (.tmp 16)) 1,
  op 141 (.binOp .neq 0 (.global 139) (.global 140) 0)])
(.cond (.tmp 141)
  (.seq (reg [op 6 (.move (.const (B false)))])
  .ret)
  .skip))
(.seq (reg [op 6 (.move (.const (B true)))])
.ret))))))))))))))))))))))))))))))))))), [(6, 0)]⟩

/-- laws.FnExactSameKept -/
def fn241 : AFun := ⟨2,
(.seq (reg [op 4 (.move (.const (B false)))])
(.seq (reg [op 5 (.move (.const (I 1048576)))])
(.seq (reg [op 10 (.move (.tmp 0)) 1,
  op 11 (.move (.tmp 5)) 1,
  op 12 (call (.func 294) #[(.global 10), (.global 11)]) 1,
  op 5 (.move (.global 12))])
(.seq (.seq (reg [op 13 (.move (.tmp 5)) 1,
  op 14 (.binOp .lss 0 (.global 13) (.const (I 0)) 0)])
(.cond (.tmp 14)
  (.seq (reg [op 4 (.move (.const (B true)))])
  .ret)
  .skip))
(.seq (reg [op 15 (.move (.tmp 1)) 1,
  op 16 (.move (.tmp 5)) 1,
  op 17 (call (.func 294) #[(.global 15), (.global 16)]) 1,
  op 5 (.move (.global 17))])
(.seq (.seq (reg [op 18 (.move (.tmp 5)) 1,
  op 19 (.binOp .lss 0 (.global 18) (.const (I 0)) 0)])
(.cond (.tmp 19)
  (.seq (reg [op 4 (.move (.const (B true)))])
  .ret)
  .skip))
(.seq (reg [op 20 (.move (.tmp 0)) 1,
  op 21 (call (.func 302) #[(.global 20)]) 1,
  op 22 (.move (.tmp 1)) 1,
  op 23 (call (.func 302) #[(.global 22)]) 1,
  op 24 (call (.func 419) #[(.global 21), (.global 23)]) 1,
  op 6 (.move (.global 24))])
(.seq (reg [op 25 (.move (.tmp 0)) 1,
  op 26 (call (.func 302) #[(.global 25)]) 1,
  op 7 (.move (.global 26))])
(.seq (reg [op 27 (.move (.tmp 1)) 1,
  op 28 (call (.func 302) #[(.global 27)]) 1,
  op 8 (.move (.global 28))])
(.seq (reg [op 29 (.move (.tmp 7)) 1,
  op 30 (.move (.tmp 8)) 1,
  op 31 (call (.func 128) #[(.global 29), (.global 30)]) 1,
  op 9 (.move (.global 31))])
(.seq (.seq (reg [op 32 (.move (.tmp 9)) 1,
  op 33 (.move (.tmp 6)) 1,
  op 34 (.binOp .neq 1 (.global 32) (.global 33) 0)])
(.cond (.tmp 34)
  (.seq (reg [op 4 (.move (.const (B false)))])
  .ret)
  .skip))
(.seq (.seq (reg [op 35 (.move (.tmp 7)) 1,
  op 36 (.move (.tmp 0)) 1,
  op 37 (call (.func 302) #[(.global 36)]) 1,
  op 38 (call (.func 264) #[(.global 35), (.global 37)]) 1,
  op 39 (.unOp .not 0 (.global 38))])
(.cond (.tmp 39)
  (.seq (reg [op 4 (.move (.const (B false)))])
  .ret)
  .skip))
(.seq (.seq (reg [op 40 (.move (.tmp 8)) 1,
  op 41 (.move (.tmp 1)) 1,
  op 42 (call (.func 302) #[(.global 41)]) 1,
  op 43 (call (.func 264) #[(.global 40), (.global 42)]) 1,
  op 44 (.unOp .not 0 (.global 43))])
(.cond (.tmp 44)
  (.seq (reg [op 4 (.move (.const (B false)))])
  .ret)
  .skip))
(.seq (reg [op 4 (.move (.const (B true)))])
.ret)))))))))))))), [(4, 0)]⟩

/-- laws.FnExactSameJournal -/
def fn240 : AFun := ⟨2,
(.seq (reg [op 2 (.makeChan 5 (.tmp 0)),
  op 3 (.makeChan 5 (.tmp 1)),
  op 4 (.move (.const (B false)))])
(.seq (reg [op 5 (.move (.const (I 1048576)))])
(.seq (reg [op 10 (.lookup 6 (.tmp 2) (.tmp 2) false) 1,
  op 11 (.move (.tmp 5)) 1,
  op 12 (call (.func 291) #[(.global 10), (.global 11)]) 1,
  op 5 (.move (.global 12))])
(.seq (.seq (reg [op 13 (.move (.tmp 5)) 1,
  op 14 (.binOp .lss 0 (.global 13) (.const (I 0)) 0)])
(.cond (.tmp 14)
  (.seq (reg [op 4 (.move (.const (B true)))])
  .ret)
  .skip))
(.seq (reg [op 15 (.lookup 6 (.tmp 3) (.tmp 3) false) 1,
  op 16 (.move (.tmp 5)) 1,
  op 17 (call (.func 291) #[(.global 15), (.global 16)]) 1,
  op 5 (.move (.global 17))])
(.seq (.seq (reg [op 18 (.move (.tmp 5)) 1,
  op 19 (.binOp .lss 0 (.global 18) (.const (I 0)) 0)])
(.cond (.tmp 19)
  (.seq (reg [op 4 (.move (.const (B true)))])
  .ret)
  .skip))
(.seq (reg [op 20 (.lookup 6 (.tmp 2) (.tmp 2) false) 1,
  op 21 (call (.func 298) #[(.global 20)]) 1,
  op 22 (.lookup 6 (.tmp 3) (.tmp 3) false) 1,
  op 23 (call (.func 298) #[(.global 22)]) 1,
  op 24 (call (.func 418) #[(.global 21), (.global 23)]) 1,
  op 6 (.move (.global 24))])
(.seq (reg [op 25 (.lookup 6 (.tmp 2) (.tmp 2) false) 1,
  op 26 (call (.func 298) #[(.global 25)]) 1,
  op 7 (.move (.const (.agg #[(I 0), (I 0), (sl 0 0 0 0), (sl 0 0 0 0), (sl 0 0 0 0)]))),
  op 7 (.insert 5 (.tmp 7) (.tmp 7) (.global 26))])
(.seq (reg [op 27 (.lookup 6 (.tmp 3) (.tmp 3) false) 1,
  op 28 (call (.func 298) #[(.global 27)]) 1,
  op 8 (.move (.const (.agg #[(I 0), (I 0), (sl 0 0 0 0), (sl 0 0 0 0), (sl 0 0 0 0)]))),
  op 8 (.insert 5 (.tmp 8) (.tmp 8) (.global 28))])
(.seq (reg [op 29 (.lookup 6 (.tmp 7) (.tmp 7) false) 1,
  op 30 (.lookup 6 (.tmp 8) (.tmp 8) false) 1,
  op 31 (call (.func 127) #[(.global 29), (.global 30)]) 1,
  op 9 (.move (.global 31))])
(.seq (.seq (reg [op 32 (.move (.tmp 9)) 1,
  op 33 (.move (.tmp 6)) 1,
  op 34 (.binOp .neq 1 (.global 32) (.global 33) 0)])
(.cond (.tmp 34)
  (.seq (reg [op 4 (.move (.const (B false)))])
  .ret)
  .skip))
(.seq (.seq (reg [op 35 (.lookup 6 (.tmp 7) (.tmp 7) false) 1,
  op 36 (.lookup 6 (.tmp 2) (.tmp 2) false) 1,
  op 37 (call (.func 298) #[(.global 36)]) 1,
  op 38 (call (.func 260) #[(.global 35), (.global 37)]) 1,
  op 39 (.unOp .not 0 (.global 38))])
(.cond (.tmp 39)
  (.seq (reg [op 4 (.move (.const (B false)))])
  .ret)
  .skip))
(.seq (.seq (reg [op 40 (.lookup 6 (.tmp 8) (.tmp 8) false) 1,
  op 41 (.lookup 6 (.tmp 3) (.tmp 3) false) 1,
  op 42 (call (.func 298) #[(.global 41)]) 1,
  op 43 (call (.func 260) #[(.global 40), (.global 42)]) 1,
  op 44 (.unOp .not 0 (.global 43))])
(.cond (.tmp 44)
  (.seq (reg [op 4 (.move (.const (B false)))])
  .ret)
  .skip))
(.seq (reg [op 4 (.move (.const (B true)))])
.ret)))))))))))))), [(4, 0)]⟩

/-- laws.FnExactUnpackPanel -/
def fn247 : AFun := ⟨1,
(.seq (reg [op 2 (.move (.const (B false)))])
(.seq (.seq (reg [op 11 (.move (.tmp 0)) 1,
  op 12 (bi .len #[(.global 11)] 0) 1,
  op 13 (.binOp .gtr 0 (.global 12) (.const (I 1048576)) 0)])
(.cond (.tmp 13)
  (.seq (reg [op 2 (.move (.const (B true)))])
  .ret)
  .skip))
(.seq (reg [op 15 (.move (.tmp 0)) 1,
  op 16 (call (.func 426) #[(.global 15)]) 1,
  op 14 (.move (.global 16)) 1,
  op 17 (.extract (.global 14) 0) 1,
  op 18 (.extract (.global 14) 1) 1,
  op 3 (.move (.const (.agg #[(I 0), (I 0), (sl 0 0 0 0)]))),
  op 3 (.insert 3 (.tmp 3) (.tmp 3) (.global 17)),
  op 4 (.move (.global 18))])
(.seq (reg [op 20 (.move (.tmp 0)) 1,
  op 21 (call (.func 136) #[(.global 20)]) 1,
  op 19 (.move (.global 21)) 1,
  op 22 (.extract (.global 19) 0) 1,
  op 23 (.extract (.global 19) 1) 1,
  op 5 (.move (.const (.agg #[(I 0), (I 0), (sl 0 0 0 0)]))),
  op 5 (.insert 3 (.tmp 5) (.tmp 5) (.global 22)),
  op 6 (.move (.global 23))])
(.seq (.seq (reg [op 24 (.lookup 4 (.tmp 5) (.tmp 5) false) 1,
  op 25 (.lookup 4 (.tmp 3) (.tmp 3) false) 1,
  op 26 (call (.func 265) #[(.global 24), (.global 25)]) 1,
  op 27 (.unOp .not 0 (.global 26)) 1,
  op 28 (.move (.global 27)) 1,
  op 29 (.move (.tmp 6)) 1 (some (57, false)),
  op 30 (.move (.tmp 4)) 1 (some (57, false)),
  op 31 (.binOp .neq 0 (.global 29) (.global 30) 0) 1 (some (57, false)),
  op 32 (.pick (.global 28) (.const (B true)) (.global 31))])
(.cond (.tmp 32)
  (.seq (reg [op 2 (.move (.const (B false)))])
  .ret)
  .skip))
(.seq (reg [op 7 (.move (.const (I 1)))])
(.seq (reg [op 33 (.lookup 4 (.tmp 5) (.tmp 5) false) 1,
  op 34 (.move (.tmp 7)) 1,
  op 35 (call (.func 286) #[(.global 33), (.global 34)]) 1,
  op 7 (.move (.global 35))])
(.seq (reg [op 8 (.move (.const (I 1)))])
(.seq (reg [op 36 (.lookup 4 (.tmp 5) (.tmp 5) false) 1,
  op 37 (.move (.tmp 8)) 1,
  op 38 (call (.func 279) #[(.global 36), (.global 37)]) 1,
  op 8 (.move (.global 38))])
(.seq (.seq (reg [op 39 (.move (.tmp 8)) 1,
  op 40 (.binOp .lss 0 (.global 39) (.const (I 0)) 0)])
(.cond (.tmp 40)
  (.seq (reg [op 2 (.move (.const (B false)))])
  .ret)
  .skip))
(.seq (.seq (reg [op 41 (.move (.tmp 8)) 1,
  op 42 (.move (.tmp 7)) 1,
  op 43 (.binOp .neq 0 (.global 41) (.global 42) 0)])
(.cond (.tmp 43)
  (.seq (reg [op 2 (.move (.const (B false)))])
  .ret)
  .skip))
(.seq (reg [op 45 (.move (.tmp 0)) 1,
  op 46 (call (.func 136) #[(.global 45)]) 1,
  op 44 (.move (.global 46)) 1,
  op 47 (.extract (.global 44) 0) 1,
  op 48 (.extract (.global 44) 1) 1,
  op 9 (.move (.const (.agg #[(I 0), (I 0), (sl 0 0 0 0)]))),
  op 9 (.insert 3 (.tmp 9) (.tmp 9) (.global 47)),
  op 10 (.move (.global 48))])
(.seq (.seq (reg [op 49 (.lookup 4 (.tmp 9) (.tmp 9) false) 1,
  op 50 (.lookup 4 (.tmp 3) (.tmp 3) false) 1,
  op 51 (call (.func 265) #[(.global 49), (.global 50)]) 1,
  op 52 (.unOp .not 0 (.global 51)) 1,
  op 53 (.move (.global 52)) 1,
  op 54 (.move (.tmp 10)) 1 (some (107, false)),
  op 55 (.move (.tmp 4)) 1 (some (107, false)),
  op 56 (.binOp .neq 0 (.global 54) (.global 55) 0) 1 (some (107, false)),
  op 57 (.pick (.global 53) (.const (B true)) (.global 56))])
(.cond (.tmp 57)
  (.seq (reg [op 2 (.move (.const (B false)))])
  .ret)
  .skip))
(.seq (reg [op 8 (.move (.const (I 1)))])
(.seq (reg [op 58 (.lookup 4 (.tmp 5) (.tmp 5) false) 1,
  op 59 (.move (.tmp 8)) 1,
  op 60 (call (.func 279) #[(.global 58), (.global 59)]) 1,
  op 8 (.move (.global 60))])
(.seq (.seq (reg [op 61 (.move (.tmp 8)) 1,
  op 62 (.binOp .lss 0 (.global 61) (.const (I 0)) 0)])
(.cond (.tmp 62)
  (.seq (reg [op 2 (.move (.const (B false)))])
  .ret)
  .skip))
(.seq (.seq (reg [op 63 (.move (.tmp 8)) 1,
  op 64 (.move (.tmp 7)) 1,
  op 65 (.binOp .neq 0 (.global 63) (.global 64) 0)])
(.cond (.tmp 65)
  (.seq (reg [op 2 (.move (.const (B false)))])
  .ret)
  .skip))
(.seq (reg [op 2 (.move (.const (B true)))])
.ret)))))))))))))))))), [(2, 0)]⟩

/-- laws.FnExactPartOf -/
def fn232 : AFun := ⟨5,
(.seq (reg [op 5 (.makeChan 3 (.tmp 0)),
  op 10 (.move (.const (B false)))])
(.seq (reg [op 11 (.move (.const (I 1048576)))])
(.seq (reg [op 22 (.lookup 4 (.tmp 5) (.tmp 5) false) 1,
  op 23 (.move (.tmp 11)) 1,
  op 24 (call (.func 295) #[(.global 22), (.global 23)]) 1,
  op 11 (.move (.global 24))])
(.seq (.seq (reg [op 25 (.move (.tmp 11)) 1,
  op 26 (.binOp .lss 0 (.global 25) (.const (I 0)) 0)])
(.cond (.tmp 26)
  (.seq (reg [op 10 (.move (.const (B true)))])
  .ret)
  .skip))
(.seq (reg [op 28 (.lookup 4 (.tmp 5) (.tmp 5) false) 1,
  op 29 (call (.func 303) #[(.global 28)]) 1,
  op 30 (.move (.tmp 1)) 1,
  op 31 (.move (.tmp 2)) 1,
  op 32 (.move (.tmp 3)) 1,
  op 33 (.move (.tmp 4)) 1,
  op 34 (call (.func 403) #[(.global 29), (.global 30), (.global 31), (.global 32), (.global 33)]) 1,
  op 27 (.move (.global 34)) 1,
  op 35 (.extract (.global 27) 0) 1,
  op 36 (.extract (.global 27) 1) 1,
  op 12 (.move (.const (.agg #[(I 0), (I 0), (sl 0 0 0 0)]))),
  op 12 (.insert 3 (.tmp 12) (.tmp 12) (.global 35)),
  op 13 (.move (.global 36))])
(.seq (reg [op 37 (.lookup 4 (.tmp 5) (.tmp 5) false) 1,
  op 38 (call (.func 303) #[(.global 37)]) 1,
  op 14 (.move (.const (.agg #[(I 0), (I 0), (sl 0 0 0 0)]))),
  op 14 (.insert 3 (.tmp 14) (.tmp 14) (.global 38))])
(.seq (reg [op 40 (.lookup 4 (.tmp 14) (.tmp 14) false) 1,
  op 41 (.move (.tmp 1)) 1,
  op 42 (.move (.tmp 2)) 1,
  op 43 (.move (.tmp 3)) 1,
  op 44 (.move (.tmp 4)) 1,
  op 45 (call (.func 111) #[(.global 40), (.global 41), (.global 42), (.global 43), (.global 44)]) 1,
  op 39 (.move (.global 45)) 1,
  op 46 (.extract (.global 39) 0) 1,
  op 47 (.extract (.global 39) 1) 1,
  op 15 (.move (.const (.agg #[(I 0), (I 0), (sl 0 0 0 0)]))),
  op 15 (.insert 3 (.tmp 15) (.tmp 15) (.global 46)),
  op 16 (.move (.global 47))])
(.seq (.seq (reg [op 48 (.lookup 4 (.tmp 15) (.tmp 15) false) 1,
  op 49 (.lookup 4 (.tmp 12) (.tmp 12) false) 1,
  op 50 (call (.func 265) #[(.global 48), (.global 49)]) 1,
  op 51 (.unOp .not 0 (.global 50)) 1,
  op 52 (.move (.global 51)) 1,
  op 53 (.move (.tmp 16)) 1 (some (105, false)),
  op 54 (.move (.tmp 13)) 1 (some (105, false)),
  op 55 (.binOp .neq 0 (.global 53) (.global 54) 0) 1 (some (105, false)),
  op 56 (.pick (.global 52) (.const (B true)) (.global 55))])
(.cond (.tmp 56)
  (.seq (reg [op 10 (.move (.const (B false)))])
  .ret)
  .skip))
(.seq (.seq (reg [op 57 (.lookup 4 (.tmp 14) (.tmp 14) false) 1,
  op 58 (.lookup 4 (.tmp 5) (.tmp 5) false) 1,
  op 59 (call (.func 303) #[(.global 58)]) 1,
  op 60 (call (.func 265) #[(.global 57), (.global 59)]) 1,
  op 61 (.unOp .not 0 (.global 60))])
(.cond (.tmp 61)
  (.seq (reg [op 10 (.move (.const (B false)))])
  .ret)
  .skip))
(.seq (reg [op 17 (.move (.const (I 1)))])
(.seq (reg [op 62 (.lookup 4 (.tmp 14) (.tmp 14) false) 1,
  op 63 (.move (.tmp 17)) 1,
  op 64 (call (.func 286) #[(.global 62), (.global 63)]) 1,
  op 17 (.move (.global 64))])
(.seq (.seq (reg [op 65 (.move (.tmp 17)) 1,
  op 66 (.binOp .lss 0 (.global 65) (.const (I 0)) 0) 1,
  op 67 (.move (.global 66)) 1,
  op 68 (.lookup 4 (.tmp 15) (.tmp 15) false) 1 (some (135, false)),
  op 69 (.lookup 4 (.tmp 12) (.tmp 12) false) 1 (some (135, false)),
  op 70 (call (.func 265) #[(.global 68), (.global 69)]) 1 (some (135, false)),
  op 71 (.unOp .not 0 (.global 70)) 1 (some (135, false)),
  op 72 (.pick (.global 67) (.const (B true)) (.global 71)) 1,
  op 73 (.move (.global 72)) 1,
  op 74 (.move (.tmp 16)) 1 (some (147, false)),
  op 75 (.move (.tmp 13)) 1 (some (147, false)),
  op 76 (.binOp .neq 0 (.global 74) (.global 75) 0) 1 (some (147, false)),
  op 77 (.pick (.global 73) (.const (B true)) (.global 76))])
(.cond (.tmp 77)
  (.seq (reg [op 10 (.move (.const (B false)))])
  .ret)
  .skip))
(.seq (reg [op 18 (.move (.const (I 1)))])
(.seq (reg [op 78 (.lookup 4 (.tmp 15) (.tmp 15) false) 1,
  op 79 (.move (.tmp 18)) 1,
  op 80 (call (.func 286) #[(.global 78), (.global 79)]) 1,
  op 18 (.move (.global 80))])
(.seq (reg [op 19 (.move (.const (I 1)))])
(.seq (reg [op 81 (.lookup 4 (.tmp 15) (.tmp 15) false) 1,
  op 82 (.move (.tmp 19)) 1,
  op 83 (call (.func 279) #[(.global 81), (.global 82)]) 1,
  op 19 (.move (.global 83))])
(.seq (.seq (reg [op 84 (.move (.tmp 19)) 1,
  op 85 (.binOp .lss 0 (.global 84) (.const (I 0)) 0)])
(.cond (.tmp 85)
  (.seq (reg [op 10 (.move (.const (B false)))])
  .ret)
  .skip))
(.seq (.seq (reg [op 86 (.move (.tmp 19)) 1,
  op 87 (.move (.tmp 18)) 1,
  op 88 (.binOp .neq 0 (.global 86) (.global 87) 0)])
(.cond (.tmp 88)
  (.seq (reg [op 10 (.move (.const (B false)))])
  .ret)
  .skip))
(.seq (reg [op 90 (.lookup 4 (.tmp 5) (.tmp 5) false) 1,
  op 91 (call (.func 303) #[(.global 90)]) 1,
  op 92 (.move (.tmp 1)) 1,
  op 93 (.move (.tmp 2)) 1,
  op 94 (.move (.tmp 3)) 1,
  op 95 (.move (.tmp 4)) 1,
  op 96 (call (.func 111) #[(.global 91), (.global 92), (.global 93), (.global 94), (.global 95)]) 1,
  op 89 (.move (.global 96)) 1,
  op 97 (.extract (.global 89) 0) 1,
  op 98 (.extract (.global 89) 1) 1,
  op 20 (.move (.const (.agg #[(I 0), (I 0), (sl 0 0 0 0)]))),
  op 20 (.insert 3 (.tmp 20) (.tmp 20) (.global 97)),
  op 21 (.move (.global 98))])
(.seq (.seq (reg [op 99 (.lookup 4 (.tmp 20) (.tmp 20) false) 1,
  op 100 (.lookup 4 (.tmp 12) (.tmp 12) false) 1,
  op 101 (call (.func 265) #[(.global 99), (.global 100)]) 1,
  op 102 (.unOp .not 0 (.global 101)) 1,
  op 103 (.move (.global 102)) 1,
  op 104 (.move (.tmp 21)) 1 (some (207, false)),
  op 105 (.move (.tmp 13)) 1 (some (207, false)),
  op 106 (.binOp .neq 0 (.global 104) (.global 105) 0) 1 (some (207, false)),
  op 107 (.pick (.global 103) (.const (B true)) (.global 106))])
(.cond (.tmp 107)
  (.seq (reg [op 10 (.move (.const (B false)))])
  .ret)
  .skip))
(.seq (reg [op 19 (.move (.const (I 1)))])
(.seq (reg [op 108 (.lookup 4 (.tmp 15) (.tmp 15) false) 1,
  op 109 (.move (.tmp 19)) 1,
  op 110 (call (.func 279) #[(.global 108), (.global 109)]) 1,
  op 19 (.move (.global 110))])
(.seq (.seq (reg [op 111 (.move (.tmp 19)) 1,
  op 112 (.binOp .lss 0 (.global 111) (.const (I 0)) 0)])
(.cond (.tmp 112)
  (.seq (reg [op 10 (.move (.const (B false)))])
  .ret)
  .skip))
(.seq (.seq (reg [op 113 (.move (.tmp 19)) 1,
  op 114 (.move (.tmp 18)) 1,
  op 115 (.binOp .neq 0 (.global 113) (.global 114) 0)])
(.cond (.tmp 115)
  (.seq (reg [op 10 (.move (.const (B false)))])
  .ret)
  .skip))
(.seq (reg [op 10 (.move (.const (B true)))])
.ret))))))))))))))))))))))))), [(10, 0)]⟩

/-- laws.FnExactDiffPanels -/
def fn213 : AFun := ⟨2,
(.seq (reg [op 2 (.makeChan 3 (.tmp 0)),
  op 3 (.makeChan 3 (.tmp 1)),
  op 4 (.move (.const (B false)))])
(.seq (reg [op 5 (.move (.const (I 1048576)))])
(.seq (reg [op 17 (.lookup 4 (.tmp 2) (.tmp 2) false) 1,
  op 18 (.move (.tmp 5)) 1,
  op 19 (call (.func 295) #[(.global 17), (.global 18)]) 1,
  op 5 (.move (.global 19))])
(.seq (.seq (reg [op 20 (.move (.tmp 5)) 1,
  op 21 (.binOp .lss 0 (.global 20) (.const (I 0)) 0)])
(.cond (.tmp 21)
  (.seq (reg [op 4 (.move (.const (B true)))])
  .ret)
  .skip))
(.seq (reg [op 22 (.lookup 4 (.tmp 3) (.tmp 3) false) 1,
  op 23 (.move (.tmp 5)) 1,
  op 24 (call (.func 295) #[(.global 22), (.global 23)]) 1,
  op 5 (.move (.global 24))])
(.seq (.seq (reg [op 25 (.move (.tmp 5)) 1,
  op 26 (.binOp .lss 0 (.global 25) (.const (I 0)) 0)])
(.cond (.tmp 26)
  (.seq (reg [op 4 (.move (.const (B true)))])
  .ret)
  .skip))
(.seq (reg [op 28 (.lookup 4 (.tmp 2) (.tmp 2) false) 1,
  op 29 (call (.func 303) #[(.global 28)]) 1,
  op 30 (.lookup 4 (.tmp 3) (.tmp 3) false) 1,
  op 31 (call (.func 303) #[(.global 30)]) 1,
  op 32 (call (.func 346) #[(.global 29), (.global 31)]) 1,
  op 27 (.move (.global 32)) 1,
  op 33 (.extract (.global 27) 0) 1,
  op 34 (.extract (.global 27) 1) 1,
  op 6 (.move (.global 33)),
  op 7 (.move (.global 34))])
(.seq (reg [op 35 (.lookup 4 (.tmp 2) (.tmp 2) false) 1,
  op 36 (call (.func 303) #[(.global 35)]) 1,
  op 8 (.move (.const (.agg #[(I 0), (I 0), (sl 0 0 0 0)]))),
  op 8 (.insert 3 (.tmp 8) (.tmp 8) (.global 36))])
(.seq (reg [op 37 (.lookup 4 (.tmp 3) (.tmp 3) false) 1,
  op 38 (call (.func 303) #[(.global 37)]) 1,
  op 9 (.move (.const (.agg #[(I 0), (I 0), (sl 0 0 0 0)]))),
  op 9 (.insert 3 (.tmp 9) (.tmp 9) (.global 38))])
(.seq (reg [op 40 (.lookup 4 (.tmp 8) (.tmp 8) false) 1,
  op 41 (.lookup 4 (.tmp 9) (.tmp 9) false) 1,
  op 42 (call (.func 79) #[(.global 40), (.global 41)]) 1,
  op 39 (.move (.global 42)) 1,
  op 43 (.extract (.global 39) 0) 1,
  op 44 (.extract (.global 39) 1) 1,
  op 10 (.move (.global 43)),
  op 11 (.move (.global 44))])
(.seq (.seq (reg [op 45 (.move (.tmp 10)) 1,
  op 46 (.move (.tmp 6)) 1,
  op 47 (call (.func 267) #[(.global 45), (.global 46)]) 1,
  op 48 (.unOp .not 0 (.global 47)) 1,
  op 49 (.move (.global 48)) 1,
  op 50 (.move (.tmp 11)) 1 (some (99, false)),
  op 51 (.move (.tmp 7)) 1 (some (99, false)),
  op 52 (.binOp .neq 0 (.global 50) (.global 51) 0) 1 (some (99, false)),
  op 53 (.pick (.global 49) (.const (B true)) (.global 52))])
(.cond (.tmp 53)
  (.seq (reg [op 4 (.move (.const (B false)))])
  .ret)
  .skip))
(.seq (.seq (reg [op 54 (.lookup 4 (.tmp 8) (.tmp 8) false) 1,
  op 55 (.lookup 4 (.tmp 2) (.tmp 2) false) 1,
  op 56 (call (.func 303) #[(.global 55)]) 1,
  op 57 (call (.func 265) #[(.global 54), (.global 56)]) 1,
  op 58 (.unOp .not 0 (.global 57))])
(.cond (.tmp 58)
  (.seq (reg [op 4 (.move (.const (B false)))])
  .ret)
  .skip))
(.seq (.seq (reg [op 59 (.lookup 4 (.tmp 9) (.tmp 9) false) 1,
  op 60 (.lookup 4 (.tmp 3) (.tmp 3) false) 1,
  op 61 (call (.func 303) #[(.global 60)]) 1,
  op 62 (call (.func 265) #[(.global 59), (.global 61)]) 1,
  op 63 (.unOp .not 0 (.global 62))])
(.cond (.tmp 63)
  (.seq (reg [op 4 (.move (.const (B false)))])
  .ret)
  .skip))
(.seq (reg [op 12 (.move (.const (I 1)))])
(.seq (reg [op 64 (.lookup 4 (.tmp 8) (.tmp 8) false) 1,
  op 65 (.move (.tmp 12)) 1,
  op 66 (call (.func 286) #[(.global 64), (.global 65)]) 1,
  op 12 (.move (.global 66))])
(.seq (reg [op 67 (.lookup 4 (.tmp 9) (.tmp 9) false) 1,
  op 68 (.move (.tmp 12)) 1,
  op 69 (call (.func 286) #[(.global 67), (.global 68)]) 1,
  op 12 (.move (.global 69))])
(.seq (.seq (reg [op 70 (.move (.tmp 12)) 1,
  op 71 (.binOp .lss 0 (.global 70) (.const (I 0)) 0) 1,
  op 72 (.move (.global 71)) 1,
  op 73 (.move (.tmp 10)) 1 (some (145, false)),
  op 74 (.move (.tmp 6)) 1 (some (145, false)),
  op 75 (call (.func 267) #[(.global 73), (.global 74)]) 1 (some (145, false)),
  op 76 (.unOp .not 0 (.global 75)) 1 (some (145, false)),
  op 77 (.pick (.global 72) (.const (B true)) (.global 76)) 1,
  op 78 (.move (.global 77)) 1,
  op 79 (.move (.tmp 11)) 1 (some (157, false)),
  op 80 (.move (.tmp 7)) 1 (some (157, false)),
  op 81 (.binOp .neq 0 (.global 79) (.global 80) 0) 1 (some (157, false)),
  op 82 (.pick (.global 78) (.const (B true)) (.global 81))])
(.cond (.tmp 82)
  (.seq (reg [op 4 (.move (.const (B false)))])
  .ret)
  .skip))
(.seq (reg [op 13 (.move (.const (I 1)))])
(.seq (reg [op 83 (.move (.tmp 10)) 1,
  op 84 (.move (.tmp 13)) 1,
  op 85 (call (.func 287) #[(.global 83), (.global 84)]) 1,
  op 13 (.move (.global 85))])
(.seq (reg [op 14 (.move (.const (I 1)))])
(.seq (reg [op 86 (.move (.tmp 10)) 1,
  op 87 (.move (.tmp 14)) 1,
  op 88 (call (.func 280) #[(.global 86), (.global 87)]) 1,
  op 14 (.move (.global 88))])
(.seq (.seq (reg [op 89 (.move (.tmp 14)) 1,
  op 90 (.binOp .lss 0 (.global 89) (.const (I 0)) 0)])
(.cond (.tmp 90)
  (.seq (reg [op 4 (.move (.const (B false)))])
  .ret)
  .skip))
(.seq (.seq (reg [op 91 (.move (.tmp 14)) 1,
  op 92 (.move (.tmp 13)) 1,
  op 93 (.binOp .neq 0 (.global 91) (.global 92) 0)])
(.cond (.tmp 93)
  (.seq (reg [op 4 (.move (.const (B false)))])
  .ret)
  .skip))
(.seq (reg [op 95 (.lookup 4 (.tmp 2) (.tmp 2) false) 1,
  op 96 (call (.func 303) #[(.global 95)]) 1,
  op 97 (.lookup 4 (.tmp 3) (.tmp 3) false) 1,
  op 98 (call (.func 303) #[(.global 97)]) 1,
  op 99 (call (.func 79) #[(.global 96), (.global 98)]) 1,
  op 94 (.move (.global 99)) 1,
  op 100 (.extract (.global 94) 0) 1,
  op 101 (.extract (.global 94) 1) 1,
  op 15 (.move (.global 100)),
  op 16 (.move (.global 101))])
(.seq (.seq (reg [op 102 (.move (.tmp 15)) 1,
  op 103 (.move (.tmp 6)) 1,
  op 104 (call (.func 267) #[(.global 102), (.global 103)]) 1,
  op 105 (.unOp .not 0 (.global 104)) 1,
  op 106 (.move (.global 105)) 1,
  op 107 (.move (.tmp 16)) 1 (some (213, false)),
  op 108 (.move (.tmp 7)) 1 (some (213, false)),
  op 109 (.binOp .neq 0 (.global 107) (.global 108) 0) 1 (some (213, false)),
  op 110 (.pick (.global 106) (.const (B true)) (.global 109))])
(.cond (.tmp 110)
  (.seq (reg [op 4 (.move (.const (B false)))])
  .ret)
  .skip))
(.seq (reg [op 14 (.move (.const (I 1)))])
(.seq (reg [op 111 (.move (.tmp 10)) 1,
  op 112 (.move (.tmp 14)) 1,
  op 113 (call (.func 280) #[(.global 111), (.global 112)]) 1,
  op 14 (.move (.global 113))])
(.seq (.seq (reg [op 114 (.move (.tmp 14)) 1,
  op 115 (.binOp .lss 0 (.global 114) (.const (I 0)) 0)])
(.cond (.tmp 115)
  (.seq (reg [op 4 (.move (.const (B false)))])
  .ret)
  .skip))
(.seq (.seq (reg [op 116 (.move (.tmp 14)) 1,
  op 117 (.move (.tmp 13)) 1,
  op 118 (.binOp .neq 0 (.global 116) (.global 117) 0)])
(.cond (.tmp 118)
  (.seq (reg [op 4 (.move (.const (B false)))])
  .ret)
  .skip))
(.seq (reg [op 4 (.move (.const (B true)))])
.ret)))))))))))))))))))))))))))))), [(4, 0)]⟩

/-- laws.FnExactMergePanels -/
def fn225 : AFun := ⟨3,
(.seq (reg [op 3 (.makeChan 3 (.tmp 0)),
  op 4 (.makeChan 3 (.tmp 1)),
  op 5 (.makeChan 3 (.tmp 2)),
  op 6 (.move (.const (B false)))])
(.seq (reg [op 7 (.move (.const (I 1048576)))])
(.seq (reg [op 20 (.lookup 4 (.tmp 3) (.tmp 3) false) 1,
  op 21 (.move (.tmp 7)) 1,
  op 22 (call (.func 295) #[(.global 20), (.global 21)]) 1,
  op 7 (.move (.global 22))])
(.seq (.seq (reg [op 23 (.move (.tmp 7)) 1,
  op 24 (.binOp .lss 0 (.global 23) (.const (I 0)) 0)])
(.cond (.tmp 24)
  (.seq (reg [op 6 (.move (.const (B true)))])
  .ret)
  .skip))
(.seq (reg [op 25 (.lookup 4 (.tmp 4) (.tmp 4) false) 1,
  op 26 (.move (.tmp 7)) 1,
  op 27 (call (.func 295) #[(.global 25), (.global 26)]) 1,
  op 7 (.move (.global 27))])
(.seq (.seq (reg [op 28 (.move (.tmp 7)) 1,
  op 29 (.binOp .lss 0 (.global 28) (.const (I 0)) 0)])
(.cond (.tmp 29)
  (.seq (reg [op 6 (.move (.const (B true)))])
  .ret)
  .skip))
(.seq (reg [op 30 (.lookup 4 (.tmp 5) (.tmp 5) false) 1,
  op 31 (.move (.tmp 7)) 1,
  op 32 (call (.func 295) #[(.global 30), (.global 31)]) 1,
  op 7 (.move (.global 32))])
(.seq (.seq (reg [op 33 (.move (.tmp 7)) 1,
  op 34 (.binOp .lss 0 (.global 33) (.const (I 0)) 0)])
(.cond (.tmp 34)
  (.seq (reg [op 6 (.move (.const (B true)))])
  .ret)
  .skip))
(.seq (reg [op 36 (.lookup 4 (.tmp 3) (.tmp 3) false) 1,
  op 37 (call (.func 303) #[(.global 36)]) 1,
  op 38 (.lookup 4 (.tmp 4) (.tmp 4) false) 1,
  op 39 (call (.func 303) #[(.global 38)]) 1,
  op 40 (.lookup 4 (.tmp 5) (.tmp 5) false) 1,
  op 41 (call (.func 303) #[(.global 40)]) 1,
  op 42 (call (.func 391) #[(.global 37), (.global 39), (.global 41)]) 1,
  op 35 (.move (.global 42)) 1,
  op 43 (.extract (.global 35) 0) 1,
  op 44 (.extract (.global 35) 1) 1,
  op 8 (.move (.const (.agg #[(I 0), (I 0), (sl 0 0 0 0)]))),
  op 8 (.insert 3 (.tmp 8) (.tmp 8) (.global 43)),
  op 9 (.move (.global 44))])
(.seq (reg [op 45 (.lookup 4 (.tmp 3) (.tmp 3) false) 1,
  op 46 (call (.func 303) #[(.global 45)]) 1,
  op 10 (.move (.const (.agg #[(I 0), (I 0), (sl 0 0 0 0)]))),
  op 10 (.insert 3 (.tmp 10) (.tmp 10) (.global 46))])
(.seq (reg [op 47 (.lookup 4 (.tmp 4) (.tmp 4) false) 1,
  op 48 (call (.func 303) #[(.global 47)]) 1,
  op 11 (.move (.const (.agg #[(I 0), (I 0), (sl 0 0 0 0)]))),
  op 11 (.insert 3 (.tmp 11) (.tmp 11) (.global 48))])
(.seq (reg [op 49 (.lookup 4 (.tmp 5) (.tmp 5) false) 1,
  op 50 (call (.func 303) #[(.global 49)]) 1,
  op 12 (.move (.const (.agg #[(I 0), (I 0), (sl 0 0 0 0)]))),
  op 12 (.insert 3 (.tmp 12) (.tmp 12) (.global 50))])
(.seq (reg [op 52 (.lookup 4 (.tmp 10) (.tmp 10) false) 1,
  op 53 (.lookup 4 (.tmp 11) (.tmp 11) false) 1,
  op 54 (.lookup 4 (.tmp 12) (.tmp 12) false) 1,
  op 55 (call (.func 98) #[(.global 52), (.global 53), (.global 54)]) 1,
  op 51 (.move (.global 55)) 1,
  op 56 (.extract (.global 51) 0) 1,
  op 57 (.extract (.global 51) 1) 1,
  op 13 (.move (.const (.agg #[(I 0), (I 0), (sl 0 0 0 0)]))),
  op 13 (.insert 3 (.tmp 13) (.tmp 13) (.global 56)),
  op 14 (.move (.global 57))])
(.seq (.seq (reg [op 58 (.lookup 4 (.tmp 13) (.tmp 13) false) 1,
  op 59 (.lookup 4 (.tmp 8) (.tmp 8) false) 1,
  op 60 (call (.func 265) #[(.global 58), (.global 59)]) 1,
  op 61 (.unOp .not 0 (.global 60)) 1,
  op 62 (.move (.global 61)) 1,
  op 63 (.move (.tmp 14)) 1 (some (125, false)),
  op 64 (.move (.tmp 9)) 1 (some (125, false)),
  op 65 (.binOp .neq 0 (.global 63) (.global 64) 0) 1 (some (125, false)),
  op 66 (.pick (.global 62) (.const (B true)) (.global 65))])
(.cond (.tmp 66)
  (.seq (reg [op 6 (.move (.const (B false)))])
  .ret)
  .skip))
(.seq (.seq (reg [op 67 (.lookup 4 (.tmp 10) (.tmp 10) false) 1,
  op 68 (.lookup 4 (.tmp 3) (.tmp 3) false) 1,
  op 69 (call (.func 303) #[(.global 68)]) 1,
  op 70 (call (.func 265) #[(.global 67), (.global 69)]) 1,
  op 71 (.unOp .not 0 (.global 70))])
(.cond (.tmp 71)
  (.seq (reg [op 6 (.move (.const (B false)))])
  .ret)
  .skip))
(.seq (.seq (reg [op 72 (.lookup 4 (.tmp 11) (.tmp 11) false) 1,
  op 73 (.lookup 4 (.tmp 4) (.tmp 4) false) 1,
  op 74 (call (.func 303) #[(.global 73)]) 1,
  op 75 (call (.func 265) #[(.global 72), (.global 74)]) 1,
  op 76 (.unOp .not 0 (.global 75))])
(.cond (.tmp 76)
  (.seq (reg [op 6 (.move (.const (B false)))])
  .ret)
  .skip))
(.seq (.seq (reg [op 77 (.lookup 4 (.tmp 12) (.tmp 12) false) 1,
  op 78 (.lookup 4 (.tmp 5) (.tmp 5) false) 1,
  op 79 (call (.func 303) #[(.global 78)]) 1,
  op 80 (call (.func 265) #[(.global 77), (.global 79)]) 1,
  op 81 (.unOp .not 0 (.global 80))])
(.cond (.tmp 81)
  (.seq (reg [op 6 (.move (.const (B false)))])
  .ret)
  .skip))
(.seq (reg [op 15 (.move (.const (I 1)))])
(.seq (reg [op 82 (.lookup 4 (.tmp 10) (.tmp 10) false) 1,
  op 83 (.move (.tmp 15)) 1,
  op 84 (call (.func 286) #[(.global 82), (.global 83)]) 1,
  op 15 (.move (.global 84))])
(.seq (reg [op 85 (.lookup 4 (.tmp 11) (.tmp 11) false) 1,
  op 86 (.move (.tmp 15)) 1,
  op 87 (call (.func 286) #[(.global 85), (.global 86)]) 1,
  op 15 (.move (.global 87))])
(.seq (reg [op 88 (.lookup 4 (.tmp 12) (.tmp 12) false) 1,
  op 89 (.move (.tmp 15)) 1,
  op 90 (call (.func 286) #[(.global 88), (.global 89)]) 1,
  op 15 (.move (.global 90))])
(.seq (.seq (reg [op 91 (.move (.tmp 15)) 1,
  op 92 (.binOp .lss 0 (.global 91) (.const (I 0)) 0) 1,
  op 93 (.move (.global 92)) 1,
  op 94 (.lookup 4 (.tmp 13) (.tmp 13) false) 1 (some (187, false)),
  op 95 (.lookup 4 (.tmp 8) (.tmp 8) false) 1 (some (187, false)),
  op 96 (call (.func 265) #[(.global 94), (.global 95)]) 1 (some (187, false)),
  op 97 (.unOp .not 0 (.global 96)) 1 (some (187, false)),
  op 98 (.pick (.global 93) (.const (B true)) (.global 97)) 1,
  op 99 (.move (.global 98)) 1,
  op 100 (.move (.tmp 14)) 1 (some (199, false)),
  op 101 (.move (.tmp 9)) 1 (some (199, false)),
  op 102 (.binOp .neq 0 (.global 100) (.global 101) 0) 1 (some (199, false)),
  op 103 (.pick (.global 99) (.const (B true)) (.global 102))])
(.cond (.tmp 103)
  (.seq (reg [op 6 (.move (.const (B false)))])
  .ret)
  .skip))
(.seq (reg [op 16 (.move (.const (I 1)))])
(.seq (reg [op 104 (.lookup 4 (.tmp 13) (.tmp 13) false) 1,
  op 105 (.move (.tmp 16)) 1,
  op 106 (call (.func 286) #[(.global 104), (.global 105)]) 1,
  op 16 (.move (.global 106))])
(.seq (reg [op 17 (.move (.const (I 1)))])
(.seq (reg [op 107 (.lookup 4 (.tmp 13) (.tmp 13) false) 1,
  op 108 (.move (.tmp 17)) 1,
  op 109 (call (.func 279) #[(.global 107), (.global 108)]) 1,
  op 17 (.move (.global 109))])
(.seq (.seq (reg [op 110 (.move (.tmp 17)) 1,
  op 111 (.binOp .lss 0 (.global 110) (.const (I 0)) 0)])
(.cond (.tmp 111)
  (.seq (reg [op 6 (.move (.const (B false)))])
  .ret)
  .skip))
(.seq (.seq (reg [op 112 (.move (.tmp 17)) 1,
  op 113 (.move (.tmp 16)) 1,
  op 114 (.binOp .neq 0 (.global 112) (.global 113) 0)])
(.cond (.tmp 114)
  (.seq (reg [op 6 (.move (.const (B false)))])
  .ret)
  .skip))
(.seq (reg [op 116 (.lookup 4 (.tmp 3) (.tmp 3) false) 1,
  op 117 (call (.func 303) #[(.global 116)]) 1,
  op 118 (.lookup 4 (.tmp 4) (.tmp 4) false) 1,
  op 119 (call (.func 303) #[(.global 118)]) 1,
  op 120 (.lookup 4 (.tmp 5) (.tmp 5) false) 1,
  op 121 (call (.func 303) #[(.global 120)]) 1,
  op 122 (call (.func 98) #[(.global 117), (.global 119), (.global 121)]) 1,
  op 115 (.move (.global 122)) 1,
  op 123 (.extract (.global 115) 0) 1,
  op 124 (.extract (.global 115) 1) 1,
  op 18 (.move (.const (.agg #[(I 0), (I 0), (sl 0 0 0 0)]))),
  op 18 (.insert 3 (.tmp 18) (.tmp 18) (.global 123)),
  op 19 (.move (.global 124))])
(.seq (.seq (reg [op 125 (.lookup 4 (.tmp 18) (.tmp 18) false) 1,
  op 126 (.lookup 4 (.tmp 8) (.tmp 8) false) 1,
  op 127 (call (.func 265) #[(.global 125), (.global 126)]) 1,
  op 128 (.unOp .not 0 (.global 127)) 1,
  op 129 (.move (.global 128)) 1,
  op 130 (.move (.tmp 19)) 1 (some (259, false)),
  op 131 (.move (.tmp 9)) 1 (some (259, false)),
  op 132 (.binOp .neq 0 (.global 130) (.global 131) 0) 1 (some (259, false)),
  op 133 (.pick (.global 129) (.const (B true)) (.global 132))])
(.cond (.tmp 133)
  (.seq (reg [op 6 (.move (.const (B false)))])
  .ret)
  .skip))
(.seq (reg [op 17 (.move (.const (I 1)))])
(.seq (reg [op 134 (.lookup 4 (.tmp 13) (.tmp 13) false) 1,
  op 135 (.move (.tmp 17)) 1,
  op 136 (call (.func 279) #[(.global 134), (.global 135)]) 1,
  op 17 (.move (.global 136))])
(.seq (.seq (reg [op 137 (.move (.tmp 17)) 1,
  op 138 (.binOp .lss 0 (.global 137) (.const (I 0)) 0)])
(.cond (.tmp 138)
  (.seq (reg [op 6 (.move (.const (B false)))])
  .ret)
  .skip))
(.seq (.seq (reg [op 139 (.move (.tmp 17)) 1,
  op 140 (.move (.tmp 16)) 1,
  op 141 (.binOp .neq 0 (.global 139) (.global 140) 0)])
(.cond (.tmp 141)
  (.seq (reg [op 6 (.move (.const (B false)))])
  .ret)
  .skip))
(.seq (reg [op 6 (.move (.const (B true)))])
.ret))))))))))))))))))))))))))))))))))), [(6, 0)]⟩

/-- laws.FnExactJoinBeside -/
def fn220 : AFun := ⟨2,
(.seq (reg [op 2 (.makeChan 3 (.tmp 0)),
  op 3 (.makeChan 3 (.tmp 1)),
  op 4 (.move (.const (B false)))])
(.seq (reg [op 5 (.move (.const (I 1048576)))])
(.seq (reg [op 17 (.lookup 4 (.tmp 2) (.tmp 2) false) 1,
  op 18 (.move (.tmp 5)) 1,
  op 19 (call (.func 295) #[(.global 17), (.global 18)]) 1,
  op 5 (.move (.global 19))])
(.seq (.seq (reg [op 20 (.move (.tmp 5)) 1,
  op 21 (.binOp .lss 0 (.global 20) (.const (I 0)) 0)])
(.cond (.tmp 21)
  (.seq (reg [op 4 (.move (.const (B true)))])
  .ret)
  .skip))
(.seq (reg [op 22 (.lookup 4 (.tmp 3) (.tmp 3) false) 1,
  op 23 (.move (.tmp 5)) 1,
  op 24 (call (.func 295) #[(.global 22), (.global 23)]) 1,
  op 5 (.move (.global 24))])
(.seq (.seq (reg [op 25 (.move (.tmp 5)) 1,
  op 26 (.binOp .lss 0 (.global 25) (.const (I 0)) 0)])
(.cond (.tmp 26)
  (.seq (reg [op 4 (.move (.const (B true)))])
  .ret)
  .skip))
(.seq (reg [op 28 (.lookup 4 (.tmp 2) (.tmp 2) false) 1,
  op 29 (call (.func 303) #[(.global 28)]) 1,
  op 30 (.lookup 4 (.tmp 3) (.tmp 3) false) 1,
  op 31 (call (.func 303) #[(.global 30)]) 1,
  op 32 (call (.func 384) #[(.global 29), (.global 31)]) 1,
  op 27 (.move (.global 32)) 1,
  op 33 (.extract (.global 27) 0) 1,
  op 34 (.extract (.global 27) 1) 1,
  op 6 (.move (.const (.agg #[(I 0), (I 0), (sl 0 0 0 0)]))),
  op 6 (.insert 3 (.tmp 6) (.tmp 6) (.global 33)),
  op 7 (.move (.global 34))])
(.seq (reg [op 35 (.lookup 4 (.tmp 2) (.tmp 2) false) 1,
  op 36 (call (.func 303) #[(.global 35)]) 1,
  op 8 (.move (.const (.agg #[(I 0), (I 0), (sl 0 0 0 0)]))),
  op 8 (.insert 3 (.tmp 8) (.tmp 8) (.global 36))])
(.seq (reg [op 37 (.lookup 4 (.tmp 3) (.tmp 3) false) 1,
  op 38 (call (.func 303) #[(.global 37)]) 1,
  op 9 (.move (.const (.agg #[(I 0), (I 0), (sl 0 0 0 0)]))),
  op 9 (.insert 3 (.tmp 9) (.tmp 9) (.global 38))])
(.seq (reg [op 40 (.lookup 4 (.tmp 8) (.tmp 8) false) 1,
  op 41 (.lookup 4 (.tmp 9) (.tmp 9) false) 1,
  op 42 (call (.func 92) #[(.global 40), (.global 41)]) 1,
  op 39 (.move (.global 42)) 1,
  op 43 (.extract (.global 39) 0) 1,
  op 44 (.extract (.global 39) 1) 1,
  op 10 (.move (.const (.agg #[(I 0), (I 0), (sl 0 0 0 0)]))),
  op 10 (.insert 3 (.tmp 10) (.tmp 10) (.global 43)),
  op 11 (.move (.global 44))])
(.seq (.seq (reg [op 45 (.lookup 4 (.tmp 10) (.tmp 10) false) 1,
  op 46 (.lookup 4 (.tmp 6) (.tmp 6) false) 1,
  op 47 (call (.func 265) #[(.global 45), (.global 46)]) 1,
  op 48 (.unOp .not 0 (.global 47)) 1,
  op 49 (.move (.global 48)) 1,
  op 50 (.move (.tmp 11)) 1 (some (99, false)),
  op 51 (.move (.tmp 7)) 1 (some (99, false)),
  op 52 (.binOp .neq 0 (.global 50) (.global 51) 0) 1 (some (99, false)),
  op 53 (.pick (.global 49) (.const (B true)) (.global 52))])
(.cond (.tmp 53)
  (.seq (reg [op 4 (.move (.const (B false)))])
  .ret)
  .skip))
(.seq (.seq (reg [op 54 (.lookup 4 (.tmp 8) (.tmp 8) false) 1,
  op 55 (.lookup 4 (.tmp 2) (.tmp 2) false) 1,
  op 56 (call (.func 303) #[(.global 55)]) 1,
  op 57 (call (.func 265) #[(.global 54), (.global 56)]) 1,
  op 58 (.unOp .not 0 (.global 57))])
(.cond (.tmp 58)
  (.seq (reg [op 4 (.move (.const (B false)))])
  .ret)
  .skip))
(.seq (.seq (reg [op 59 (.lookup 4 (.tmp 9) (.tmp 9) false) 1,
  op 60 (.lookup 4 (.tmp 3) (.tmp 3) false) 1,
  op 61 (call (.func 303) #[(.global 60)]) 1,
  op 62 (call (.func 265) #[(.global 59), (.global 61)]) 1,
  op 63 (.unOp .not 0 (.global 62))])
(.cond (.tmp 63)
  (.seq (reg [op 4 (.move (.const (B false)))])
  .ret)
  .skip))
(.seq (reg [op 12 (.move (.const (I 1)))])
(.seq (reg [op 64 (.lookup 4 (.tmp 8) (.tmp 8) false) 1,
  op 65 (.move (.tmp 12)) 1,
  op 66 (call (.func 286) #[(.global 64), (.global 65)]) 1,
  op 12 (.move (.global 66))])
(.seq (reg [op 67 (.lookup 4 (.tmp 9) (.tmp 9) false) 1,
  op 68 (.move (.tmp 12)) 1,
  op 69 (call (.func 286) #[(.global 67), (.global 68)]) 1,
  op 12 (.move (.global 69))])
(.seq (.seq (reg [op 70 (.move (.tmp 12)) 1,
  op 71 (.binOp .lss 0 (.global 70) (.const (I 0)) 0) 1,
  op 72 (.move (.global 71)) 1,
  op 73 (.lookup 4 (.tmp 10) (.tmp 10) false) 1 (some (145, false)),
  op 74 (.lookup 4 (.tmp 6) (.tmp 6) false) 1 (some (145, false)),
  op 75 (call (.func 265) #[(.global 73), (.global 74)]) 1 (some (145, false)),
  op 76 (.unOp .not 0 (.global 75)) 1 (some (145, false)),
  op 77 (.pick (.global 72) (.const (B true)) (.global 76)) 1,
  op 78 (.move (.global 77)) 1,
  op 79 (.move (.tmp 11)) 1 (some (157, false)),
  op 80 (.move (.tmp 7)) 1 (some (157, false)),
  op 81 (.binOp .neq 0 (.global 79) (.global 80) 0) 1 (some (157, false)),
  op 82 (.pick (.global 78) (.const (B true)) (.global 81))])
(.cond (.tmp 82)
  (.seq (reg [op 4 (.move (.const (B false)))])
  .ret)
  .skip))
(.seq (reg [op 13 (.move (.const (I 1)))])
(.seq (reg [op 83 (.lookup 4 (.tmp 10) (.tmp 10) false) 1,
  op 84 (.move (.tmp 13)) 1,
  op 85 (call (.func 286) #[(.global 83), (.global 84)]) 1,
  op 13 (.move (.global 85))])
(.seq (reg [op 14 (.move (.const (I 1)))])
(.seq (reg [op 86 (.lookup 4 (.tmp 10) (.tmp 10) false) 1,
  op 87 (.move (.tmp 14)) 1,
  op 88 (call (.func 279) #[(.global 86), (.global 87)]) 1,
  op 14 (.move (.global 88))])
(.seq (.seq (reg [op 89 (.move (.tmp 14)) 1,
  op 90 (.binOp .lss 0 (.global 89) (.const (I 0)) 0)])
(.cond (.tmp 90)
  (.seq (reg [op 4 (.move (.const (B false)))])
  .ret)
  .skip))
(.seq (.seq (reg [op 91 (.move (.tmp 14)) 1,
  op 92 (.move (.tmp 13)) 1,
  op 93 (.binOp .neq 0 (.global 91) (.global 92) 0)])
(.cond (.tmp 93)
  (.seq (reg [op 4 (.move (.const (B false)))])
  .ret)
  .skip))
(.seq (reg [op 95 (.lookup 4 (.tmp 2) (.tmp 2) false) 1,
  op 96 (call (.func 303) #[(.global 95)]) 1,
  op 97 (.lookup 4 (.tmp 3) (.tmp 3) false) 1,
  op 98 (call (.func 303) #[(.global 97)]) 1,
  op 99 (call (.func 92) #[(.global 96), (.global 98)]) 1,
  op 94 (.move (.global 99)) 1,
  op 100 (.extract (.global 94) 0) 1,
  op 101 (.extract (.global 94) 1) 1,
  op 15 (.move (.const (.agg #[(I 0), (I 0), (sl 0 0 0 0)]))),
  op 15 (.insert 3 (.tmp 15) (.tmp 15) (.global 100)),
  op 16 (.move (.global 101))])
(.seq (.seq (reg [op 102 (.lookup 4 (.tmp 15) (.tmp 15) false) 1,
  op 103 (.lookup 4 (.tmp 6) (.tmp 6) false) 1,
  op 104 (call (.func 265) #[(.global 102), (.global 103)]) 1,
  op 105 (.unOp .not 0 (.global 104)) 1,
  op 106 (.move (.global 105)) 1,
  op 107 (.move (.tmp 16)) 1 (some (213, false)),
  op 108 (.move (.tmp 7)) 1 (some (213, false)),
  op 109 (.binOp .neq 0 (.global 107) (.global 108) 0) 1 (some (213, false)),
  op 110 (.pick (.global 106) (.const (B true)) (.global 109))])
(.cond (.tmp 110)
  (.seq (reg [op 4 (.move (.const (B false)))])
  .ret)
  .skip))
(.seq (reg [op 14 (.move (.const (I 1)))])
(.seq (reg [op 111 (.lookup 4 (.tmp 10) (.tmp 10) false) 1,
  op 112 (.move (.tmp 14)) 1,
  op 113 (call (.func 279) #[(.global 111), (.global 112)]) 1,
  op 14 (.move (.global 113))])
(.seq (.seq (reg [op 114 (.move (.tmp 14)) 1,
  op 115 (.binOp .lss 0 (.global 114) (.const (I 0)) 0)])
(.cond (.tmp 115)
  (.seq (reg [op 4 (.move (.const (B false)))])
  .ret)
  .skip))
(.seq (.seq (reg [op 116 (.move (.tmp 14)) 1,
  op 117 (.move (.tmp 13)) 1,
  op 118 (.binOp .neq 0 (.global 116) (.global 117) 0)])
(.cond (.tmp 118)
  (.seq (reg [op 4 (.move (.const (B false)))])
  .ret)
  .skip))
(.seq (reg [op 4 (.move (.const (B true)))])
.ret)))))))))))))))))))))))))))))), [(4, 0)]⟩

/-- spec.ImageFault -/
def fn381 : AFun := ⟨1,
(.seq (reg [op 2 (.move (.const (I 0)))])
(.seq (reg [op 6 (.move (.tmp 0)) 1,
  op 7 (call (.func 574) #[(.global 6)]) 1,
  op 5 (.move (.global 7)) 1,
  op 8 (.extract (.global 5) 0) 1,
  op 9 (.extract (.global 5) 1) 1,
  op 3 (.move (.const (.agg #[(I 0), (I 0), (sl 0 0 0 0)]))),
  op 3 (.insert 3 (.tmp 3) (.tmp 3) (.global 8)),
  op 4 (.move (.global 9))])
(.seq (reg [op 10 (.move (.tmp 4)) 1,
  op 2 (.move (.global 10))])
.ret))), [(2, 0)]⟩

/-- impl.ImageFault -/
def fn88 : AFun := ⟨1,
(.seq (reg [op 2 (.move (.const (I 0)))])
(.seq (.seq (reg [op 5 (.move (.tmp 0)) 1,
  op 6 (bi .len #[(.global 5)] 0) 1,
  op 7 (.binOp .lss 0 (.global 6) (.const (I 5)) 0) 1,
  op 8 (.move (.global 7)) 1,
  op 9 (.move (.tmp 0)) 1 (some (17, false)),
  op 10 (.index 0 (.global 9) (.const (I 0))) 1 (some (17, false)),
  op 11 (.binOp .neq 0 (.global 10) (.const (U 77)) 0) 1 (some (17, false)),
  op 12 (.pick (.global 8) (.const (B true)) (.global 11)) 1,
  op 13 (.move (.global 12)) 1,
  op 14 (.move (.tmp 0)) 1 (some (27, false)),
  op 15 (.index 0 (.global 14) (.const (I 1))) 1 (some (27, false)),
  op 16 (.convert 0 3 (.global 15)) 1 (some (27, false)),
  op 17 (.move (.tmp 0)) 1 (some (27, false)),
  op 18 (.index 0 (.global 17) (.const (I 2))) 1 (some (27, false)),
  op 19 (.convert 0 3 (.global 18)) 1 (some (27, false)),
  op 20 (call (.func 198) #[(.global 16), (.global 19)]) 1 (some (27, false)),
  op 21 (.unOp .not 0 (.global 20)) 1 (some (27, false)),
  op 22 (.pick (.global 13) (.const (B true)) (.global 21))])
(.cond (.tmp 22)
  (.seq (reg [op 2 (.move (.const (I 1)))])
  .ret)
  .skip))
(.seq (.seq (reg [op 23 (.move (.tmp 0)) 1,
  op 24 (bi .len #[(.global 23)] 0) 1,
  op 25 (.move (.tmp 0)) 1,
  op 26 (.index 0 (.global 25) (.const (I 1))) 1,
  op 27 (.convert 0 3 (.global 26)) 1,
  op 28 (.move (.tmp 0)) 1,
  op 29 (.index 0 (.global 28) (.const (I 2))) 1,
  op 30 (.convert 0 3 (.global 29)) 1,
  op 31 (call (.func 181) #[(.global 27), (.global 30)]) 1,
  op 32 (.binOp .neq 0 (.global 24) (.global 31) 0)])
(.cond (.tmp 32)
  (.seq (reg [op 2 (.move (.const (I 2)))])
  .ret)
  .skip))
(.seq (.seq (reg [op 33 (.move (.tmp 0)) 1,
  op 34 (.move (.tmp 0)) 1,
  op 35 (bi .len #[(.global 34)] 0) 1,
  op 36 (.binOp .sub 0 (.global 35) (.const (I 2)) 0) 1,
  op 37 (.slice 0 (.global 33) none (some (.global 36)) none) 1,
  op 38 (call (.func 191) #[(.global 37)]) 1,
  op 39 (.move (.tmp 0)) 1,
  op 40 (.binOp .neq 0 (.global 38) (.global 39) 0)])
(.cond (.tmp 40)
  (.seq (reg [op 2 (.move (.const (I 3)))])
  .ret)
  .skip))
(.seq (.seq (reg [op 42 (.move (.tmp 0)) 1,
  op 43 (call (.func 195) #[(.global 42)]) 1,
  op 41 (.move (.global 43)) 1,
  op 44 (.extract (.global 41) 0) 1,
  op 45 (.extract (.global 41) 1) 1,
  op 3 (.move (.const (.agg #[(I 0), (I 0), (sl 0 0 0 0)]))),
  op 3 (.insert 3 (.tmp 3) (.tmp 3) (.global 44)),
  op 4 (.move (.global 45))])
(.seq (reg [op 46 (.move (.tmp 4)) 1,
  op 47 (.unOp .not 0 (.global 46))])
(.cond (.tmp 47)
  (.seq (reg [op 2 (.move (.const (I 4)))])
  .ret)
  .skip)))
(.seq (reg [op 2 (.move (.const (I 0)))])
.ret)))))), [(2, 0)]⟩

/-- spec.NewDesk -/
def fn393 : AFun := ⟨0,
(.seq (reg [op 0 (.move (.const (.agg #[(I 0), (I 0), (sl 0 0 0 0), (sl 0 0 0 0), (sl 0 0 0 0)])))])
(.seq (reg [op 1 (call (.func 450) #[(.const (I 3)), (.const (I 2))]) 1,
  op 2 (.build 0 #[(0, (.const (.agg #[(I 0), (I 0), (sl 0 0 0 0), (sl 0 0 0 0), (sl 0 0 0 0)]))), (3, (.global 1))]) 1,
  op 0 (.insert 5 (.tmp 0) (.tmp 0) (.global 2))])
.ret)), [(0, 1000006)]⟩

/-- impl.NewDesk -/
def fn100 : AFun := ⟨0,
(.seq (reg [op 0 (.move (.const (.agg #[(I 0), (I 0), (sl 0 0 0 0), (sl 0 0 0 0), (sl 0 0 0 0)])))])
(.seq (reg [op 1 (call (.func 177) #[(.const (I 3)), (.const (I 2))]) 1,
  op 2 (.build 0 #[(0, (.const (.agg #[(I 0), (I 0), (sl 0 0 0 0), (sl 0 0 0 0), (sl 0 0 0 0)]))), (3, (.global 1))]) 1,
  op 0 (.insert 5 (.tmp 0) (.tmp 0) (.global 2))])
.ret)), [(0, 1000006)]⟩

/-- spec.DiffText -/
def fn347 : AFun := ⟨1,
(.seq (reg [op 2 (.move (.const (S [])))])
(.seq (.seq (reg [op 3 (.move (.tmp 0)) 1,
  op 4 (call (.func 550) #[(.global 3)]) 1,
  op 5 (.unOp .not 0 (.global 4))])
(.cond (.tmp 5)
  (.seq (reg [op 2 (.move (.const (S [])))])
  .ret)
  .skip))
(.seq (reg [op 6 (.move (.tmp 0)) 1,
  op 7 (call (.func 553) #[(.global 6)]) 1,
  op 2 (.move (.global 7))])
.ret))), [(2, 0)]⟩

/-- impl.DiffText -/
def fn80 : AFun := ⟨1,
(.seq (reg [op 2 (.move (.const (S [])))])
(.seq (.seq (reg [op 6 (.move (.tmp 0)) 1,
  op 7 (call (.func 197) #[(.global 6)]) 1,
  op 8 (.unOp .not 0 (.global 7))])
(.cond (.tmp 8)
  (.seq (reg [op 2 (.move (.const (S [])))])
  .ret)
  .skip))
(.seq (reg [op 9 (.move (.const (sl 0 0 0 1))) 1,
  op 3 (.move (.global 9))])
(.seq (.seq (reg [op 10 (.move (.tmp 0)),
  op 11 (bi .len #[(.tmp 10)] 1),
  op 12 (.move (.const (I 0)))])
(.block 0
  (.loop
    (.seq (reg [op 13 (.binOp .lss 0 (.tmp 12) (.tmp 11) 0)])
    (.seq (.cond (.tmp 13)
      .skip
      (.exit 0))
    (.seq (.block 1
      (.seq (reg [op 14 (.indexAddr 7 (.tmp 10) (.tmp 12)) 1,
        op 15 (.load 4 (.global 14)) 1,
        op 5 (.move (.const (.agg #[(I 0), (I 0), (I 0)]))),
        op 5 (.insert 3 (.tmp 5) (.tmp 5) (.global 15))])
      (reg [op 16 (.move (.tmp 3)) 1,
        op 17 (.fieldAddr 0 (.tmp 5) 1) 1,
        op 18 (.lookup 0 (.tmp 5) (.global 17) false) 1,
        op 19 (call (.func 75) #[(.global 18)]) 1,
        op 20 (.fieldAddr 1 (.tmp 5) 1) 1,
        op 21 (.lookup 0 (.tmp 5) (.global 20) false) 1,
        op 22 (.fieldAddr 1 (.tmp 5) 1) 1,
        op 23 (.lookup 0 (.tmp 5) (.global 22) false) 1,
        op 24 (.binOp .add 0 (.global 23) (.const (I 1)) 0) 1,
        op 25 (.slice 0 (.const (S [43, 124, 45])) (some (.global 21)) (some (.global 24)) none) 1,
        op 26 (.binOp .add 0 (.global 19) (.global 25) 0) 1,
        op 27 (.fieldAddr 2 (.tmp 5) 1) 1,
        op 28 (.lookup 0 (.tmp 5) (.global 27) false) 1,
        op 29 (.fieldAddr 2 (.tmp 5) 1) 1,
        op 30 (.lookup 0 (.tmp 5) (.global 29) false) 1,
        op 31 (.binOp .add 0 (.global 30) (.const (I 1)) 0) 1,
        op 32 (.slice 0 (.const (S [43, 124, 45])) (some (.global 28)) (some (.global 31)) none) 1,
        op 33 (.binOp .add 0 (.global 26) (.global 32) 0) 1,
        op 34 (.buildSlice 1 1 #[(0, (.const (.agg #[(S [])]))), (1, (.global 33))]) 1,
        op 35 (bi .append #[(.global 16), (.global 34)] 1) 1,
        op 3 (.move (.global 35))])))
    (reg [op 36 (.binOp .add 0 (.tmp 12) (.const (I 1)) 0) 1,
      op 12 (.move (.global 36))])))))))
(.seq (reg [op 37 (.move (.tmp 3)) 1,
  op 38 (call (.func 167) #[(.global 37), (.const (S [32]))]) 1,
  op 2 (.move (.global 38))])
.ret))))), [(2, 0)]⟩

/-- spec.PackPanel -/
def fn398 : AFun := ⟨1,
(.seq (reg [op 1 (.box 3 (.tmp 0)),
  op 2 (.move (.const (S []))),
  op 3 (.move (.const (I 0)))])
(.seq (.seq (reg [op 4 (call (.func 452) #[(.tmp 1)]) 1,
  op 5 (.unOp .not 0 (.global 4))])
(.cond (.tmp 5)
  (.seq (reg [op 2 (.move (.const (S []))),
    op 3 (.move (.const (I 1)))])
  .ret)
  .skip))
(.seq (reg [op 6 (call (.func 571) #[(.tmp 1)]) 1,
  op 2 (.move (.global 6)),
  op 3 (.move (.const (I 0)))])
.ret))), [(2, 0), (3, 0)]⟩

/-- impl.PackPanel -/
def fn107 : AFun := ⟨1,
(.seq (reg [op 1 (.makeChan 3 (.tmp 0)),
  op 2 (.move (.const (S []))),
  op 3 (.move (.const (I 0)))])
(.seq (.seq (reg [op 4 (.lookup 4 (.tmp 1) (.tmp 1) false) 1,
  op 5 (call (.func 140) #[(.global 4)]) 1,
  op 6 (.unOp .not 0 (.global 5))])
(.cond (.tmp 6)
  (.seq (reg [op 2 (.move (.const (S []))),
    op 3 (.move (.const (I 1)))])
  .ret)
  .skip))
(.seq (reg [op 7 (.lookup 4 (.tmp 1) (.tmp 1) false) 1,
  op 8 (call (.func 180) #[(.global 7)]) 1,
  op 2 (.move (.global 8)),
  op 3 (.move (.const (I 0)))])
.ret))), [(2, 0), (3, 0)]⟩

/-- spec.ClashesOf -/
def fn334 : AFun := ⟨3,
(.seq (reg [op 3 (.box 3 (.tmp 0)),
  op 4 (.box 3 (.tmp 1)),
  op 5 (.box 3 (.tmp 2)),
  op 6 (.move (.const (sl 0 0 0 0))),
  op 7 (.move (.const (I 0)))])
(.seq (reg [op 9 (.buildSlice 1 3 #[(0, (.const (.agg #[(.pointer none), (.pointer none), (.pointer none)]))), (1, (.tmp 3)), (1001, (.tmp 4)), (2001, (.tmp 5))]) 1,
  op 10 (call (.func 552) #[(.global 9)]) 1,
  op 8 (.move (.global 10))])
(.seq (.seq (reg [op 11 (.move (.tmp 8)) 1,
  op 12 (.binOp .neq 0 (.global 11) (.const (I 0)) 0)])
(.cond (.tmp 12)
  (.seq (reg [op 13 (.move (.tmp 8)) 1,
    op 6 (.move (.const (sl 0 0 0 0))),
    op 7 (.move (.global 13))])
  .ret)
  .skip))
(.seq (reg [op 14 (call (.func 548) #[(.tmp 3), (.tmp 4), (.tmp 5)]) 1,
  op 6 (.move (.global 14)),
  op 7 (.move (.const (I 0)))])
.ret)))), [(6, 0), (7, 0)]⟩

/-- impl.ClashesOf -/
def fn65 : AFun := ⟨3,
(.seq (reg [op 3 (.makeChan 3 (.tmp 0)),
  op 4 (.makeChan 3 (.tmp 1)),
  op 5 (.makeChan 3 (.tmp 2)),
  op 6 (.move (.const (sl 0 0 0 0))),
  op 7 (.move (.const (I 0)))])
(.seq (.seq (reg [op 13 (.lookup 4 (.tmp 3) (.tmp 3) false) 1,
  op 14 (call (.func 140) #[(.global 13)]) 1,
  op 15 (.unOp .not 0 (.global 14)) 1,
  op 16 (.move (.global 15)) 1,
  op 17 (.lookup 4 (.tmp 4) (.tmp 4) false) 1 (some (33, false)),
  op 18 (call (.func 140) #[(.global 17)]) 1 (some (33, false)),
  op 19 (.unOp .not 0 (.global 18)) 1 (some (33, false)),
  op 20 (.pick (.global 16) (.const (B true)) (.global 19)) 1,
  op 21 (.move (.global 20)) 1,
  op 22 (.lookup 4 (.tmp 5) (.tmp 5) false) 1 (some (43, false)),
  op 23 (call (.func 140) #[(.global 22)]) 1 (some (43, false)),
  op 24 (.unOp .not 0 (.global 23)) 1 (some (43, false)),
  op 25 (.pick (.global 21) (.const (B true)) (.global 24))])
(.cond (.tmp 25)
  (.seq (reg [op 6 (.move (.const (sl 0 0 0 0))),
    op 7 (.move (.const (I 1)))])
  .ret)
  .skip))
(.seq (.seq (reg [op 26 (.lookup 4 (.tmp 3) (.tmp 3) false) 1,
  op 27 (.lookup 4 (.tmp 4) (.tmp 4) false) 1,
  op 28 (call (.func 186) #[(.global 26), (.global 27)]) 1,
  op 29 (.unOp .not 0 (.global 28)) 1,
  op 30 (.move (.global 29)) 1,
  op 31 (.lookup 4 (.tmp 3) (.tmp 3) false) 1 (some (61, false)),
  op 32 (.lookup 4 (.tmp 5) (.tmp 5) false) 1 (some (61, false)),
  op 33 (call (.func 186) #[(.global 31), (.global 32)]) 1 (some (61, false)),
  op 34 (.unOp .not 0 (.global 33)) 1 (some (61, false)),
  op 35 (.pick (.global 30) (.const (B true)) (.global 34))])
(.cond (.tmp 35)
  (.seq (reg [op 6 (.move (.const (sl 0 0 0 0))),
    op 7 (.move (.const (I 6)))])
  .ret)
  .skip))
(.seq (reg [op 36 (.move (.const (sl 0 0 0 1))) 1,
  op 8 (.move (.global 36))])
(.seq (.seq (reg [op 37 (.fieldAddr 2 (.tmp 3) 1) 1,
  op 38 (.lookup 0 (.tmp 3) (.global 37) false),
  op 39 (bi .len #[(.tmp 38)] 1),
  op 40 (.move (.const (I 0)))])
(.block 0
  (.loop
    (.seq (reg [op 41 (.binOp .lss 0 (.tmp 40) (.tmp 39) 0)])
    (.seq (.cond (.tmp 41)
      .skip
      (.exit 0))
    (.seq (.block 1
      (.seq (reg [op 42 (.move (.tmp 40)) 1,
        op 43 (.indexAddr 3 (.tmp 38) (.tmp 40)) 1,
        op 44 (.load 0 (.global 43)) 1,
        op 9 (.move (.global 42)),
        op 10 (.move (.global 44))])
      (.seq (reg [op 45 (.fieldAddr 2 (.tmp 4) 1) 1,
        op 46 (.lookup 0 (.tmp 4) (.global 45) false) 1,
        op 47 (.move (.tmp 9)) 1,
        op 48 (.indexAddr 3 (.global 46) (.global 47)) 1,
        op 49 (.load 0 (.global 48)) 1,
        op 50 (.fieldAddr 2 (.tmp 5) 1) 1,
        op 51 (.lookup 0 (.tmp 5) (.global 50) false) 1,
        op 52 (.move (.tmp 9)) 1,
        op 53 (.indexAddr 3 (.global 51) (.global 52)) 1,
        op 54 (.load 0 (.global 53)) 1,
        op 11 (.move (.global 49)),
        op 12 (.move (.global 54))])
      (.seq (reg [op 55 (.move (.tmp 11)) 1,
        op 56 (.move (.tmp 10)) 1,
        op 57 (.binOp .neq 0 (.global 55) (.global 56) 0) 1,
        op 58 (.move (.global 57)) 1,
        op 59 (.move (.tmp 12)) 1 (some (117, true)),
        op 60 (.move (.tmp 10)) 1 (some (117, true)),
        op 61 (.binOp .neq 0 (.global 59) (.global 60) 0) 1 (some (117, true)),
        op 62 (.pick (.global 58) (.global 61) (.const (B false))) 1,
        op 63 (.move (.global 62)) 1,
        op 64 (.move (.tmp 11)) 1 (some (127, true)),
        op 65 (.move (.tmp 12)) 1 (some (127, true)),
        op 66 (.binOp .neq 0 (.global 64) (.global 65) 0) 1 (some (127, true)),
        op 67 (.pick (.global 63) (.global 66) (.const (B false)))])
      (.cond (.tmp 67)
        (reg [op 68 (.move (.tmp 8)) 1,
          op 69 (.move (.tmp 9)) 1,
          op 70 (.buildSlice 1 1 #[(0, (.const (.agg #[(I 0)]))), (1, (.global 69))]) 1,
          op 71 (bi .append #[(.global 68), (.global 70)] 1) 1,
          op 8 (.move (.global 71))])
        .skip)))))
    (reg [op 72 (.binOp .add 0 (.tmp 40) (.const (I 1)) 0) 1,
      op 40 (.move (.global 72))])))))))
(.seq (reg [op 73 (.move (.tmp 8)) 1,
  op 6 (.move (.global 73)),
  op 7 (.move (.const (I 0)))])
.ret)))))), [(6, 0), (7, 0)]⟩

/-- laws.szKeptS -/
def fn294 : AFun := ⟨2,
(.seq (reg [op 4 (.move (.const (I 0)))])
(.seq (reg [op 6 (.move (.tmp 1)) 1,
  op 7 (.move (.tmp 0)) 1,
  op 8 (bi .len #[(.global 7)] 1) 1,
  op 9 (.binOp .sub 0 (.global 6) (.global 8) 0) 1,
  op 1 (.move (.global 9))])
(.seq (.seq (reg [op 10 (.move (.tmp 1)) 1,
  op 11 (.binOp .lss 0 (.global 10) (.const (I 0)) 0)])
(.cond (.tmp 11)
  (.seq (reg [op 4 (.move (.const (I (-1))))])
  .ret)
  .skip))
(.seq (.seq (reg [op 5 (.move (.const (I 0)))])
(.block 0
  (.loop
    (.seq (.seq (reg [op 12 (.move (.tmp 5)) 1,
      op 13 (.move (.tmp 0)) 1,
      op 14 (bi .len #[(.global 13)] 1) 1,
      op 15 (.binOp .lss 0 (.global 12) (.global 14) 0)])
    (.cond (.tmp 15)
      .skip
      (.exit 0)))
    (.seq (.block 1
      (.seq (reg [op 18 (.move (.tmp 0)) 1,
        op 19 (.move (.tmp 5)) 1,
        op 20 (.indexAddr 9 (.global 18) (.global 19)) 1,
        op 21 (.load 5 (.global 20)) 1,
        op 22 (.move (.tmp 1)) 1,
        op 23 (call (.func 293) #[(.global 21), (.global 22)]) 1,
        op 1 (.move (.global 23))])
      (.seq (reg [op 24 (.move (.tmp 1)) 1,
        op 25 (.binOp .lss 0 (.global 24) (.const (I 0)) 0)])
      (.cond (.tmp 25)
        (.seq (reg [op 4 (.move (.const (I (-1))))])
        .ret)
        .skip))))
    (reg [op 16 (.move (.tmp 5)) 1,
      op 17 (.binOp .add 0 (.global 16) (.const (I 1)) 0) 1,
      op 5 (.move (.global 17))]))))))
(.seq (reg [op 26 (.move (.tmp 1)) 1,
  op 4 (.move (.global 26))])
.ret))))), [(4, 0)]⟩

/-- spec.SameKept -/
def fn419 : AFun := ⟨2,
(.seq (reg [op 4 (.move (.const (B false)))])
(.seq (.seq (reg [op 6 (.move (.tmp 0)) 1,
  op 7 (bi .len #[(.global 6)] 1) 1,
  op 8 (.move (.tmp 1)) 1,
  op 9 (bi .len #[(.global 8)] 1) 1,
  op 10 (.binOp .neq 0 (.global 7) (.global 9) 0)])
(.cond (.tmp 10)
  (.seq (reg [op 4 (.move (.const (B false)))])
  .ret)
  .skip))
(.seq (.seq (reg [op 5 (.move (.const (I 0)))])
(.block 0
  (.loop
    (.seq (.seq (reg [op 11 (.move (.tmp 5)) 1,
      op 12 (.move (.tmp 0)) 1,
      op 13 (bi .len #[(.global 12)] 1) 1,
      op 14 (.binOp .lss 0 (.global 11) (.global 13) 0)])
    (.cond (.tmp 14)
      .skip
      (.exit 0)))
    (.seq (.block 1
      (.seq (reg [op 17 (.move (.tmp 0)) 1,
        op 18 (.move (.tmp 5)) 1,
        op 19 (.indexAddr 9 (.global 17) (.global 18)) 1,
        op 20 (.fieldAddr 0 (.global 19) 0) 1,
        op 21 (.load 0 (.global 20)) 1,
        op 22 (.move (.tmp 1)) 1,
        op 23 (.move (.tmp 5)) 1,
        op 24 (.indexAddr 9 (.global 22) (.global 23)) 1,
        op 25 (.fieldAddr 0 (.global 24) 0) 1,
        op 26 (.load 0 (.global 25)) 1,
        op 27 (.binOp .neq 0 (.global 21) (.global 26) 0) 1,
        op 28 (.move (.global 27)) 1,
        op 29 (.move (.tmp 0)) 1 (some (57, false)),
        op 30 (.move (.tmp 5)) 1 (some (57, false)),
        op 31 (.indexAddr 9 (.global 29) (.global 30)) 1 (some (57, false)),
        op 32 (.fieldAddr 1 (.global 31) 0) 1 (some (57, false)),
        op 33 (.move (.tmp 1)) 1 (some (57, false)),
        op 34 (.move (.tmp 5)) 1 (some (57, false)),
        op 35 (.indexAddr 9 (.global 33) (.global 34)) 1 (some (57, false)),
        op 36 (.fieldAddr 1 (.global 35) 0) 1 (some (57, false)),
        op 37 (call (.func 456) #[(.global 32), (.global 36)]) 1 (some (57, false)),
        op 38 (.unOp .not 0 (.global 37)) 1 (some (57, false)),
        op 39 (.pick (.global 28) (.const (B true)) (.global 38))])
      (.cond (.tmp 39)
        (.seq (reg [op 4 (.move (.const (B false)))])
        .ret)
        .skip)))
    (reg [op 15 (.move (.tmp 5)) 1,
      op 16 (.binOp .add 0 (.global 15) (.const (I 1)) 0) 1,
      op 5 (.move (.global 16))]))))))
(.seq (reg [op 4 (.move (.const (B true)))])
.ret)))), [(4, 0)]⟩

/-- laws.toKeptS -/
def fn302 : AFun := ⟨1,
(.seq (reg [op 2 (.move (.const (sl 0 0 0 0)))])
(.seq (reg [op 5 (.move (.tmp 0)) 1,
  op 6 (bi .len #[(.global 5)] 1) 1,
  op 7 (.mapUpdate 4 (.global 6) (.global 6) (.const (.agg #[(S []), (I 0), (I 0), (sl 0 0 0 0)]))) 1,
  op 3 (.move (.global 7))])
(.seq (.seq (reg [op 4 (.move (.const (I 0)))])
(.block 0
  (.loop
    (.seq (.seq (reg [op 8 (.move (.tmp 4)) 1,
      op 9 (.move (.tmp 0)) 1,
      op 10 (bi .len #[(.global 9)] 1) 1,
      op 11 (.binOp .lss 0 (.global 8) (.global 10) 0)])
    (.cond (.tmp 11)
      .skip
      (.exit 0)))
    (.seq (.block 1
      (reg [op 14 (.move (.tmp 3)) 1,
        op 15 (.move (.tmp 4)) 1,
        op 16 (.move (.tmp 0)) 1,
        op 17 (.move (.tmp 4)) 1,
        op 18 (.indexAddr 9 (.global 16) (.global 17)) 1,
        op 19 (.load 5 (.global 18)) 1,
        op 20 (call (.func 301) #[(.global 19)]) 1,
        op 21 (.indexAddr 9 (.global 14) (.global 15)) 1,
        opn (.store 4 (.global 21) (.global 20))]))
    (reg [op 12 (.move (.tmp 4)) 1,
      op 13 (.binOp .add 0 (.global 12) (.const (I 1)) 0) 1,
      op 4 (.move (.global 13))]))))))
(.seq (reg [op 22 (.move (.tmp 3)) 1,
  op 2 (.move (.global 22))])
.ret)))), [(2, 0)]⟩

/-- impl.SameKept -/
def fn128 : AFun := ⟨2,
(.seq (reg [op 4 (.move (.const (B false)))])
(.seq (reg [op 5 (.move (.tmp 0)) 1,
  op 6 (.move (.tmp 1)) 1,
  op 7 (call (.func 312) #[(.global 5), (.global 6), (.func 129)]) 1,
  op 4 (.move (.global 7))])
.ret)), [(4, 0)]⟩

/-- laws.eqKeptS -/
def fn264 : AFun := ⟨2,
(.seq (reg [op 4 (.move (.const (B false)))])
(.seq (.seq (reg [op 6 (.move (.tmp 0)) 1,
  op 7 (bi .len #[(.global 6)] 1) 1,
  op 8 (.move (.tmp 1)) 1,
  op 9 (bi .len #[(.global 8)] 1) 1,
  op 10 (.binOp .neq 0 (.global 7) (.global 9) 0)])
(.cond (.tmp 10)
  (.seq (reg [op 4 (.move (.const (B false)))])
  .ret)
  .skip))
(.seq (.seq (reg [op 5 (.move (.const (I 0)))])
(.block 0
  (.loop
    (.seq (.seq (reg [op 11 (.move (.tmp 5)) 1,
      op 12 (.move (.tmp 0)) 1,
      op 13 (bi .len #[(.global 12)] 1) 1,
      op 14 (.binOp .lss 0 (.global 11) (.global 13) 0)])
    (.cond (.tmp 14)
      .skip
      (.exit 0)))
    (.seq (.block 1
      (.seq (reg [op 17 (.move (.tmp 0)) 1,
        op 18 (.move (.tmp 5)) 1,
        op 19 (.indexAddr 9 (.global 17) (.global 18)) 1,
        op 20 (.load 5 (.global 19)) 1,
        op 21 (.move (.tmp 1)) 1,
        op 22 (.move (.tmp 5)) 1,
        op 23 (.indexAddr 9 (.global 21) (.global 22)) 1,
        op 24 (.load 5 (.global 23)) 1,
        op 25 (call (.func 263) #[(.global 20), (.global 24)]) 1,
        op 26 (.unOp .not 0 (.global 25))])
      (.cond (.tmp 26)
        (.seq (reg [op 4 (.move (.const (B false)))])
        .ret)
        .skip)))
    (reg [op 15 (.move (.tmp 5)) 1,
      op 16 (.binOp .add 0 (.global 15) (.const (I 1)) 0) 1,
      op 5 (.move (.global 16))]))))))
(.seq (reg [op 4 (.move (.const (B true)))])
.ret)))), [(4, 0)]⟩

/-- spec.SameJournal -/
def fn418 : AFun := ⟨2,
(.seq (reg [op 2 (.box 5 (.tmp 0)),
  op 3 (.box 5 (.tmp 1)),
  op 4 (.move (.const (B false)))])
(.seq (reg [op 5 (.fieldAddr 0 (.tmp 2) 0) 1,
  op 6 (.fieldAddr 0 (.tmp 3) 0) 1,
  op 7 (call (.func 456) #[(.global 5), (.global 6)]) 1,
  op 8 (.move (.global 7)) 1,
  op 9 (.fieldAddr 3 (.tmp 2) 0) 1 (some (17, true)),
  op 10 (.load 0 (.global 9)) 1 (some (17, true)),
  op 11 (.fieldAddr 3 (.tmp 3) 0) 1 (some (17, true)),
  op 12 (.load 0 (.global 11)) 1 (some (17, true)),
  op 13 (call (.func 563) #[(.global 10), (.global 12)]) 1 (some (17, true)),
  op 14 (.pick (.global 8) (.global 13) (.const (B false))) 1,
  op 15 (.move (.global 14)) 1,
  op 16 (.fieldAddr 4 (.tmp 2) 0) 1 (some (31, true)),
  op 17 (.load 0 (.global 16)) 1 (some (31, true)),
  op 18 (.fieldAddr 4 (.tmp 3) 0) 1 (some (31, true)),
  op 19 (.load 0 (.global 18)) 1 (some (31, true)),
  op 20 (call (.func 563) #[(.global 17), (.global 19)]) 1 (some (31, true)),
  op 21 (.pick (.global 15) (.global 20) (.const (B false))) 1,
  op 4 (.move (.global 21))])
.ret)), [(4, 0)]⟩

/-- impl.SameJournal -/
def fn127 : AFun := ⟨2,
(.seq (reg [op 2 (.makeChan 5 (.tmp 0)),
  op 3 (.makeChan 5 (.tmp 1)),
  op 4 (.move (.const (B false)))])
(.seq (reg [op 5 (.fieldAddr 0 (.tmp 2) 1) 1,
  op 6 (.lookup 4 (.tmp 2) (.global 5) false) 1,
  op 7 (.fieldAddr 0 (.tmp 3) 1) 1,
  op 8 (.lookup 4 (.tmp 3) (.global 7) false) 1,
  op 9 (call (.func 130) #[(.global 6), (.global 8)]) 1,
  op 10 (.move (.global 9)) 1,
  op 11 (.fieldAddr 3 (.tmp 2) 1) 1 (some (21, true)),
  op 12 (.lookup 0 (.tmp 2) (.global 11) false) 1 (some (21, true)),
  op 13 (.fieldAddr 3 (.tmp 3) 1) 1 (some (21, true)),
  op 14 (.lookup 0 (.tmp 3) (.global 13) false) 1 (some (21, true)),
  op 15 (call (.func 313) #[(.global 12), (.global 14)]) 1 (some (21, true)),
  op 16 (.pick (.global 10) (.global 15) (.const (B false))) 1,
  op 17 (.move (.global 16)) 1,
  op 18 (.fieldAddr 4 (.tmp 2) 1) 1 (some (35, true)),
  op 19 (.lookup 0 (.tmp 2) (.global 18) false) 1 (some (35, true)),
  op 20 (.fieldAddr 4 (.tmp 3) 1) 1 (some (35, true)),
  op 21 (.lookup 0 (.tmp 3) (.global 20) false) 1 (some (35, true)),
  op 22 (call (.func 313) #[(.global 19), (.global 21)]) 1 (some (35, true)),
  op 23 (.pick (.global 17) (.global 22) (.const (B false))) 1,
  op 4 (.move (.global 23))])
.ret)), [(4, 0)]⟩

/-- spec.UnpackPanel -/
def fn426 : AFun := ⟨1,
(.seq (reg [op 2 (.move (.const (.agg #[(I 0), (I 0), (sl 0 0 0 0)]))),
  op 3 (.move (.const (I 0)))])
(.seq (reg [op 7 (.move (.tmp 0)) 1,
  op 8 (call (.func 574) #[(.global 7)]) 1,
  op 6 (.move (.global 8)) 1,
  op 9 (.extract (.global 6) 0) 1,
  op 10 (.extract (.global 6) 1) 1,
  op 4 (.move (.const (.agg #[(I 0), (I 0), (sl 0 0 0 0)]))),
  op 4 (.insert 3 (.tmp 4) (.tmp 4) (.global 9)),
  op 5 (.move (.global 10))])
(.seq (.seq (reg [op 11 (.move (.tmp 5)) 1,
  op 12 (.binOp .neq 0 (.global 11) (.const (I 0)) 0)])
(.cond (.tmp 12)
  (.seq (reg [op 13 (.build 0 #[(0, (.const (.agg #[(I 0), (I 0), (sl 0 0 0 0)])))]) 1,
    op 2 (.insert 3 (.tmp 2) (.tmp 2) (.global 13)),
    op 3 (.move (.const (I 8)))])
  .ret)
  .skip))
(.seq (reg [op 14 (.lookup 4 (.tmp 4) (.tmp 4) false) 1,
  op 2 (.insert 3 (.tmp 2) (.tmp 2) (.global 14)),
  op 3 (.move (.const (I 0)))])
.ret)))), [(2, 1000004), (3, 0)]⟩

/-- impl.UnpackPanel -/
def fn136 : AFun := ⟨1,
(.seq (reg [op 2 (.move (.const (.agg #[(I 0), (I 0), (sl 0 0 0 0)]))),
  op 3 (.move (.const (I 0)))])
(.seq (reg [op 7 (.move (.tmp 0)) 1,
  op 8 (call (.func 195) #[(.global 7)]) 1,
  op 6 (.move (.global 8)) 1,
  op 9 (.extract (.global 6) 0) 1,
  op 10 (.extract (.global 6) 1) 1,
  op 4 (.move (.const (.agg #[(I 0), (I 0), (sl 0 0 0 0)]))),
  op 4 (.insert 3 (.tmp 4) (.tmp 4) (.global 9)),
  op 5 (.move (.global 10))])
(.seq (.seq (reg [op 11 (.move (.tmp 5)) 1,
  op 12 (.unOp .not 0 (.global 11))])
(.cond (.tmp 12)
  (.seq (reg [op 13 (.build 0 #[(0, (.const (.agg #[(I 0), (I 0), (sl 0 0 0 0)])))]) 1,
    op 2 (.insert 3 (.tmp 2) (.tmp 2) (.global 13)),
    op 3 (.move (.const (I 8)))])
  .ret)
  .skip))
(.seq (reg [op 14 (.lookup 4 (.tmp 4) (.tmp 4) false) 1,
  op 2 (.insert 3 (.tmp 2) (.tmp 2) (.global 14)),
  op 3 (.move (.const (I 0)))])
.ret)))), [(2, 1000004), (3, 0)]⟩

/-- spec.PartOf -/
def fn403 : AFun := ⟨5,
(.seq (reg [op 5 (.box 3 (.tmp 0)),
  op 10 (.move (.const (.agg #[(I 0), (I 0), (sl 0 0 0 0)]))),
  op 11 (.move (.const (I 0)))])
(.seq (.seq (reg [op 15 (call (.func 452) #[(.tmp 5)]) 1,
  op 16 (.unOp .not 0 (.global 15))])
(.cond (.tmp 16)
  (.seq (reg [op 17 (.build 0 #[(0, (.const (.agg #[(I 0), (I 0), (sl 0 0 0 0)])))]) 1,
    op 10 (.insert 3 (.tmp 10) (.tmp 10) (.global 17)),
    op 11 (.move (.const (I 1)))])
  .ret)
  .skip))
(.seq (.seq (reg [op 18 (.move (.tmp 1)) 1,
  op 19 (.move (.tmp 2)) 1,
  op 20 (.move (.tmp 3)) 1,
  op 21 (.move (.tmp 4)) 1,
  op 22 (call (.func 549) #[(.tmp 5), (.global 18), (.global 19), (.global 20), (.global 21)]) 1,
  op 23 (.unOp .not 0 (.global 22))])
(.cond (.tmp 23)
  (.seq (reg [op 24 (.build 0 #[(0, (.const (.agg #[(I 0), (I 0), (sl 0 0 0 0)])))]) 1,
    op 10 (.insert 3 (.tmp 10) (.tmp 10) (.global 24)),
    op 11 (.move (.const (I 2)))])
  .ret)
  .skip))
(.seq (reg [op 25 (.move (.tmp 3)) 1,
  op 26 (.move (.tmp 4)) 1,
  op 27 (call (.func 450) #[(.global 25), (.global 26)]) 1,
  op 12 (.box 3 (.const (.agg #[(I 0), (I 0), (sl 0 0 0 0)]))),
  opn (.store 3 (.tmp 12) (.global 27))])
(.seq (.seq (reg [op 13 (.move (.const (I 0)))])
(.block 0
  (.loop
    (.seq (.seq (reg [op 28 (.move (.tmp 13)) 1,
      op 29 (.fieldAddr 2 (.tmp 12) 0) 1,
      op 30 (.load 0 (.global 29)) 1,
      op 31 (bi .len #[(.global 30)] 1) 1,
      op 32 (.binOp .lss 0 (.global 28) (.global 31) 0)])
    (.cond (.tmp 32)
      .skip
      (.exit 0)))
    (.seq (.block 1
      (.seq (reg [op 35 (.move (.tmp 13)) 1,
        op 36 (call (.func 454) #[(.tmp 12), (.global 35)]) 1,
        op 14 (.move (.const (.agg #[(I 0), (I 0)]))),
        op 14 (.insert 2 (.tmp 14) (.tmp 14) (.global 36))])
      (reg [op 37 (.fieldAddr 2 (.tmp 12) 0) 1,
        op 38 (.load 0 (.global 37)) 1,
        op 39 (.move (.tmp 13)) 1,
        op 40 (.fieldAddr 2 (.tmp 5) 0) 1,
        op 41 (.load 0 (.global 40)) 1,
        op 42 (.fieldAddr 0 (.tmp 14) 1) 1,
        op 43 (.lookup 0 (.tmp 14) (.global 42) false) 1,
        op 44 (.move (.tmp 1)) 1,
        op 45 (.binOp .mul 0 (.const (I 2)) (.global 44) 0) 1,
        op 46 (.binOp .add 0 (.global 43) (.global 45) 0) 1,
        op 47 (.fieldAddr 1 (.tmp 14) 1) 1,
        op 48 (.lookup 0 (.tmp 14) (.global 47) false) 1,
        op 49 (.move (.tmp 2)) 1,
        op 50 (.binOp .mul 0 (.const (I 2)) (.global 49) 0) 1,
        op 51 (.binOp .add 0 (.global 48) (.global 50) 0) 1,
        op 52 (.build 0 #[(0, (.const (.agg #[(I 0), (I 0)]))), (1, (.global 46)), (1001, (.global 51))]) 1,
        op 53 (call (.func 451) #[(.tmp 5), (.global 52)]) 3,
        op 54 (.indexAddr 3 (.global 41) (.global 53)) 1,
        op 55 (.load 0 (.global 54)) 1,
        op 56 (.indexAddr 3 (.global 38) (.global 39)) 1,
        opn (.store 1 (.global 56) (.global 55))])))
    (reg [op 33 (.move (.tmp 13)) 1,
      op 34 (.binOp .add 0 (.global 33) (.const (I 1)) 0) 1,
      op 13 (.move (.global 34))]))))))
(.seq (reg [op 57 (.load 4 (.tmp 12)) 1,
  op 10 (.insert 3 (.tmp 10) (.tmp 10) (.global 57)),
  op 11 (.move (.const (I 0)))])
.ret)))))), [(10, 1000004), (11, 0)]⟩

/-- impl.PartOf -/
def fn111 : AFun := ⟨5,
(.seq (reg [op 5 (.makeChan 3 (.tmp 0)),
  op 10 (.move (.const (.agg #[(I 0), (I 0), (sl 0 0 0 0)]))),
  op 11 (.move (.const (I 0)))])
(.seq (.seq (reg [op 15 (.lookup 4 (.tmp 5) (.tmp 5) false) 1,
  op 16 (call (.func 140) #[(.global 15)]) 1,
  op 17 (.unOp .not 0 (.global 16))])
(.cond (.tmp 17)
  (.seq (reg [op 18 (.build 0 #[(0, (.const (.agg #[(I 0), (I 0), (sl 0 0 0 0)])))]) 1,
    op 10 (.insert 3 (.tmp 10) (.tmp 10) (.global 18)),
    op 11 (.move (.const (I 1)))])
  .ret)
  .skip))
(.seq (.seq (reg [op 19 (.lookup 4 (.tmp 5) (.tmp 5) false) 1,
  op 20 (.move (.tmp 1)) 1,
  op 21 (.move (.tmp 2)) 1,
  op 22 (.move (.tmp 3)) 1,
  op 23 (.move (.tmp 4)) 1,
  op 24 (call (.func 33) #[(.global 19), (.global 20), (.global 21), (.global 22), (.global 23)]) 1,
  op 25 (.unOp .not 0 (.global 24))])
(.cond (.tmp 25)
  (.seq (reg [op 26 (.build 0 #[(0, (.const (.agg #[(I 0), (I 0), (sl 0 0 0 0)])))]) 1,
    op 10 (.insert 3 (.tmp 10) (.tmp 10) (.global 26)),
    op 11 (.move (.const (I 2)))])
  .ret)
  .skip))
(.seq (reg [op 27 (.move (.tmp 3)) 1,
  op 28 (.move (.tmp 4)) 1,
  op 29 (call (.func 177) #[(.global 27), (.global 28)]) 1,
  op 12 (.move (.const (.agg #[(I 0), (I 0), (sl 0 0 0 0)]))),
  op 12 (.insert 3 (.tmp 12) (.tmp 12) (.global 29))])
(.seq (.seq (reg [op 30 (.lookup 4 (.tmp 12) (.tmp 12) false) 1,
  op 31 (call (.func 49) #[(.global 30)]),
  op 32 (bi .len #[(.tmp 31)] 1),
  op 33 (.move (.const (I 0)))])
(.block 0
  (.loop
    (.seq (reg [op 34 (.binOp .lss 0 (.tmp 33) (.tmp 32) 0)])
    (.seq (.cond (.tmp 34)
      .skip
      (.exit 0))
    (.seq (.block 1
      (.seq (reg [op 35 (.move (.tmp 33)) 1,
        op 36 (.indexAddr 5 (.tmp 31) (.tmp 33)) 1,
        op 37 (.load 3 (.global 36)) 1,
        op 14 (.move (.const (.agg #[(I 0), (I 0)]))),
        op 13 (.move (.global 35)),
        op 14 (.insert 2 (.tmp 14) (.tmp 14) (.global 37))])
      (reg [op 38 (.fieldAddr 2 (.tmp 12) 1) 1,
        op 39 (.lookup 0 (.tmp 12) (.global 38) false) 1,
        op 40 (.move (.tmp 13)) 1,
        op 41 (.fieldAddr 2 (.tmp 5) 1) 1,
        op 42 (.lookup 0 (.tmp 5) (.global 41) false) 1,
        op 43 (.lookup 4 (.tmp 5) (.tmp 5) false) 1,
        op 44 (.lookup 3 (.tmp 14) (.tmp 14) false) 1,
        op 45 (.move (.tmp 1)) 1,
        op 46 (.move (.tmp 2)) 1,
        op 47 (call (.func 188) #[(.global 44), (.global 45), (.global 46)]) 1,
        op 48 (call (.func 40) #[(.global 43), (.global 47)]) 1,
        op 49 (.indexAddr 3 (.global 42) (.global 48)) 1,
        op 50 (.load 0 (.global 49)) 1,
        op 51 (.indexAddr 3 (.global 39) (.global 40)) 1,
        opn (.store 1 (.global 51) (.global 50))])))
    (reg [op 52 (.binOp .add 0 (.tmp 33) (.const (I 1)) 0) 1,
      op 33 (.move (.global 52))])))))))
(.seq (reg [op 53 (.lookup 4 (.tmp 12) (.tmp 12) false) 1,
  op 10 (.insert 3 (.tmp 10) (.tmp 10) (.global 53)),
  op 11 (.move (.const (I 0)))])
.ret)))))), [(10, 1000004), (11, 0)]⟩

/-- spec.DiffPanels -/
def fn346 : AFun := ⟨2,
(.seq (reg [op 2 (.box 3 (.tmp 0)),
  op 3 (.box 3 (.tmp 1)),
  op 4 (.move (.const (sl 0 0 0 0))),
  op 5 (.move (.const (I 0)))])
(.seq (reg [op 9 (.buildSlice 1 2 #[(0, (.const (.agg #[(.pointer none), (.pointer none)]))), (1, (.tmp 2)), (1001, (.tmp 3))]) 1,
  op 10 (call (.func 552) #[(.global 9)]) 1,
  op 6 (.move (.global 10))])
(.seq (.seq (reg [op 11 (.move (.tmp 6)) 1,
  op 12 (.binOp .neq 0 (.global 11) (.const (I 0)) 0)])
(.cond (.tmp 12)
  (.seq (reg [op 13 (.move (.tmp 6)) 1,
    op 4 (.move (.const (sl 0 0 0 0))),
    op 5 (.move (.global 13))])
  .ret)
  .skip))
(.seq (reg [op 14 (.move (.const (sl 0 0 0 3))) 1,
  op 7 (.move (.global 14))])
(.seq (.seq (reg [op 8 (.move (.const (I 0)))])
(.block 0
  (.loop
    (.seq (.seq (reg [op 15 (.move (.tmp 8)) 1,
      op 16 (.fieldAddr 2 (.tmp 2) 0) 1,
      op 17 (.load 0 (.global 16)) 1,
      op 18 (bi .len #[(.global 17)] 1) 1,
      op 19 (.binOp .lss 0 (.global 15) (.global 18) 0)])
    (.cond (.tmp 19)
      .skip
      (.exit 0)))
    (.seq (.block 1
      (.seq (reg [op 22 (.fieldAddr 2 (.tmp 2) 0) 1,
        op 23 (.load 0 (.global 22)) 1,
        op 24 (.move (.tmp 8)) 1,
        op 25 (.indexAddr 3 (.global 23) (.global 24)) 1,
        op 26 (.load 0 (.global 25)) 1,
        op 27 (.fieldAddr 2 (.tmp 3) 0) 1,
        op 28 (.load 0 (.global 27)) 1,
        op 29 (.move (.tmp 8)) 1,
        op 30 (.indexAddr 3 (.global 28) (.global 29)) 1,
        op 31 (.load 0 (.global 30)) 1,
        op 32 (.binOp .neq 0 (.global 26) (.global 31) 0)])
      (.cond (.tmp 32)
        (reg [op 33 (.move (.tmp 7)) 1,
          op 34 (.move (.tmp 8)) 1,
          op 35 (.fieldAddr 2 (.tmp 2) 0) 1,
          op 36 (.load 0 (.global 35)) 1,
          op 37 (.move (.tmp 8)) 1,
          op 38 (.indexAddr 3 (.global 36) (.global 37)) 1,
          op 39 (.load 0 (.global 38)) 1,
          op 40 (.fieldAddr 2 (.tmp 3) 0) 1,
          op 41 (.load 0 (.global 40)) 1,
          op 42 (.move (.tmp 8)) 1,
          op 43 (.indexAddr 3 (.global 41) (.global 42)) 1,
          op 44 (.load 0 (.global 43)) 1,
          op 45 (.build 0 #[(0, (.const (.agg #[(I 0), (I 0), (I 0)]))), (1, (.global 34)), (1001, (.global 39)), (2001, (.global 44))]) 1,
          op 46 (.buildSlice 3 1 #[(0, (.const (.agg #[(I 0), (I 0), (I 0)]))), (3, (.global 45))]) 1,
          op 47 (bi .append #[(.global 33), (.global 46)] 3) 1,
          op 7 (.move (.global 47))])
        .skip)))
    (reg [op 20 (.move (.tmp 8)) 1,
      op 21 (.binOp .add 0 (.global 20) (.const (I 1)) 0) 1,
      op 8 (.move (.global 21))]))))))
(.seq (reg [op 48 (.move (.tmp 7)) 1,
  op 4 (.move (.global 48)),
  op 5 (.move (.const (I 0)))])
.ret)))))), [(4, 0), (5, 0)]⟩

/-- impl.DiffPanels -/
def fn79 : AFun := ⟨2,
(.seq (reg [op 2 (.makeChan 3 (.tmp 0)),
  op 3 (.makeChan 3 (.tmp 1)),
  op 4 (.move (.const (sl 0 0 0 0))),
  op 5 (.move (.const (I 0)))])
(.seq (.seq (reg [op 9 (.lookup 4 (.tmp 2) (.tmp 2) false) 1,
  op 10 (call (.func 140) #[(.global 9)]) 1,
  op 11 (.unOp .not 0 (.global 10)) 1,
  op 12 (.move (.global 11)) 1,
  op 13 (.lookup 4 (.tmp 3) (.tmp 3) false) 1 (some (25, false)),
  op 14 (call (.func 140) #[(.global 13)]) 1 (some (25, false)),
  op 15 (.unOp .not 0 (.global 14)) 1 (some (25, false)),
  op 16 (.pick (.global 12) (.const (B true)) (.global 15))])
(.cond (.tmp 16)
  (.seq (reg [op 4 (.move (.const (sl 0 0 0 0))),
    op 5 (.move (.const (I 1)))])
  .ret)
  .skip))
(.seq (.seq (reg [op 17 (.lookup 4 (.tmp 2) (.tmp 2) false) 1,
  op 18 (.lookup 4 (.tmp 3) (.tmp 3) false) 1,
  op 19 (call (.func 186) #[(.global 17), (.global 18)]) 1,
  op 20 (.unOp .not 0 (.global 19))])
(.cond (.tmp 20)
  (.seq (reg [op 4 (.move (.const (sl 0 0 0 0))),
    op 5 (.move (.const (I 6)))])
  .ret)
  .skip))
(.seq (reg [op 21 (.move (.const (sl 0 0 0 3))) 1,
  op 6 (.move (.global 21))])
(.seq (.seq (reg [op 22 (.fieldAddr 2 (.tmp 2) 1) 1,
  op 23 (.lookup 0 (.tmp 2) (.global 22) false),
  op 24 (bi .len #[(.tmp 23)] 1),
  op 25 (.move (.const (I 0)))])
(.block 0
  (.loop
    (.seq (reg [op 26 (.binOp .lss 0 (.tmp 25) (.tmp 24) 0)])
    (.seq (.cond (.tmp 26)
      .skip
      (.exit 0))
    (.seq (.block 1
      (.seq (reg [op 27 (.move (.tmp 25)) 1,
        op 28 (.indexAddr 3 (.tmp 23) (.tmp 25)) 1,
        op 29 (.load 0 (.global 28)) 1,
        op 7 (.move (.global 27)),
        op 8 (.move (.global 29))])
      (.seq (reg [op 30 (.move (.tmp 8)) 1,
        op 31 (.fieldAddr 2 (.tmp 3) 1) 1,
        op 32 (.lookup 0 (.tmp 3) (.global 31) false) 1,
        op 33 (.move (.tmp 7)) 1,
        op 34 (.indexAddr 3 (.global 32) (.global 33)) 1,
        op 35 (.load 0 (.global 34)) 1,
        op 36 (.binOp .neq 0 (.global 30) (.global 35) 0)])
      (.cond (.tmp 36)
        (reg [op 37 (.move (.tmp 6)) 1,
          op 38 (.move (.tmp 7)) 1,
          op 39 (.move (.tmp 8)) 1,
          op 40 (.fieldAddr 2 (.tmp 3) 1) 1,
          op 41 (.lookup 0 (.tmp 3) (.global 40) false) 1,
          op 42 (.move (.tmp 7)) 1,
          op 43 (.indexAddr 3 (.global 41) (.global 42)) 1,
          op 44 (.load 0 (.global 43)) 1,
          op 45 (.build 0 #[(0, (.const (.agg #[(I 0), (I 0), (I 0)]))), (1, (.global 38)), (1001, (.global 39)), (2001, (.global 44))]) 1,
          op 46 (.buildSlice 3 1 #[(0, (.const (.agg #[(I 0), (I 0), (I 0)]))), (3, (.global 45))]) 1,
          op 47 (bi .append #[(.global 37), (.global 46)] 3) 1,
          op 6 (.move (.global 47))])
        .skip))))
    (reg [op 48 (.binOp .add 0 (.tmp 25) (.const (I 1)) 0) 1,
      op 25 (.move (.global 48))])))))))
(.seq (reg [op 49 (.move (.tmp 6)) 1,
  op 4 (.move (.global 49)),
  op 5 (.move (.const (I 0)))])
.ret)))))), [(4, 0), (5, 0)]⟩

/-- spec.MergePanels -/
def fn391 : AFun := ⟨3,
(.seq (reg [op 3 (.box 3 (.tmp 0)),
  op 4 (.box 3 (.tmp 1)),
  op 5 (.box 3 (.tmp 2)),
  op 6 (.move (.const (.agg #[(I 0), (I 0), (sl 0 0 0 0)]))),
  op 7 (.move (.const (I 0)))])
(.seq (reg [op 11 (.buildSlice 1 3 #[(0, (.const (.agg #[(.pointer none), (.pointer none), (.pointer none)]))), (1, (.tmp 3)), (1001, (.tmp 4)), (2001, (.tmp 5))]) 1,
  op 12 (call (.func 552) #[(.global 11)]) 1,
  op 8 (.move (.global 12))])
(.seq (.seq (reg [op 13 (.move (.tmp 8)) 1,
  op 14 (.binOp .eql 0 (.global 13) (.const (I 0)) 0) 1,
  op 15 (.move (.global 14)) 1,
  op 16 (call (.func 548) #[(.tmp 3), (.tmp 4), (.tmp 5)]) 1 (some (31, true)),
  op 17 (bi .len #[(.global 16)] 1) 1 (some (31, true)),
  op 18 (.binOp .gtr 0 (.global 17) (.const (I 0)) 0) 1 (some (31, true)),
  op 19 (.pick (.global 15) (.global 18) (.const (B false)))])
(.cond (.tmp 19)
  (reg [op 8 (.move (.const (I 9)))])
  .skip))
(.seq (.seq (reg [op 20 (.move (.tmp 8)) 1,
  op 21 (.binOp .neq 0 (.global 20) (.const (I 0)) 0)])
(.cond (.tmp 21)
  (.seq (reg [op 22 (.build 0 #[(0, (.const (.agg #[(I 0), (I 0), (sl 0 0 0 0)])))]) 1,
    op 23 (.move (.tmp 8)) 1,
    op 6 (.insert 3 (.tmp 6) (.tmp 6) (.global 22)),
    op 7 (.move (.global 23))])
  .ret)
  .skip))
(.seq (reg [op 24 (call (.func 453) #[(.tmp 4)]) 1,
  op 9 (.move (.const (.agg #[(I 0), (I 0), (sl 0 0 0 0)]))),
  op 9 (.insert 3 (.tmp 9) (.tmp 9) (.global 24))])
(.seq (.seq (reg [op 10 (.move (.const (I 0)))])
(.block 0
  (.loop
    (.seq (.seq (reg [op 25 (.move (.tmp 10)) 1,
      op 26 (.fieldAddr 2 (.tmp 3) 0) 1,
      op 27 (.load 0 (.global 26)) 1,
      op 28 (bi .len #[(.global 27)] 1) 1,
      op 29 (.binOp .lss 0 (.global 25) (.global 28) 0)])
    (.cond (.tmp 29)
      .skip
      (.exit 0)))
    (.seq (.block 1
      (.seq (reg [op 32 (.fieldAddr 2 (.tmp 5) 0) 1,
        op 33 (.load 0 (.global 32)) 1,
        op 34 (.move (.tmp 10)) 1,
        op 35 (.indexAddr 3 (.global 33) (.global 34)) 1,
        op 36 (.load 0 (.global 35)) 1,
        op 37 (.fieldAddr 2 (.tmp 3) 0) 1,
        op 38 (.load 0 (.global 37)) 1,
        op 39 (.move (.tmp 10)) 1,
        op 40 (.indexAddr 3 (.global 38) (.global 39)) 1,
        op 41 (.load 0 (.global 40)) 1,
        op 42 (.binOp .neq 0 (.global 36) (.global 41) 0)])
      (.cond (.tmp 42)
        (reg [op 43 (.fieldAddr 2 (.tmp 9) 1) 1,
          op 44 (.lookup 0 (.tmp 9) (.global 43) false) 1,
          op 45 (.move (.tmp 10)) 1,
          op 46 (.fieldAddr 2 (.tmp 5) 0) 1,
          op 47 (.load 0 (.global 46)) 1,
          op 48 (.move (.tmp 10)) 1,
          op 49 (.indexAddr 3 (.global 47) (.global 48)) 1,
          op 50 (.load 0 (.global 49)) 1,
          op 51 (.indexAddr 3 (.global 44) (.global 45)) 1,
          opn (.store 1 (.global 51) (.global 50))])
        .skip)))
    (reg [op 30 (.move (.tmp 10)) 1,
      op 31 (.binOp .add 0 (.global 30) (.const (I 1)) 0) 1,
      op 10 (.move (.global 31))]))))))
(.seq (reg [op 52 (.lookup 4 (.tmp 9) (.tmp 9) false) 1,
  op 6 (.insert 3 (.tmp 6) (.tmp 6) (.global 52)),
  op 7 (.move (.const (I 0)))])
.ret))))))), [(6, 1000004), (7, 0)]⟩

/-- impl.MergePanels -/
def fn98 : AFun := ⟨3,
(.seq (reg [op 3 (.makeChan 3 (.tmp 0)),
  op 4 (.makeChan 3 (.tmp 1)),
  op 5 (.makeChan 3 (.tmp 2)),
  op 6 (.move (.const (.agg #[(I 0), (I 0), (sl 0 0 0 0)]))),
  op 7 (.move (.const (I 0)))])
(.seq (reg [op 14 (.lookup 4 (.tmp 3) (.tmp 3) false) 1,
  op 15 (.lookup 4 (.tmp 4) (.tmp 4) false) 1,
  op 16 (.lookup 4 (.tmp 5) (.tmp 5) false) 1,
  op 17 (call (.func 65) #[(.global 14), (.global 15), (.global 16)]) 1,
  op 13 (.move (.global 17)) 1,
  op 18 (.extract (.global 13) 0) 1,
  op 19 (.extract (.global 13) 1) 1,
  op 8 (.move (.global 18)),
  op 9 (.move (.global 19))])
(.seq (.seq (reg [op 20 (.move (.tmp 9)) 1,
  op 21 (.binOp .neq 0 (.global 20) (.const (I 0)) 0)])
(.cond (.tmp 21)
  (.seq (reg [op 22 (.build 0 #[(0, (.const (.agg #[(I 0), (I 0), (sl 0 0 0 0)])))]) 1,
    op 23 (.move (.tmp 9)) 1,
    op 6 (.insert 3 (.tmp 6) (.tmp 6) (.global 22)),
    op 7 (.move (.global 23))])
  .ret)
  .skip))
(.seq (.seq (reg [op 24 (.move (.tmp 8)) 1,
  op 25 (bi .len #[(.global 24)] 1) 1,
  op 26 (.binOp .gtr 0 (.global 25) (.const (I 0)) 0)])
(.cond (.tmp 26)
  (.seq (reg [op 27 (.build 0 #[(0, (.const (.agg #[(I 0), (I 0), (sl 0 0 0 0)])))]) 1,
    op 6 (.insert 3 (.tmp 6) (.tmp 6) (.global 27)),
    op 7 (.move (.const (I 9)))])
  .ret)
  .skip))
(.seq (reg [op 28 (.lookup 4 (.tmp 4) (.tmp 4) false) 1,
  op 29 (call (.func 150) #[(.global 28)]) 1,
  op 10 (.move (.const (.agg #[(I 0), (I 0), (sl 0 0 0 0)]))),
  op 10 (.insert 3 (.tmp 10) (.tmp 10) (.global 29))])
(.seq (.seq (reg [op 30 (.fieldAddr 2 (.tmp 5) 1) 1,
  op 31 (.lookup 0 (.tmp 5) (.global 30) false),
  op 32 (bi .len #[(.tmp 31)] 1),
  op 33 (.move (.const (I 0)))])
(.block 0
  (.loop
    (.seq (reg [op 34 (.binOp .lss 0 (.tmp 33) (.tmp 32) 0)])
    (.seq (.cond (.tmp 34)
      .skip
      (.exit 0))
    (.seq (.block 1
      (.seq (reg [op 35 (.move (.tmp 33)) 1,
        op 36 (.indexAddr 3 (.tmp 31) (.tmp 33)) 1,
        op 37 (.load 0 (.global 36)) 1,
        op 11 (.move (.global 35)),
        op 12 (.move (.global 37))])
      (.seq (reg [op 38 (.move (.tmp 12)) 1,
        op 39 (.fieldAddr 2 (.tmp 3) 1) 1,
        op 40 (.lookup 0 (.tmp 3) (.global 39) false) 1,
        op 41 (.move (.tmp 11)) 1,
        op 42 (.indexAddr 3 (.global 40) (.global 41)) 1,
        op 43 (.load 0 (.global 42)) 1,
        op 44 (.binOp .neq 0 (.global 38) (.global 43) 0)])
      (.cond (.tmp 44)
        (reg [op 45 (.fieldAddr 2 (.tmp 10) 1) 1,
          op 46 (.lookup 0 (.tmp 10) (.global 45) false) 1,
          op 47 (.move (.tmp 11)) 1,
          op 48 (.move (.tmp 12)) 1,
          op 49 (.indexAddr 3 (.global 46) (.global 47)) 1,
          opn (.store 1 (.global 49) (.global 48))])
        .skip))))
    (reg [op 50 (.binOp .add 0 (.tmp 33) (.const (I 1)) 0) 1,
      op 33 (.move (.global 50))])))))))
(.seq (reg [op 51 (.lookup 4 (.tmp 10) (.tmp 10) false) 1,
  op 6 (.insert 3 (.tmp 6) (.tmp 6) (.global 51)),
  op 7 (.move (.const (I 0)))])
.ret))))))), [(6, 1000004), (7, 0)]⟩

/-- spec.JoinBeside -/
def fn384 : AFun := ⟨2,
(.seq (reg [op 2 (.box 3 (.tmp 0)),
  op 3 (.box 3 (.tmp 1)),
  op 4 (.move (.const (.agg #[(I 0), (I 0), (sl 0 0 0 0)]))),
  op 5 (.move (.const (I 0)))])
(.seq (.seq (reg [op 8 (call (.func 452) #[(.tmp 2)]) 1,
  op 9 (.unOp .not 0 (.global 8)) 1,
  op 10 (.move (.global 9)) 1,
  op 11 (call (.func 452) #[(.tmp 3)]) 1 (some (21, false)),
  op 12 (.unOp .not 0 (.global 11)) 1 (some (21, false)),
  op 13 (.pick (.global 10) (.const (B true)) (.global 12))])
(.cond (.tmp 13)
  (.seq (reg [op 14 (.build 0 #[(0, (.const (.agg #[(I 0), (I 0), (sl 0 0 0 0)])))]) 1,
    op 4 (.insert 3 (.tmp 4) (.tmp 4) (.global 14)),
    op 5 (.move (.const (I 1)))])
  .ret)
  .skip))
(.seq (.seq (reg [op 15 (.fieldAddr 1 (.tmp 2) 0) 1,
  op 16 (.load 0 (.global 15)) 1,
  op 17 (.fieldAddr 1 (.tmp 3) 0) 1,
  op 18 (.load 0 (.global 17)) 1,
  op 19 (.binOp .neq 0 (.global 16) (.global 18) 0)])
(.cond (.tmp 19)
  (.seq (reg [op 20 (.build 0 #[(0, (.const (.agg #[(I 0), (I 0), (sl 0 0 0 0)])))]) 1,
    op 4 (.insert 3 (.tmp 4) (.tmp 4) (.global 20)),
    op 5 (.move (.const (I 6)))])
  .ret)
  .skip))
(.seq (.seq (reg [op 21 (.fieldAddr 0 (.tmp 2) 0) 1,
  op 22 (.load 0 (.global 21)) 1,
  op 23 (.fieldAddr 0 (.tmp 3) 0) 1,
  op 24 (.load 0 (.global 23)) 1,
  op 25 (.binOp .add 0 (.global 22) (.global 24) 0) 1,
  op 26 (call (.func 457) #[(.global 25)]) 1,
  op 27 (.unOp .not 0 (.global 26))])
(.cond (.tmp 27)
  (.seq (reg [op 28 (.build 0 #[(0, (.const (.agg #[(I 0), (I 0), (sl 0 0 0 0)])))]) 1,
    op 4 (.insert 3 (.tmp 4) (.tmp 4) (.global 28)),
    op 5 (.move (.const (I 5)))])
  .ret)
  .skip))
(.seq (reg [op 29 (.fieldAddr 0 (.tmp 2) 0) 1,
  op 30 (.load 0 (.global 29)) 1,
  op 31 (.fieldAddr 0 (.tmp 3) 0) 1,
  op 32 (.load 0 (.global 31)) 1,
  op 33 (.binOp .add 0 (.global 30) (.global 32) 0) 1,
  op 34 (.fieldAddr 1 (.tmp 2) 0) 1,
  op 35 (.load 0 (.global 34)) 1,
  op 36 (call (.func 450) #[(.global 33), (.global 35)]) 1,
  op 6 (.box 3 (.const (.agg #[(I 0), (I 0), (sl 0 0 0 0)]))),
  opn (.store 3 (.tmp 6) (.global 36))])
(.seq (reg [op 37 (call (.func 551) #[(.tmp 6), (.const (I 0)), (.const (I 0)), (.tmp 2)]) 1])
(.seq (reg [op 38 (.fieldAddr 0 (.tmp 2) 0) 1,
  op 39 (.load 0 (.global 38)) 1,
  op 40 (call (.func 551) #[(.tmp 6), (.global 39), (.const (I 0)), (.tmp 3)]) 1])
(.seq (.seq (reg [op 7 (.move (.const (I 1)))])
(.block 0
  (.loop
    (.seq (.seq (reg [op 41 (.move (.tmp 7)) 1,
      op 42 (.fieldAddr 1 (.tmp 2) 0) 1,
      op 43 (.load 0 (.global 42)) 1,
      op 44 (.binOp .mul 0 (.const (I 2)) (.global 43) 0) 1,
      op 45 (.binOp .lss 0 (.global 41) (.global 44) 0)])
    (.cond (.tmp 45)
      .skip
      (.exit 0)))
    (.seq (.block 1
      (reg [op 48 (.fieldAddr 2 (.tmp 6) 0) 1,
        op 49 (.load 0 (.global 48)) 1,
        op 50 (.fieldAddr 0 (.tmp 2) 0) 1,
        op 51 (.load 0 (.global 50)) 1,
        op 52 (.binOp .mul 0 (.const (I 2)) (.global 51) 0) 1,
        op 53 (.move (.tmp 7)) 1,
        op 54 (.build 0 #[(0, (.const (.agg #[(I 0), (I 0)]))), (1, (.global 52)), (1001, (.global 53))]) 1,
        op 55 (call (.func 451) #[(.tmp 6), (.global 54)]) 3,
        op 56 (.indexAddr 3 (.global 49) (.global 55)) 1,
        opn (.store 1 (.global 56) (.const (I 1)))]))
    (reg [op 46 (.move (.tmp 7)) 1,
      op 47 (.binOp .add 0 (.global 46) (.const (I 2)) 0) 1,
      op 7 (.move (.global 47))]))))))
(.seq (reg [op 57 (.load 4 (.tmp 6)) 1,
  op 4 (.insert 3 (.tmp 4) (.tmp 4) (.global 57)),
  op 5 (.move (.const (I 0)))])
.ret))))))))), [(4, 1000004), (5, 0)]⟩

/-- impl.JoinBeside -/
def fn92 : AFun := ⟨2,
(.seq (reg [op 2 (.makeChan 3 (.tmp 0)),
  op 3 (.makeChan 3 (.tmp 1)),
  op 4 (.move (.const (.agg #[(I 0), (I 0), (sl 0 0 0 0)]))),
  op 5 (.move (.const (I 0)))])
(.seq (.seq (reg [op 8 (.lookup 4 (.tmp 2) (.tmp 2) false) 1,
  op 9 (call (.func 140) #[(.global 8)]) 1,
  op 10 (.unOp .not 0 (.global 9)) 1,
  op 11 (.move (.global 10)) 1,
  op 12 (.lookup 4 (.tmp 3) (.tmp 3) false) 1 (some (23, false)),
  op 13 (call (.func 140) #[(.global 12)]) 1 (some (23, false)),
  op 14 (.unOp .not 0 (.global 13)) 1 (some (23, false)),
  op 15 (.pick (.global 11) (.const (B true)) (.global 14))])
(.cond (.tmp 15)
  (.seq (reg [op 16 (.build 0 #[(0, (.const (.agg #[(I 0), (I 0), (sl 0 0 0 0)])))]) 1,
    op 4 (.insert 3 (.tmp 4) (.tmp 4) (.global 16)),
    op 5 (.move (.const (I 1)))])
  .ret)
  .skip))
(.seq (.seq (reg [op 17 (.fieldAddr 1 (.tmp 2) 1) 1,
  op 18 (.lookup 0 (.tmp 2) (.global 17) false) 1,
  op 19 (.fieldAddr 1 (.tmp 3) 1) 1,
  op 20 (.lookup 0 (.tmp 3) (.global 19) false) 1,
  op 21 (.binOp .neq 0 (.global 18) (.global 20) 0)])
(.cond (.tmp 21)
  (.seq (reg [op 22 (.build 0 #[(0, (.const (.agg #[(I 0), (I 0), (sl 0 0 0 0)])))]) 1,
    op 4 (.insert 3 (.tmp 4) (.tmp 4) (.global 22)),
    op 5 (.move (.const (I 6)))])
  .ret)
  .skip))
(.seq (.seq (reg [op 23 (.fieldAddr 0 (.tmp 2) 1) 1,
  op 24 (.lookup 0 (.tmp 2) (.global 23) false) 1,
  op 25 (.fieldAddr 0 (.tmp 3) 1) 1,
  op 26 (.lookup 0 (.tmp 3) (.global 25) false) 1,
  op 27 (.binOp .add 0 (.global 24) (.global 26) 0) 1,
  op 28 (.binOp .gtr 0 (.global 27) (.const (I 8)) 0)])
(.cond (.tmp 28)
  (.seq (reg [op 29 (.build 0 #[(0, (.const (.agg #[(I 0), (I 0), (sl 0 0 0 0)])))]) 1,
    op 4 (.insert 3 (.tmp 4) (.tmp 4) (.global 29)),
    op 5 (.move (.const (I 5)))])
  .ret)
  .skip))
(.seq (reg [op 30 (.fieldAddr 0 (.tmp 2) 1) 1,
  op 31 (.lookup 0 (.tmp 2) (.global 30) false) 1,
  op 32 (.fieldAddr 0 (.tmp 3) 1) 1,
  op 33 (.lookup 0 (.tmp 3) (.global 32) false) 1,
  op 34 (.binOp .add 0 (.global 31) (.global 33) 0) 1,
  op 35 (.fieldAddr 1 (.tmp 2) 1) 1,
  op 36 (.lookup 0 (.tmp 2) (.global 35) false) 1,
  op 37 (call (.func 177) #[(.global 34), (.global 36)]) 1,
  op 6 (.move (.const (.agg #[(I 0), (I 0), (sl 0 0 0 0)]))),
  op 6 (.insert 3 (.tmp 6) (.tmp 6) (.global 37))])
(.seq (.seq (reg [op 7 (.move (.const (I 1)))])
(.block 0
  (.loop
    (.seq (.seq (reg [op 38 (.move (.tmp 7)) 1,
      op 39 (.fieldAddr 1 (.tmp 2) 1) 1,
      op 40 (.lookup 0 (.tmp 2) (.global 39) false) 1,
      op 41 (.binOp .mul 0 (.const (I 2)) (.global 40) 0) 1,
      op 42 (.binOp .lss 0 (.global 38) (.global 41) 0)])
    (.cond (.tmp 42)
      .skip
      (.exit 0)))
    (.seq (.block 1
      (reg [op 45 (.fieldAddr 2 (.tmp 6) 1) 1,
        op 46 (.lookup 0 (.tmp 6) (.global 45) false) 1,
        op 47 (.lookup 4 (.tmp 6) (.tmp 6) false) 1,
        op 48 (.fieldAddr 0 (.tmp 2) 1) 1,
        op 49 (.lookup 0 (.tmp 2) (.global 48) false) 1,
        op 50 (.binOp .mul 0 (.const (I 2)) (.global 49) 0) 1,
        op 51 (.move (.tmp 7)) 1,
        op 52 (.build 0 #[(0, (.const (.agg #[(I 0), (I 0)]))), (1, (.global 50)), (1001, (.global 51))]) 1,
        op 53 (call (.func 40) #[(.global 47), (.global 52)]) 1,
        op 54 (.indexAddr 3 (.global 46) (.global 53)) 1,
        opn (.store 1 (.global 54) (.const (I 1)))]))
    (reg [op 43 (.move (.tmp 7)) 1,
      op 44 (.binOp .add 0 (.global 43) (.const (I 2)) 0) 1,
      op 7 (.move (.global 44))]))))))
(.seq (reg [op 55 (.lookup 4 (.tmp 6) (.tmp 6) false) 1,
  op 56 (.lookup 4 (.tmp 2) (.tmp 2) false) 1,
  op 57 (call (.func 46) #[(.global 55), (.const (I 0)), (.const (I 0)), (.global 56)]) 1])
(.seq (reg [op 58 (.lookup 4 (.tmp 6) (.tmp 6) false) 1,
  op 59 (.fieldAddr 0 (.tmp 2) 1) 1,
  op 60 (.lookup 0 (.tmp 2) (.global 59) false) 1,
  op 61 (.lookup 4 (.tmp 3) (.tmp 3) false) 1,
  op 62 (call (.func 46) #[(.global 58), (.global 60), (.const (I 0)), (.global 61)]) 1])
(.seq (reg [op 63 (.lookup 4 (.tmp 6) (.tmp 6) false) 1,
  op 4 (.insert 3 (.tmp 4) (.tmp 4) (.global 63)),
  op 5 (.move (.const (I 0)))])
.ret))))))))), [(4, 1000004), (5, 0)]⟩

/-- spec.l27Unpack -/
def fn574 : AFun := ⟨1,
(.seq (reg [op 2 (.move (.const (.agg #[(I 0), (I 0), (sl 0 0 0 0)]))),
  op 3 (.move (.const (I 0)))])
(.seq (.seq (reg [op 11 (.move (.tmp 0)) 1,
  op 12 (bi .len #[(.global 11)] 0) 1,
  op 13 (.binOp .lss 0 (.global 12) (.const (I 5)) 0) 1,
  op 14 (.move (.global 13)) 1,
  op 15 (.move (.tmp 0)) 1 (some (29, false)),
  op 16 (.index 0 (.global 15) (.const (I 0))) 1 (some (29, false)),
  op 17 (.binOp .neq 0 (.global 16) (.const (U 77)) 0) 1 (some (29, false)),
  op 18 (.pick (.global 14) (.const (B true)) (.global 17)) 1,
  op 19 (.move (.global 18)) 1,
  op 20 (.move (.tmp 0)) 1 (some (39, false)),
  op 21 (.index 0 (.global 20) (.const (I 1))) 1 (some (39, false)),
  op 22 (.convert 0 3 (.global 21)) 1 (some (39, false)),
  op 23 (call (.func 457) #[(.global 22)]) 1 (some (39, false)),
  op 24 (.unOp .not 0 (.global 23)) 1 (some (39, false)),
  op 25 (.pick (.global 19) (.const (B true)) (.global 24)) 1,
  op 26 (.move (.global 25)) 1,
  op 27 (.move (.tmp 0)) 1 (some (53, false)),
  op 28 (.index 0 (.global 27) (.const (I 2))) 1 (some (53, false)),
  op 29 (.convert 0 3 (.global 28)) 1 (some (53, false)),
  op 30 (call (.func 457) #[(.global 29)]) 1 (some (53, false)),
  op 31 (.unOp .not 0 (.global 30)) 1 (some (53, false)),
  op 32 (.pick (.global 26) (.const (B true)) (.global 31))])
(.cond (.tmp 32)
  (.seq (reg [op 33 (.build 0 #[(0, (.const (.agg #[(I 0), (I 0), (sl 0 0 0 0)])))]) 1,
    op 2 (.insert 3 (.tmp 2) (.tmp 2) (.global 33)),
    op 3 (.move (.const (I 1)))])
  .ret)
  .skip))
(.seq (reg [op 34 (.move (.tmp 0)) 1,
  op 35 (.index 0 (.global 34) (.const (I 1))) 1,
  op 36 (.convert 0 3 (.global 35)) 1,
  op 4 (.move (.global 36))])
(.seq (reg [op 37 (.move (.tmp 0)) 1,
  op 38 (.index 0 (.global 37) (.const (I 2))) 1,
  op 39 (.convert 0 3 (.global 38)) 1,
  op 5 (.move (.global 39))])
(.seq (.seq (reg [op 40 (.move (.tmp 0)) 1,
  op 41 (bi .len #[(.global 40)] 0) 1,
  op 42 (.move (.tmp 4)) 1,
  op 43 (.move (.tmp 5)) 1,
  op 44 (call (.func 572) #[(.global 42), (.global 43)]) 1,
  op 45 (.binOp .neq 0 (.global 41) (.global 44) 0)])
(.cond (.tmp 45)
  (.seq (reg [op 46 (.build 0 #[(0, (.const (.agg #[(I 0), (I 0), (sl 0 0 0 0)])))]) 1,
    op 2 (.insert 3 (.tmp 2) (.tmp 2) (.global 46)),
    op 3 (.move (.const (I 2)))])
  .ret)
  .skip))
(.seq (.seq (reg [op 47 (.move (.tmp 0)) 1,
  op 48 (call (.func 566) #[(.global 47)]) 1,
  op 49 (.unOp .not 0 (.global 48))])
(.cond (.tmp 49)
  (.seq (reg [op 50 (.build 0 #[(0, (.const (.agg #[(I 0), (I 0), (sl 0 0 0 0)])))]) 1,
    op 2 (.insert 3 (.tmp 2) (.tmp 2) (.global 50)),
    op 3 (.move (.const (I 3)))])
  .ret)
  .skip))
(.seq (reg [op 51 (.move (.tmp 4)) 1,
  op 52 (.move (.tmp 5)) 1,
  op 53 (call (.func 450) #[(.global 51), (.global 52)]) 1,
  op 6 (.box 3 (.const (.agg #[(I 0), (I 0), (sl 0 0 0 0)]))),
  opn (.store 3 (.tmp 6) (.global 53))])
(.seq (.seq (reg [op 7 (.move (.const (I 3)))])
(.block 0
  (.loop
    (.seq (.seq (reg [op 54 (.move (.tmp 7)) 1,
      op 55 (.move (.tmp 0)) 1,
      op 56 (bi .len #[(.global 55)] 0) 1,
      op 57 (.binOp .sub 0 (.global 56) (.const (I 2)) 0) 1,
      op 58 (.binOp .lss 0 (.global 54) (.global 57) 0)])
    (.cond (.tmp 58)
      .skip
      (.exit 0)))
    (.seq (.block 1
      (.seq (reg [op 61 (.move (.tmp 0)) 1,
        op 62 (.move (.tmp 7)) 1,
        op 63 (.index 0 (.global 61) (.global 62)) 1,
        op 64 (.convert 0 3 (.global 63)) 1,
        op 8 (.move (.global 64))])
      (.seq (reg [op 9 (.move (.const (I 4)))])
      (.block 2
        (.loop
          (.seq (.seq (reg [op 65 (.move (.tmp 9)) 1,
            op 66 (.binOp .geq 0 (.global 65) (.const (I 0)) 0)])
          (.cond (.tmp 66)
            .skip
            (.exit 2)))
          (.seq (.block 3
            (.seq (reg [op 69 (.move (.tmp 7)) 1,
              op 70 (.binOp .sub 0 (.global 69) (.const (I 3)) 0) 1,
              op 71 (.binOp .mul 0 (.const (I 5)) (.global 70) 0) 1,
              op 72 (.move (.tmp 9)) 1,
              op 73 (.binOp .add 0 (.global 71) (.global 72) 0) 1,
              op 10 (.move (.global 73))])
            (.seq (.seq (reg [op 74 (.move (.tmp 10)) 1,
              op 75 (.fieldAddr 2 (.tmp 6) 0) 1,
              op 76 (.load 0 (.global 75)) 1,
              op 77 (bi .len #[(.global 76)] 1) 1,
              op 78 (.binOp .lss 0 (.global 74) (.global 77) 0)])
            (.cond (.tmp 78)
              (reg [op 79 (.fieldAddr 2 (.tmp 6) 0) 1,
                op 80 (.load 0 (.global 79)) 1,
                op 81 (.move (.tmp 10)) 1,
                op 82 (.move (.tmp 8)) 1,
                op 83 (.binOp .rem 0 (.global 82) (.const (I 3)) 0) 1,
                op 84 (.indexAddr 3 (.global 80) (.global 81)) 1,
                opn (.store 1 (.global 84) (.global 83))])
              .skip))
            (reg [op 85 (.move (.tmp 8)) 1,
              op 86 (.binOp .quo 0 (.global 85) (.const (I 3)) 0) 1,
              op 8 (.move (.global 86))]))))
          (reg [op 67 (.move (.tmp 9)) 1,
            op 68 (.binOp .sub 0 (.global 67) (.const (I 1)) 0) 1,
            op 9 (.move (.global 68))]))))))))
    (reg [op 59 (.move (.tmp 7)) 1,
      op 60 (.binOp .add 0 (.global 59) (.const (I 1)) 0) 1,
      op 7 (.move (.global 60))]))))))
(.seq (.seq (reg [op 87 (call (.func 571) #[(.tmp 6)]) 1,
  op 88 (.move (.tmp 0)) 1,
  op 89 (.binOp .neq 0 (.global 87) (.global 88) 0)])
(.cond (.tmp 89)
  (.seq (reg [op 90 (.build 0 #[(0, (.const (.agg #[(I 0), (I 0), (sl 0 0 0 0)])))]) 1,
    op 2 (.insert 3 (.tmp 2) (.tmp 2) (.global 90)),
    op 3 (.move (.const (I 4)))])
  .ret)
  .skip))
(.seq (reg [op 91 (.load 4 (.tmp 6)) 1,
  op 2 (.insert 3 (.tmp 2) (.tmp 2) (.global 91)),
  op 3 (.move (.const (I 0)))])
.ret)))))))))), [(2, 1000004), (3, 0)]⟩

/-- impl.summed -/
def fn191 : AFun := ⟨1,
(.seq (reg [op 2 (.move (.const (S [])))])
(.seq (reg [op 4 (.move (.tmp 0)) 1,
  op 5 (call (.func 64) #[(.global 4)]) 1,
  op 3 (.move (.global 5))])
(.seq (reg [op 6 (.move (.tmp 0)) 1,
  op 7 (.move (.tmp 3)) 1,
  op 8 (.binOp .quo 0 (.global 7) (.const (I 256)) 0) 1,
  op 9 (.convert 0 4 (.global 8)) 1,
  op 10 (.move (.tmp 3)) 1,
  op 11 (.binOp .rem 0 (.global 10) (.const (I 256)) 0) 1,
  op 12 (.convert 0 4 (.global 11)) 1,
  op 13 (.buildSlice 1 2 #[(0, (.const (.agg #[(U 0), (U 0)]))), (1, (.global 9)), (1001, (.global 12))]) 1,
  op 14 (.convert 0 21 (.global 13)) 1,
  op 15 (.binOp .add 0 (.global 6) (.global 14) 0) 1,
  op 2 (.move (.global 15))])
.ret))), [(2, 0)]⟩

/-- impl.unpackPanel -/
def fn195 : AFun := ⟨1,
(.seq (reg [op 2 (.move (.const (.agg #[(I 0), (I 0), (sl 0 0 0 0)]))),
  op 3 (.move (.const (B false)))])
(.seq (.seq (reg [op 7 (.move (.tmp 0)) 1,
  op 8 (bi .len #[(.global 7)] 0) 1,
  op 9 (.binOp .lss 0 (.global 8) (.const (I 5)) 0) 1,
  op 10 (.move (.global 9)) 1,
  op 11 (.move (.tmp 0)) 1 (some (21, false)),
  op 12 (.index 0 (.global 11) (.const (I 1))) 1 (some (21, false)),
  op 13 (.convert 0 3 (.global 12)) 1 (some (21, false)),
  op 14 (.move (.tmp 0)) 1 (some (21, false)),
  op 15 (.index 0 (.global 14) (.const (I 2))) 1 (some (21, false)),
  op 16 (.convert 0 3 (.global 15)) 1 (some (21, false)),
  op 17 (call (.func 198) #[(.global 13), (.global 16)]) 1 (some (21, false)),
  op 18 (.unOp .not 0 (.global 17)) 1 (some (21, false)),
  op 19 (.pick (.global 10) (.const (B true)) (.global 18)) 1,
  op 20 (.move (.global 19)) 1,
  op 21 (.move (.tmp 0)) 1 (some (41, false)),
  op 22 (bi .len #[(.global 21)] 0) 1 (some (41, false)),
  op 23 (.move (.tmp 0)) 1 (some (41, false)),
  op 24 (.index 0 (.global 23) (.const (I 1))) 1 (some (41, false)),
  op 25 (.convert 0 3 (.global 24)) 1 (some (41, false)),
  op 26 (.move (.tmp 0)) 1 (some (41, false)),
  op 27 (.index 0 (.global 26) (.const (I 2))) 1 (some (41, false)),
  op 28 (.convert 0 3 (.global 27)) 1 (some (41, false)),
  op 29 (call (.func 181) #[(.global 25), (.global 28)]) 1 (some (41, false)),
  op 30 (.binOp .neq 0 (.global 22) (.global 29) 0) 1 (some (41, false)),
  op 31 (.pick (.global 20) (.const (B true)) (.global 30))])
(.cond (.tmp 31)
  (.seq (reg [op 32 (.build 0 #[(0, (.const (.agg #[(I 0), (I 0), (sl 0 0 0 0)])))]) 1,
    op 2 (.insert 3 (.tmp 2) (.tmp 2) (.global 32)),
    op 3 (.move (.const (B false)))])
  .ret)
  .skip))
(.seq (reg [op 33 (.move (.tmp 0)) 1,
  op 34 (.index 0 (.global 33) (.const (I 1))) 1,
  op 35 (.convert 0 3 (.global 34)) 1,
  op 36 (.move (.tmp 0)) 1,
  op 37 (.index 0 (.global 36) (.const (I 2))) 1,
  op 38 (.convert 0 3 (.global 37)) 1,
  op 39 (call (.func 177) #[(.global 35), (.global 38)]) 1,
  op 4 (.move (.const (.agg #[(I 0), (I 0), (sl 0 0 0 0)]))),
  op 4 (.insert 3 (.tmp 4) (.tmp 4) (.global 39))])
(.seq (.seq (reg [op 40 (.fieldAddr 2 (.tmp 4) 1) 1,
  op 41 (.lookup 0 (.tmp 4) (.global 40) false) 1,
  op 42 (bi .len #[(.global 41)] 1),
  op 43 (.move (.const (I 0)))])
(.block 0
  (.loop
    (.seq (reg [op 44 (.binOp .lss 0 (.tmp 43) (.tmp 42) 0)])
    (.seq (.cond (.tmp 44)
      .skip
      (.exit 0))
    (.seq (.block 1
      (.seq (reg [op 45 (.move (.tmp 43)) 1,
        op 5 (.move (.global 45))])
      (.seq (reg [op 46 (.move (.tmp 0)) 1,
        op 47 (.move (.tmp 5)) 1,
        op 48 (.binOp .quo 0 (.global 47) (.const (I 5)) 0) 1,
        op 49 (.binOp .add 0 (.const (I 3)) (.global 48) 0) 1,
        op 50 (.index 0 (.global 46) (.global 49)) 1,
        op 51 (.convert 0 3 (.global 50)) 1,
        op 6 (.move (.global 51))])
      (.seq (.seq (reg [op 52 (.move (.tmp 5)) 1,
        op 53 (.binOp .rem 0 (.global 52) (.const (I 5)) 0) 1,
        op 54 (.binOp .sub 0 (.const (I 4)) (.global 53) 0),
        op 55 (.move (.const (I 0)))])
      (.block 2
        (.loop
          (.seq (reg [op 56 (.binOp .lss 0 (.tmp 55) (.tmp 54) 0)])
          (.seq (.cond (.tmp 56)
            .skip
            (.exit 2))
          (.seq (.block 3
            (reg [op 57 (.move (.tmp 6)) 1,
              op 58 (.binOp .quo 0 (.global 57) (.const (I 3)) 0) 1,
              op 6 (.move (.global 58))]))
          (reg [op 59 (.binOp .add 0 (.tmp 55) (.const (I 1)) 0) 1,
            op 55 (.move (.global 59))])))))))
      (reg [op 60 (.fieldAddr 2 (.tmp 4) 1) 1,
        op 61 (.lookup 0 (.tmp 4) (.global 60) false) 1,
        op 62 (.move (.tmp 5)) 1,
        op 63 (.move (.tmp 6)) 1,
        op 64 (.binOp .rem 0 (.global 63) (.const (I 3)) 0) 1,
        op 65 (.indexAddr 3 (.global 61) (.global 62)) 1,
        opn (.store 1 (.global 65) (.global 64))])))))
    (reg [op 66 (.binOp .add 0 (.tmp 43) (.const (I 1)) 0) 1,
      op 43 (.move (.global 66))])))))))
(.seq (reg [op 67 (.lookup 4 (.tmp 4) (.tmp 4) false) 1,
  op 68 (.lookup 4 (.tmp 4) (.tmp 4) false) 1,
  op 69 (call (.func 180) #[(.global 68)]) 1,
  op 70 (.move (.tmp 0)) 1,
  op 71 (.binOp .eql 0 (.global 69) (.global 70) 0) 1,
  op 2 (.insert 3 (.tmp 2) (.tmp 2) (.global 67)),
  op 3 (.move (.global 71))])
.ret))))), [(2, 1000004), (3, 0)]⟩

/-- spec.l02New -/
def fn450 : AFun := ⟨2,
(.seq (reg [op 4 (.move (.const (.agg #[(I 0), (I 0), (sl 0 0 0 0)])))])
(.seq (reg [op 5 (.move (.tmp 0)) 1,
  op 6 (.move (.tmp 1)) 1,
  op 7 (.move (.tmp 0)) 1,
  op 8 (.move (.tmp 1)) 1,
  op 9 (call (.func 448) #[(.global 7), (.global 8)]) 1,
  op 10 (.mapUpdate 1 (.global 9) (.global 9) (.const (.agg #[(I 0)]))) 1,
  op 11 (.build 0 #[(0, (.const (.agg #[(I 0), (I 0), (sl 0 0 0 0)]))), (1, (.global 5)), (1001, (.global 6)), (2001, (.global 10))]) 1,
  op 4 (.insert 3 (.tmp 4) (.tmp 4) (.global 11))])
.ret)), [(4, 1000004)]⟩

/-- impl.newPanel -/
def fn177 : AFun := ⟨2,
(.seq (reg [op 4 (.move (.const (.agg #[(I 0), (I 0), (sl 0 0 0 0)])))])
(.seq (reg [op 5 (.move (.tmp 0)) 1,
  op 6 (.move (.tmp 1)) 1,
  op 7 (.move (.tmp 0)) 1,
  op 8 (.move (.tmp 1)) 1,
  op 9 (call (.func 166) #[(.global 7), (.global 8)]) 1,
  op 10 (.mapUpdate 1 (.global 9) (.global 9) (.const (.agg #[(I 0)]))) 1,
  op 11 (.build 0 #[(0, (.const (.agg #[(I 0), (I 0), (sl 0 0 0 0)]))), (1, (.global 5)), (1001, (.global 6)), (2001, (.global 10))]) 1,
  op 4 (.insert 3 (.tmp 4) (.tmp 4) (.global 11))])
.ret)), [(4, 1000004)]⟩

/-- spec.l25Text -/
def fn553 : AFun := ⟨1,
(.seq (reg [op 2 (.move (.const (S [])))])
(.seq (reg [op 5 (.move (.const (sl 0 0 0 1))) 1,
  op 3 (.move (.global 5))])
(.seq (.seq (reg [op 4 (.move (.const (I 0)))])
(.block 0
  (.loop
    (.seq (.seq (reg [op 6 (.move (.tmp 4)) 1,
      op 7 (.move (.tmp 0)) 1,
      op 8 (bi .len #[(.global 7)] 1) 1,
      op 9 (.binOp .lss 0 (.global 6) (.global 8) 0)])
    (.cond (.tmp 9)
      .skip
      (.exit 0)))
    (.seq (.block 1
      (.seq (.seq (reg [op 12 (.move (.tmp 4)) 1,
        op 13 (.binOp .gtr 0 (.global 12) (.const (I 0)) 0)])
      (.cond (.tmp 13)
        (reg [op 14 (.move (.tmp 3)) 1,
          op 15 (.buildSlice 1 1 #[(0, (.const (.agg #[(U 0)]))), (1, (.const (U 32)))]) 1,
          op 16 (bi .append #[(.global 14), (.global 15)] 1) 1,
          op 3 (.move (.global 16))])
        .skip))
      (.seq (reg [op 17 (.move (.tmp 3)) 1,
        op 18 (.move (.tmp 0)) 1,
        op 19 (.move (.tmp 4)) 1,
        op 20 (.indexAddr 7 (.global 18) (.global 19)) 1,
        op 21 (.fieldAddr 0 (.global 20) 0) 1,
        op 22 (.load 0 (.global 21)) 1,
        op 23 (call (.func 437) #[(.global 22)]) 1,
        op 24 (bi .append #[(.global 17), (.global 23)] 1) 1,
        op 3 (.move (.global 24))])
      (reg [op 25 (.move (.tmp 3)) 1,
        op 26 (.move (.tmp 0)) 1,
        op 27 (.move (.tmp 4)) 1,
        op 28 (.indexAddr 7 (.global 26) (.global 27)) 1,
        op 29 (.fieldAddr 1 (.global 28) 0) 1,
        op 30 (.load 0 (.global 29)) 1,
        op 31 (call (.func 470) #[(.global 30)]) 3,
        op 32 (.move (.tmp 0)) 1,
        op 33 (.move (.tmp 4)) 1,
        op 34 (.indexAddr 7 (.global 32) (.global 33)) 1,
        op 35 (.fieldAddr 2 (.global 34) 0) 1,
        op 36 (.load 0 (.global 35)) 1,
        op 37 (call (.func 470) #[(.global 36)]) 1,
        op 38 (.buildSlice 1 2 #[(0, (.const (.agg #[(U 0), (U 0)]))), (1, (.global 31)), (1001, (.global 37))]) 1,
        op 39 (bi .append #[(.global 25), (.global 38)] 1) 1,
        op 3 (.move (.global 39))]))))
    (reg [op 10 (.move (.tmp 4)) 1,
      op 11 (.binOp .add 0 (.global 10) (.const (I 1)) 0) 1,
      op 4 (.move (.global 11))]))))))
(.seq (reg [op 40 (.move (.tmp 3)) 1,
  op 41 (.convert 0 21 (.global 40)) 1,
  op 2 (.move (.global 41))])
.ret)))), [(2, 0)]⟩

/-- impl.joined -/
def fn167 : AFun := ⟨2,
(.seq (reg [op 4 (.move (.const (S [])))])
(.seq (reg [op 5 (.move (.const (S [])))])
(.seq (.seq (reg [op 8 (.move (.tmp 0)),
  op 9 (bi .len #[(.tmp 8)] 1),
  op 10 (.move (.const (I 0)))])
(.block 0
  (.loop
    (.seq (reg [op 11 (.binOp .lss 0 (.tmp 10) (.tmp 9) 0)])
    (.seq (.cond (.tmp 11)
      .skip
      (.exit 0))
    (.seq (.block 1
      (.seq (reg [op 12 (.move (.tmp 10)) 1,
        op 13 (.indexAddr 3 (.tmp 8) (.tmp 10)) 1,
        op 14 (.load 0 (.global 13)) 1,
        op 6 (.move (.global 12)),
        op 7 (.move (.global 14))])
      (.seq (.seq (reg [op 15 (.move (.tmp 6)) 1,
        op 16 (.binOp .gtr 0 (.global 15) (.const (I 0)) 0)])
      (.cond (.tmp 16)
        (reg [op 17 (.move (.tmp 5)) 1,
          op 18 (.move (.tmp 1)) 1,
          op 19 (.binOp .add 0 (.global 17) (.global 18) 0) 1,
          op 5 (.move (.global 19))])
        .skip))
      (reg [op 20 (.move (.tmp 5)) 1,
        op 21 (.move (.tmp 7)) 1,
        op 22 (.binOp .add 0 (.global 20) (.global 21) 0) 1,
        op 5 (.move (.global 22))]))))
    (reg [op 23 (.binOp .add 0 (.tmp 10) (.const (I 1)) 0) 1,
      op 10 (.move (.global 23))])))))))
(.seq (reg [op 24 (.move (.tmp 5)) 1,
  op 4 (.move (.global 24))])
.ret)))), [(4, 0)]⟩

/-- spec.l27Pack -/
def fn571 : AFun := ⟨1,
(.seq (reg [op 2 (.move (.const (S [])))])
(.seq (reg [op 7 (.move (.tmp 0)) 1,
  op 8 (.nilCheck (.global 7)) 1,
  op 9 (.fieldAddr 0 (.global 8) 0) 1,
  op 10 (.load 0 (.global 9)) 1,
  op 11 (.convert 0 4 (.global 10)) 1,
  op 12 (.move (.tmp 0)) 1,
  op 13 (.nilCheck (.global 12)) 1,
  op 14 (.fieldAddr 1 (.global 13) 0) 1,
  op 15 (.load 0 (.global 14)) 1,
  op 16 (.convert 0 4 (.global 15)) 1,
  op 17 (.buildSlice 1 3 #[(0, (.const (.agg #[(U 0), (U 0), (U 0)]))), (1, (.const (U 77))), (1001, (.global 11)), (2001, (.global 16))]) 1,
  op 3 (.move (.global 17))])
(.seq (.seq (reg [op 4 (.move (.const (I 0)))])
(.block 0
  (.loop
    (.seq (.seq (reg [op 18 (.move (.tmp 4)) 1,
      op 19 (.move (.tmp 0)) 1,
      op 20 (.nilCheck (.global 19)) 1,
      op 21 (.fieldAddr 2 (.global 20) 0) 1,
      op 22 (.load 0 (.global 21)) 1,
      op 23 (bi .len #[(.global 22)] 1) 1,
      op 24 (.binOp .lss 0 (.global 18) (.global 23) 0)])
    (.cond (.tmp 24)
      .skip
      (.exit 0)))
    (.seq (.block 1
      (.seq (reg [op 5 (.move (.const (I 0)))])
      (.seq (.seq (reg [op 27 (.move (.tmp 4)) 1,
        op 6 (.move (.global 27))])
      (.block 2
        (.loop
          (.seq (.seq (reg [op 28 (.move (.tmp 6)) 1,
            op 29 (.move (.tmp 4)) 1,
            op 30 (.binOp .add 0 (.global 29) (.const (I 5)) 0) 1,
            op 31 (.binOp .lss 0 (.global 28) (.global 30) 0)])
          (.cond (.tmp 31)
            .skip
            (.exit 2)))
          (.seq (.block 3
            (.seq (reg [op 34 (.move (.tmp 5)) 1,
              op 35 (.binOp .mul 0 (.global 34) (.const (I 3)) 0) 1,
              op 5 (.move (.global 35))])
            (.seq (reg [op 36 (.move (.tmp 6)) 1,
              op 37 (.move (.tmp 0)) 1,
              op 38 (.nilCheck (.global 37)) 1,
              op 39 (.fieldAddr 2 (.global 38) 0) 1,
              op 40 (.load 0 (.global 39)) 1,
              op 41 (bi .len #[(.global 40)] 1) 1,
              op 42 (.binOp .lss 0 (.global 36) (.global 41) 0)])
            (.cond (.tmp 42)
              (reg [op 43 (.move (.tmp 5)) 1,
                op 44 (.move (.tmp 0)) 1,
                op 45 (.nilCheck (.global 44)) 1,
                op 46 (.fieldAddr 2 (.global 45) 0) 1,
                op 47 (.load 0 (.global 46)) 1,
                op 48 (.move (.tmp 6)) 1,
                op 49 (.indexAddr 3 (.global 47) (.global 48)) 1,
                op 50 (.load 0 (.global 49)) 1,
                op 51 (.binOp .add 0 (.global 43) (.global 50) 0) 1,
                op 5 (.move (.global 51))])
              .skip))))
          (reg [op 32 (.move (.tmp 6)) 1,
            op 33 (.binOp .add 0 (.global 32) (.const (I 1)) 0) 1,
            op 6 (.move (.global 33))]))))))
      (reg [op 52 (.move (.tmp 3)) 1,
        op 53 (.move (.tmp 5)) 1,
        op 54 (.convert 0 4 (.global 53)) 1,
        op 55 (.buildSlice 1 1 #[(0, (.const (.agg #[(U 0)]))), (1, (.global 54))]) 1,
        op 56 (bi .append #[(.global 52), (.global 55)] 1) 1,
        op 3 (.move (.global 56))]))))
    (reg [op 25 (.move (.tmp 4)) 1,
      op 26 (.binOp .add 0 (.global 25) (.const (I 5)) 0) 1,
      op 4 (.move (.global 26))]))))))
(.seq (reg [op 57 (.move (.tmp 3)) 1,
  op 58 (call (.func 568) #[(.global 57)]) 1,
  op 2 (.move (.global 58))])
.ret)))), [(2, 0)]⟩

/-- impl.packPanel -/
def fn180 : AFun := ⟨1,
(.seq (reg [op 1 (.makeChan 3 (.tmp 0)),
  op 2 (.move (.const (S [])))])
(.seq (reg [op 7 (.fieldAddr 0 (.tmp 1) 1) 1,
  op 8 (.lookup 0 (.tmp 1) (.global 7) false) 1,
  op 9 (.convert 0 4 (.global 8)) 1,
  op 10 (.fieldAddr 1 (.tmp 1) 1) 1,
  op 11 (.lookup 0 (.tmp 1) (.global 10) false) 1,
  op 12 (.convert 0 4 (.global 11)) 1,
  op 13 (.buildSlice 1 3 #[(0, (.const (.agg #[(U 0), (U 0), (U 0)]))), (1, (.const (U 77))), (1001, (.global 9)), (2001, (.global 12))]) 1,
  op 3 (.move (.global 13))])
(.seq (.seq (reg [op 4 (.move (.const (I 0)))])
(.block 0
  (.loop
    (.seq (.seq (reg [op 14 (.move (.tmp 4)) 1,
      op 15 (.fieldAddr 2 (.tmp 1) 1) 1,
      op 16 (.lookup 0 (.tmp 1) (.global 15) false) 1,
      op 17 (bi .len #[(.global 16)] 1) 1,
      op 18 (.binOp .lss 0 (.global 14) (.global 17) 0)])
    (.cond (.tmp 18)
      .skip
      (.exit 0)))
    (.seq (.block 1
      (.seq (reg [op 5 (.move (.const (U 0)))])
      (.seq (.seq (reg [op 21 (.move (.tmp 4)) 1,
        op 6 (.move (.global 21))])
      (.block 2
        (.loop
          (.seq (.seq (reg [op 22 (.move (.tmp 6)) 1,
            op 23 (.move (.tmp 4)) 1,
            op 24 (.binOp .add 0 (.global 23) (.const (I 5)) 0) 1,
            op 25 (.binOp .lss 0 (.global 22) (.global 24) 0)])
          (.cond (.tmp 25)
            .skip
            (.exit 2)))
          (.seq (.block 3
            (.seq (reg [op 28 (.move (.tmp 5)) 1,
              op 29 (.binOp .mul 0 (.global 28) (.const (U 3)) 0) 1,
              op 5 (.move (.global 29))])
            (.seq (reg [op 30 (.move (.tmp 6)) 1,
              op 31 (.fieldAddr 2 (.tmp 1) 1) 1,
              op 32 (.lookup 0 (.tmp 1) (.global 31) false) 1,
              op 33 (bi .len #[(.global 32)] 1) 1,
              op 34 (.binOp .lss 0 (.global 30) (.global 33) 0)])
            (.cond (.tmp 34)
              (reg [op 35 (.move (.tmp 5)) 1,
                op 36 (.fieldAddr 2 (.tmp 1) 1) 1,
                op 37 (.lookup 0 (.tmp 1) (.global 36) false) 1,
                op 38 (.move (.tmp 6)) 1,
                op 39 (.indexAddr 3 (.global 37) (.global 38)) 1,
                op 40 (.load 0 (.global 39)) 1,
                op 41 (.convert 0 4 (.global 40)) 1,
                op 42 (.binOp .add 0 (.global 35) (.global 41) 0) 1,
                op 5 (.move (.global 42))])
              .skip))))
          (reg [op 26 (.move (.tmp 6)) 1,
            op 27 (.binOp .add 0 (.global 26) (.const (I 1)) 0) 1,
            op 6 (.move (.global 27))]))))))
      (reg [op 43 (.move (.tmp 3)) 1,
        op 44 (.move (.tmp 5)) 1,
        op 45 (.buildSlice 1 1 #[(0, (.const (.agg #[(U 0)]))), (1, (.global 44))]) 1,
        op 46 (bi .append #[(.global 43), (.global 45)] 1) 1,
        op 3 (.move (.global 46))]))))
    (reg [op 19 (.move (.tmp 4)) 1,
      op 20 (.binOp .add 0 (.global 19) (.const (I 5)) 0) 1,
      op 4 (.move (.global 20))]))))))
(.seq (reg [op 47 (.move (.tmp 3)) 1,
  op 48 (.convert 0 21 (.global 47)) 1,
  op 49 (call (.func 191) #[(.global 48)]) 1,
  op 2 (.move (.global 49))])
.ret)))), [(2, 0)]⟩
end Am
