/- The functions that are reached, in their normal form; written by a program. -/
import Derived.Test.YtaeaaogpdipjfaaAmTab2
set_option linter.unusedVariables false
set_option maxRecDepth 100000
namespace Am
open Go
/-- impl.validStep -/
def fn199 : AFun := ⟨2,
(.seq (reg [op 2 (.makeChan 3 (.tmp 0)),
  op 3 (.makeChan 3 (.tmp 1)),
  op 4 (.move (.const (B false)))])
(.seq (reg [op 5 (.fieldAddr 0 (.tmp 3) 1) 1,
  op 6 (.lookup 0 (.tmp 3) (.global 5) false) 1,
  op 7 (.fieldAddr 2 (.tmp 2) 1) 1,
  op 8 (.lookup 0 (.tmp 2) (.global 7) false) 1,
  op 9 (bi .len #[(.global 8)] 1) 1,
  op 10 (call (.func 163) #[(.global 6), (.global 9)]) 1,
  op 11 (.move (.global 10)) 1,
  op 12 (.fieldAddr 1 (.tmp 3) 1) 1 (some (45, true)),
  op 13 (.lookup 0 (.tmp 3) (.global 12) false) 1 (some (45, true)),
  op 14 (call (.func 196) #[(.global 13)]) 1 (some (45, true)),
  op 15 (.pick (.global 11) (.global 14) (.const (B false))) 1,
  op 16 (.move (.global 15)) 1,
  op 17 (.fieldAddr 2 (.tmp 3) 1) 1 (some (65, true)),
  op 18 (.lookup 0 (.tmp 3) (.global 17) false) 1 (some (65, true)),
  op 19 (call (.func 196) #[(.global 18)]) 1 (some (65, true)),
  op 20 (.pick (.global 16) (.global 19) (.const (B false))) 1,
  op 21 (.move (.global 20)) 1,
  op 22 (.fieldAddr 1 (.tmp 3) 1) 1 (some (85, true)),
  op 23 (.lookup 0 (.tmp 3) (.global 22) false) 1 (some (85, true)),
  op 24 (.fieldAddr 2 (.tmp 3) 1) 1 (some (85, true)),
  op 25 (.lookup 0 (.tmp 3) (.global 24) false) 1 (some (85, true)),
  op 26 (.binOp .neq 0 (.global 23) (.global 25) 0) 1 (some (85, true)),
  op 27 (.pick (.global 21) (.global 26) (.const (B false))) 1,
  op 4 (.move (.global 27))])
.ret)), [(4, 0)]⟩

/-- slices.Clone[[]int64,int64] -/
def fn308 : AFun := ⟨1,
(.seq (reg [op 2 (.move (.const (sl 0 0 0 0)))])
(.seq (.seq (reg [op 3 (.move (.tmp 0)) 1,
  op 4 (.binOp .eql 0 (.global 3) (.const (sl 0 0 0 0)) 1)])
(.cond (.tmp 4)
  (.seq (reg [op 2 (.move (.const (sl 0 0 0 0)))])
  .ret)
  .skip))
(.seq (reg [op 5 (.move (.const (sl 0 0 0 1))) 1,
  op 6 (.move (.tmp 0)) 1,
  op 7 (bi .append #[(.global 5), (.global 6)] 1) 1,
  op 2 (.move (.global 7))])
.ret))), [(2, 0)]⟩

/-- spec.l26Step -/
def fn562 : AFun := ⟨2,
(.seq (reg [op 3 (.makeChan 3 (.tmp 1)),
  op 4 (.move (.const (B false)))])
(.seq (reg [op 5 (.fieldAddr 0 (.tmp 3) 1) 1,
  op 6 (.lookup 0 (.tmp 3) (.global 5) false) 1,
  op 7 (.move (.tmp 0)) 1,
  op 8 (.nilCheck (.global 7)) 1,
  op 9 (.fieldAddr 2 (.global 8) 0) 1,
  op 10 (.load 0 (.global 9)) 1,
  op 11 (bi .len #[(.global 10)] 1) 1,
  op 12 (.binOp .sub 0 (.global 11) (.const (I 1)) 0) 1,
  op 13 (call (.func 432) #[(.global 6), (.const (I 0)), (.global 12)]) 1,
  op 14 (.move (.global 13)) 1,
  op 15 (.fieldAddr 1 (.tmp 3) 1) 1 (some (57, true)),
  op 16 (.lookup 0 (.tmp 3) (.global 15) false) 1 (some (57, true)),
  op 17 (call (.func 449) #[(.global 16)]) 1 (some (57, true)),
  op 18 (.pick (.global 14) (.global 17) (.const (B false))) 1,
  op 19 (.move (.global 18)) 1,
  op 20 (.fieldAddr 2 (.tmp 3) 1) 1 (some (77, true)),
  op 21 (.lookup 0 (.tmp 3) (.global 20) false) 1 (some (77, true)),
  op 22 (call (.func 449) #[(.global 21)]) 1 (some (77, true)),
  op 23 (.pick (.global 19) (.global 22) (.const (B false))) 1,
  op 24 (.move (.global 23)) 1,
  op 25 (.fieldAddr 1 (.tmp 3) 1) 1 (some (97, true)),
  op 26 (.lookup 0 (.tmp 3) (.global 25) false) 1 (some (97, true)),
  op 27 (.fieldAddr 2 (.tmp 3) 1) 1 (some (97, true)),
  op 28 (.lookup 0 (.tmp 3) (.global 27) false) 1 (some (97, true)),
  op 29 (.binOp .neq 0 (.global 26) (.global 28) 0) 1 (some (97, true)),
  op 30 (.pick (.global 24) (.global 29) (.const (B false))) 1,
  op 4 (.move (.global 30))])
.ret)), [(4, 0)]⟩

/-- (impl.Panel).trace -/
def fn55 : AFun := ⟨1,
(.seq (reg [op 1 (.makeChan 3 (.tmp 0)),
  op 2 (.move (.const (sl 0 0 0 0))),
  op 3 (.move (.const (sl 0 0 0 0)))])
(.seq (reg [op 10 (.move (.const (sl 0 0 0 1))) 1,
  op 4 (.move (.global 10))])
(.seq (reg [op 11 (.lookup 4 (.tmp 1) (.tmp 1) false) 1,
  op 12 (call (.func 51) #[(.global 11)]) 1,
  op 13 (.mapUpdate 1 (.global 12) (.global 12) (.const (.agg #[(I 0)]))) 1,
  op 5 (.move (.global 13))])
(.seq (.seq (reg [op 14 (.move (.tmp 5)) 1,
  op 15 (bi .len #[(.global 14)] 1),
  op 16 (.move (.const (I 0)))])
(.block 0
  (.loop
    (.seq (reg [op 17 (.binOp .lss 0 (.tmp 16) (.tmp 15) 0)])
    (.seq (.cond (.tmp 17)
      .skip
      (.exit 0))
    (.seq (.block 1
      (.seq (reg [op 18 (.move (.tmp 16)) 1,
        op 6 (.move (.global 18))])
      (reg [op 19 (.move (.tmp 5)) 1,
        op 20 (.move (.tmp 6)) 1,
        op 21 (.indexAddr 3 (.global 19) (.global 20)) 1,
        opn (.store 1 (.global 21) (.const (I (-1))))])))
    (reg [op 22 (.binOp .add 0 (.tmp 16) (.const (I 1)) 0) 1,
      op 16 (.move (.global 22))])))))))
(.seq (.seq (reg [op 23 (.lookup 4 (.tmp 1) (.tmp 1) false) 1,
  op 24 (call (.func 51) #[(.global 23)]),
  op 25 (.move (.const (I 0)))])
(.block 2
  (.loop
    (.seq (reg [op 26 (.binOp .lss 0 (.tmp 25) (.tmp 24) 0)])
    (.seq (.cond (.tmp 26)
      .skip
      (.exit 2))
    (.seq (.block 3
      (.seq (reg [op 27 (.move (.tmp 25)) 1,
        op 7 (.move (.global 27))])
      (.seq (.seq (reg [op 28 (.move (.tmp 5)) 1,
        op 29 (.move (.tmp 7)) 1,
        op 30 (.indexAddr 3 (.global 28) (.global 29)) 1,
        op 31 (.load 0 (.global 30)) 1,
        op 32 (.binOp .geq 0 (.global 31) (.const (I 0)) 0)])
      (.cond (.tmp 32)
        (.exit 3)
        .skip))
      (.seq (reg [op 33 (.move (.const (sl 0 0 0 4))) 1,
        op 8 (.move (.global 33))])
      (.seq (.seq (reg [op 34 (.lookup 4 (.tmp 1) (.tmp 1) false) 1,
        op 35 (.move (.tmp 7)) 1,
        op 36 (call (.func 56) #[(.global 34), (.global 35)]) 1,
        op 9 (.move (.const (.agg #[(I 0), (I 0), (I 0), (I 0)]))),
        op 9 (.insert 4 (.tmp 9) (.tmp 9) (.global 36))])
      (.block 4
        (.loop
          (.seq (.seq (reg [op 37 (.move (.tmp 5)) 1,
            op 38 (.lookup 4 (.tmp 1) (.tmp 1) false) 1,
            op 39 (.lookup 5 (.tmp 9) (.tmp 9) false) 1,
            op 40 (call (.func 50) #[(.global 38), (.global 39)]) 1,
            op 41 (.indexAddr 3 (.global 37) (.global 40)) 1,
            op 42 (.load 0 (.global 41)) 1,
            op 43 (.binOp .lss 0 (.global 42) (.const (I 0)) 0)])
          (.cond (.tmp 43)
            .skip
            (.exit 4)))
          (.seq (.block 5
            (.seq (reg [op 50 (.move (.tmp 5)) 1,
              op 51 (.lookup 4 (.tmp 1) (.tmp 1) false) 1,
              op 52 (.lookup 5 (.tmp 9) (.tmp 9) false) 1,
              op 53 (call (.func 50) #[(.global 51), (.global 52)]) 1,
              op 54 (.move (.tmp 4)) 1,
              op 55 (bi .len #[(.global 54)] 1) 1,
              op 56 (.indexAddr 3 (.global 50) (.global 53)) 1,
              opn (.store 1 (.global 56) (.global 55))])
            (reg [op 57 (.move (.tmp 8)) 1,
              op 58 (.lookup 5 (.tmp 9) (.tmp 9) false) 1,
              op 59 (.buildSlice 4 1 #[(0, (.const (.agg #[(I 0), (I 0), (I 0), (I 0)]))), (4, (.global 58))]) 1,
              op 60 (bi .append #[(.global 57), (.global 59)] 4) 1,
              op 8 (.move (.global 60))])))
          (.seq (.seq (reg [op 61 (.lookup 5 (.tmp 9) (.tmp 9) false)])
          (reg [op 9 (.move (.const (.agg #[(I 0), (I 0), (I 0), (I 0)]))),
            op 9 (.insert 4 (.tmp 9) (.tmp 9) (.tmp 61))]))
          (reg [op 45 (.lookup 4 (.tmp 1) (.tmp 1) false) 1,
            op 46 (.lookup 5 (.tmp 9) (.tmp 9) false) 1,
            op 47 (call (.func 54) #[(.global 45), (.global 46)]) 1,
            op 44 (.move (.global 47)) 1,
            op 48 (.extract (.global 44) 0) 1,
            op 49 (.extract (.global 44) 1) 1,
            op 9 (.insert 4 (.tmp 9) (.tmp 9) (.global 48))])))))))
      (reg [op 62 (.move (.tmp 4)) 1,
        op 63 (.move (.tmp 8)) 1,
        op 64 (.buildSlice 1 1 #[(0, (.const (.agg #[(sl 0 0 0 0)]))), (1, (.global 63))]) 1,
        op 65 (bi .append #[(.global 62), (.global 64)] 1) 1,
        op 4 (.move (.global 65))]))))))
    (reg [op 66 (.binOp .add 0 (.tmp 25) (.const (I 1)) 0) 1,
      op 25 (.move (.global 66))])))))))
(.seq (reg [op 67 (.move (.tmp 4)) 1,
  op 68 (.move (.tmp 5)) 1,
  op 2 (.move (.global 67)),
  op 3 (.move (.global 68))])
.ret)))))), [(2, 0), (3, 0)]⟩

/-- spec.l04All -/
def fn463 : AFun := ⟨1,
(.seq (reg [op 2 (.move (.const (sl 0 0 0 0))),
  op 3 (.move (.const (sl 0 0 0 0)))])
(.seq (reg [op 12 (.move (.tmp 0)) 1,
  op 13 (.nilCheck (.global 12)) 1,
  op 14 (.fieldAddr 0 (.global 13) 0) 1,
  op 15 (.load 0 (.global 14)) 1,
  op 16 (.binOp .mul 0 (.const (I 4)) (.global 15) 0) 1,
  op 17 (.move (.tmp 0)) 1,
  op 18 (.nilCheck (.global 17)) 1,
  op 19 (.fieldAddr 1 (.global 18) 0) 1,
  op 20 (.load 0 (.global 19)) 1,
  op 21 (.binOp .mul 0 (.global 16) (.global 20) 0) 1,
  op 4 (.move (.global 21))])
(.seq (reg [op 22 (.move (.tmp 4)) 1,
  op 23 (.mapUpdate 1 (.global 22) (.global 22) (.const (.agg #[(I 0)]))) 1,
  op 5 (.move (.global 23))])
(.seq (.seq (reg [op 6 (.move (.const (I 0)))])
(.block 0
  (.loop
    (.seq (.seq (reg [op 24 (.move (.tmp 6)) 1,
      op 25 (.move (.tmp 4)) 1,
      op 26 (.binOp .lss 0 (.global 24) (.global 25) 0)])
    (.cond (.tmp 26)
      .skip
      (.exit 0)))
    (.seq (.block 1
      (reg [op 29 (.move (.tmp 5)) 1,
        op 30 (.move (.tmp 6)) 1,
        op 31 (.indexAddr 3 (.global 29) (.global 30)) 1,
        opn (.store 1 (.global 31) (.const (I (-1))))]))
    (reg [op 27 (.move (.tmp 6)) 1,
      op 28 (.binOp .add 0 (.global 27) (.const (I 1)) 0) 1,
      op 6 (.move (.global 28))]))))))
(.seq (reg [op 32 (.move (.const (sl 0 0 0 1))) 1,
  op 7 (.move (.global 32))])
(.seq (.seq (reg [op 8 (.move (.const (I 0)))])
(.block 2
  (.loop
    (.seq (.seq (reg [op 33 (.move (.tmp 8)) 1,
      op 34 (.move (.tmp 4)) 1,
      op 35 (.binOp .lss 0 (.global 33) (.global 34) 0)])
    (.cond (.tmp 35)
      .skip
      (.exit 2)))
    (.seq (.block 3
      (.seq (.seq (reg [op 38 (.move (.tmp 5)) 1,
        op 39 (.move (.tmp 8)) 1,
        op 40 (.indexAddr 3 (.global 38) (.global 39)) 1,
        op 41 (.load 0 (.global 40)) 1,
        op 42 (.binOp .geq 0 (.global 41) (.const (I 0)) 0)])
      (.cond (.tmp 42)
        (.exit 3)
        .skip))
      (.seq (reg [op 44 (.move (.tmp 0)) 1,
        op 45 (.move (.tmp 0)) 1,
        op 46 (.move (.tmp 8)) 1,
        op 47 (call (.func 462) #[(.global 45), (.global 46)]) 1,
        op 48 (call (.func 466) #[(.global 44), (.global 47)]) 1,
        op 43 (.move (.global 48)) 1,
        op 49 (.extract (.global 43) 0) 1,
        op 50 (.extract (.global 43) 1) 1,
        op 9 (.move (.global 49)),
        op 10 (.move (.global 50))])
      (.seq (.seq (reg [op 11 (.move (.const (I 0)))])
      (.block 4
        (.loop
          (.seq (.seq (reg [op 51 (.move (.tmp 11)) 1,
            op 52 (.move (.tmp 10)) 1,
            op 53 (bi .len #[(.global 52)] 1) 1,
            op 54 (.binOp .lss 0 (.global 51) (.global 53) 0)])
          (.cond (.tmp 54)
            .skip
            (.exit 4)))
          (.seq (.block 5
            (reg [op 57 (.move (.tmp 5)) 1,
              op 58 (.move (.tmp 10)) 1,
              op 59 (.move (.tmp 11)) 1,
              op 60 (.indexAddr 3 (.global 58) (.global 59)) 1,
              op 61 (.load 0 (.global 60)) 1,
              op 62 (.move (.tmp 7)) 1,
              op 63 (bi .len #[(.global 62)] 1) 1,
              op 64 (.indexAddr 3 (.global 57) (.global 61)) 1,
              opn (.store 1 (.global 64) (.global 63))]))
          (reg [op 55 (.move (.tmp 11)) 1,
            op 56 (.binOp .add 0 (.global 55) (.const (I 1)) 0) 1,
            op 11 (.move (.global 56))]))))))
      (reg [op 65 (.move (.tmp 7)) 1,
        op 66 (.move (.tmp 9)) 1,
        op 67 (.buildSlice 1 1 #[(0, (.const (.agg #[(sl 0 0 0 0)]))), (1, (.global 66))]) 1,
        op 68 (bi .append #[(.global 65), (.global 67)] 1) 1,
        op 7 (.move (.global 68))])))))
    (reg [op 36 (.move (.tmp 8)) 1,
      op 37 (.binOp .add 0 (.global 36) (.const (I 1)) 0) 1,
      op 8 (.move (.global 37))]))))))
(.seq (reg [op 69 (.move (.tmp 7)) 1,
  op 70 (.move (.tmp 5)) 1,
  op 2 (.move (.global 69)),
  op 3 (.move (.global 70))])
.ret))))))), [(2, 0), (3, 0)]⟩

/-- slices.Clone[[]impl.JournalStep,impl.JournalStep] -/
def fn307 : AFun := ⟨1,
(.seq (reg [op 2 (.move (.const (sl 0 0 0 0)))])
(.seq (.seq (reg [op 3 (.move (.tmp 0)) 1,
  op 4 (.binOp .eql 0 (.global 3) (.const (sl 0 0 0 0)) 1)])
(.cond (.tmp 4)
  (.seq (reg [op 2 (.move (.const (sl 0 0 0 0)))])
  .ret)
  .skip))
(.seq (reg [op 5 (.move (.const (sl 0 0 0 3))) 1,
  op 6 (.move (.tmp 0)) 1,
  op 7 (bi .append #[(.global 5), (.global 6)] 3) 1,
  op 2 (.move (.global 7))])
.ret))), [(2, 0)]⟩

/-- slices.Insert[[]impl.JournalStep,impl.JournalStep] -/
def fn317 : AFun := ⟨3, .goto 6, []⟩

/-- slices.Delete[[]impl.JournalStep,impl.JournalStep] -/
def fn310 : AFun := ⟨3, .goto 7, []⟩

/-- spec.l00Own -/
def fn435 : AFun := ⟨1,
(.seq (reg [op 2 (.move (.const (sl 0 0 0 0)))])
(.seq (reg [op 3 (.move (.const (sl 0 0 0 1))) 1,
  op 4 (.move (.tmp 0)) 1,
  op 5 (bi .append #[(.global 3), (.global 4)] 1) 1,
  op 2 (.move (.global 5))])
.ret)), [(2, 0)]⟩

/-- spec.l05Sign -/
def fn470 : AFun := ⟨1,
(.seq (reg [op 2 (.move (.const (U 0)))])
(.seq (.seq (reg [op 3 (.move (.tmp 0))])
(.block 0
  (.seq (reg [op 5 (.binOp .eql 0 (.tmp 3) (.const (I 1)) 0) 1,
    op 4 (.move (.global 5))])
  (.cond (.tmp 4)
    (.seq (reg [op 2 (.move (.const (U 124)))])
    .ret)
    (.seq (reg [op 7 (.binOp .eql 0 (.tmp 3) (.const (I 2)) 0) 1,
      op 6 (.move (.global 7))])
    (.cond (.tmp 6)
      (.seq (reg [op 2 (.move (.const (U 45)))])
      .ret)
      .skip))))))
(.seq (reg [op 2 (.move (.const (U 43)))])
.ret))), [(2, 0)]⟩

/-- spec.l01Digit -/
def fn438 : AFun := ⟨1,
(.seq (reg [op 2 (.move (.const (B false)))])
(.seq (reg [op 3 (.move (.tmp 0)) 1,
  op 4 (.binOp .geq 0 (.global 3) (.const (U 48)) 0) 1,
  op 5 (.move (.global 4)) 1,
  op 6 (.move (.tmp 0)) 1 (some (21, true)),
  op 7 (.binOp .leq 0 (.global 6) (.const (U 57)) 0) 1 (some (21, true)),
  op 8 (.pick (.global 5) (.global 7) (.const (B false))) 1,
  op 2 (.move (.global 8))])
.ret)), [(2, 0)]⟩

/-- spec.l02Row -/
def fn455 : AFun := ⟨2,
(.seq (reg [op 4 (.move (.const (I 0)))])
(.seq (reg [op 5 (.move (.const (I 0)))])
(.seq (.seq (reg [op 6 (.move (.const (I 1)))])
(.block 0
  (.loop
    (.seq (.seq (reg [op 7 (.move (.tmp 6)) 1,
      op 8 (.move (.tmp 1)) 1,
      op 9 (.binOp .lss 0 (.global 7) (.global 8) 0)])
    (.cond (.tmp 9)
      .skip
      (.exit 0)))
    (.seq (.block 1
      (.seq (reg [op 12 (.move (.tmp 5)) 1,
        op 13 (.move (.tmp 0)) 1,
        op 14 (.nilCheck (.global 13)) 1,
        op 15 (.fieldAddr 0 (.global 14) 0) 1,
        op 16 (.load 0 (.global 15)) 1,
        op 17 (.binOp .add 0 (.global 12) (.global 16) 0) 1,
        op 5 (.move (.global 17))])
      (.seq (reg [op 18 (.move (.tmp 6)) 1,
        op 19 (.binOp .rem 0 (.global 18) (.const (I 2)) 0) 1,
        op 20 (.binOp .eql 0 (.global 19) (.const (I 1)) 0)])
      (.cond (.tmp 20)
        (reg [op 21 (.move (.tmp 5)) 1,
          op 22 (.binOp .sub 0 (.global 21) (.const (I 1)) 0) 1,
          op 5 (.move (.global 22))])
        .skip))))
    (reg [op 10 (.move (.tmp 6)) 1,
      op 11 (.binOp .add 0 (.global 10) (.const (I 1)) 0) 1,
      op 6 (.move (.global 11))]))))))
(.seq (reg [op 23 (.move (.tmp 5)) 1,
  op 4 (.move (.global 23))])
.ret)))), [(4, 0)]⟩

/-- laws.szInt64S -/
def fn290 : AFun := ⟨2,
(.seq (reg [op 4 (.move (.const (I 0)))])
(.seq (reg [op 5 (.move (.tmp 1)) 1,
  op 6 (.move (.tmp 0)) 1,
  op 7 (bi .len #[(.global 6)] 1) 1,
  op 8 (.binOp .sub 0 (.global 5) (.global 7) 0) 1,
  op 1 (.move (.global 8))])
(.seq (.seq (reg [op 9 (.move (.tmp 1)) 1,
  op 10 (.binOp .lss 0 (.global 9) (.const (I 0)) 0)])
(.cond (.tmp 10)
  (.seq (reg [op 4 (.move (.const (I (-1))))])
  .ret)
  .skip))
(.seq (reg [op 11 (.move (.tmp 1)) 1,
  op 4 (.move (.global 11))])
.ret)))), [(4, 0)]⟩

/-- laws.toInt64S -/
def fn297 : AFun := ⟨1,
(.seq (reg [op 2 (.move (.const (sl 0 0 0 0)))])
(.seq (reg [op 5 (.move (.tmp 0)) 1,
  op 6 (bi .len #[(.global 5)] 1) 1,
  op 7 (.mapUpdate 1 (.global 6) (.global 6) (.const (.agg #[(I 0)]))) 1,
  op 3 (.move (.global 7))])
(.seq (.seq (reg [op 4 (.move (.const (I 0)))])
(.block 0
  (.loop
    (.seq (.seq (reg [op 8 (.move (.tmp 4)) 1,
      op 9 (.move (.tmp 0)) 1,
      op 10 (bi .len #[(.global 9)] 1) 1,
      op 11 (.binOp .lss 0 (.global 8) (.global 10) 0)])
    (.cond (.tmp 11)
      .skip
      (.exit 0)))
    (.seq (.block 1
      (reg [op 14 (.move (.tmp 3)) 1,
        op 15 (.move (.tmp 4)) 1,
        op 16 (.move (.tmp 0)) 1,
        op 17 (.move (.tmp 4)) 1,
        op 18 (.indexAddr 3 (.global 16) (.global 17)) 1,
        op 19 (.load 0 (.global 18)) 1,
        op 20 (.indexAddr 3 (.global 14) (.global 15)) 1,
        opn (.store 1 (.global 20) (.global 19))]))
    (reg [op 12 (.move (.tmp 4)) 1,
      op 13 (.binOp .add 0 (.global 12) (.const (I 1)) 0) 1,
      op 4 (.move (.global 13))]))))))
(.seq (reg [op 21 (.move (.tmp 3)) 1,
  op 2 (.move (.global 21))])
.ret)))), [(2, 0)]⟩

/-- laws.toJournalStep -/
def fn299 : AFun := ⟨1,
(.seq (reg [op 1 (.makeChan 3 (.tmp 0)),
  op 2 (.move (.const (.agg #[(I 0), (I 0), (I 0)])))])
(.seq (reg [op 3 (.move (.const (.agg #[(I 0), (I 0), (I 0)])))])
(.seq (reg [op 4 (.fieldAddr 0 (.tmp 1) 1) 1,
  op 5 (.lookup 0 (.tmp 1) (.global 4) false) 1,
  op 6 (.fieldAddr 0 (.tmp 3) 1) 1,
  op 3 (.insert 1 (.tmp 3) (.global 6) (.global 5))])
(.seq (reg [op 7 (.fieldAddr 1 (.tmp 1) 1) 1,
  op 8 (.lookup 0 (.tmp 1) (.global 7) false) 1,
  op 9 (.fieldAddr 1 (.tmp 3) 1) 1,
  op 3 (.insert 1 (.tmp 3) (.global 9) (.global 8))])
(.seq (reg [op 10 (.fieldAddr 2 (.tmp 1) 1) 1,
  op 11 (.lookup 0 (.tmp 1) (.global 10) false) 1,
  op 12 (.fieldAddr 2 (.tmp 3) 1) 1,
  op 3 (.insert 1 (.tmp 3) (.global 12) (.global 11))])
(.seq (reg [op 13 (.lookup 4 (.tmp 3) (.tmp 3) false) 1,
  op 2 (.insert 3 (.tmp 2) (.tmp 2) (.global 13))])
.ret)))))), [(2, 1000004)]⟩

/-- laws.eqJournalStep -/
def fn261 : AFun := ⟨2,
(.seq (reg [op 2 (.makeChan 3 (.tmp 0)),
  op 3 (.makeChan 3 (.tmp 1)),
  op 4 (.move (.const (B false)))])
(.seq (.seq (reg [op 5 (.fieldAddr 0 (.tmp 2) 1) 1,
  op 6 (.lookup 0 (.tmp 2) (.global 5) false) 1,
  op 7 (.fieldAddr 0 (.tmp 3) 1) 1,
  op 8 (.lookup 0 (.tmp 3) (.global 7) false) 1,
  op 9 (.binOp .neq 0 (.global 6) (.global 8) 0)])
(.cond (.tmp 9)
  (.seq (reg [op 4 (.move (.const (B false)))])
  .ret)
  .skip))
(.seq (.seq (reg [op 10 (.fieldAddr 1 (.tmp 2) 1) 1,
  op 11 (.lookup 0 (.tmp 2) (.global 10) false) 1,
  op 12 (.fieldAddr 1 (.tmp 3) 1) 1,
  op 13 (.lookup 0 (.tmp 3) (.global 12) false) 1,
  op 14 (.binOp .neq 0 (.global 11) (.global 13) 0)])
(.cond (.tmp 14)
  (.seq (reg [op 4 (.move (.const (B false)))])
  .ret)
  .skip))
(.seq (.seq (reg [op 15 (.fieldAddr 2 (.tmp 2) 1) 1,
  op 16 (.lookup 0 (.tmp 2) (.global 15) false) 1,
  op 17 (.fieldAddr 2 (.tmp 3) 1) 1,
  op 18 (.lookup 0 (.tmp 3) (.global 17) false) 1,
  op 19 (.binOp .neq 0 (.global 16) (.global 18) 0)])
(.cond (.tmp 19)
  (.seq (reg [op 4 (.move (.const (B false)))])
  .ret)
  .skip))
(.seq (reg [op 4 (.move (.const (B true)))])
.ret))))), [(4, 0)]⟩

/-- spec.l23Draw -/
def fn529 : AFun := ⟨1,
(.seq (reg [op 2 (.move (.const (I 0))),
  op 3 (.move (.const (sl 0 0 0 0)))])
(.seq (reg [op 9 (.move (.tmp 0)) 1,
  op 10 (call (.func 7) #[(.global 9), (.const (I 5))]) 1,
  op 11 (.binOp .add 0 (.const (I 2)) (.global 10) 0) 1,
  op 4 (.move (.global 11))])
(.seq (reg [op 12 (.move (.const (sl 0 0 0 1))) 1,
  op 5 (.move (.global 12))])
(.seq (.seq (reg [op 13 (.move (.tmp 0)) 1,
  op 14 (call (.func 7) #[(.global 13), (.const (I 14))]) 1,
  op 6 (.move (.global 14))])
(.block 0
  (.loop
    (.seq (.seq (reg [op 15 (.move (.tmp 6)) 1,
      op 16 (.binOp .gtr 0 (.global 15) (.const (I 0)) 0)])
    (.cond (.tmp 16)
      .skip
      (.exit 0)))
    (.seq (.block 1
      (.seq (reg [op 19 (.move (.tmp 0)) 1,
        op 20 (.move (.tmp 4)) 1,
        op 21 (.binOp .sub 0 (.global 20) (.const (I 1)) 0) 1,
        op 22 (call (.func 7) #[(.global 19), (.global 21)]) 1,
        op 23 (.binOp .add 0 (.const (I 1)) (.global 22) 0) 1,
        op 7 (.move (.global 23))])
      (.seq (.seq (reg [op 24 (.move (.tmp 0)) 1,
        op 25 (call (.func 6) #[(.global 24), (.const (I 2))])])
      (.cond (.tmp 25)
        (reg [op 26 (.move (.tmp 7)) 1,
          op 27 (.unOp .neg 0 (.global 26)) 1,
          op 7 (.move (.global 27))])
        .skip))
      (.seq (.seq (reg [op 28 (.move (.tmp 5)) 1,
        op 29 (bi .len #[(.global 28)] 1) 1,
        op 30 (.binOp .gtr 0 (.global 29) (.const (I 0)) 0) 1,
        op 31 (.move (.global 30)) 1,
        op 32 (.move (.tmp 0)) 1 (some (125, true)),
        op 33 (call (.func 6) #[(.global 32), (.const (I 4))]) 1 (some (125, true)),
        op 34 (.pick (.global 31) (.global 33) (.const (B false)))])
      (.cond (.tmp 34)
        (reg [op 35 (.move (.tmp 5)) 1,
          op 36 (.move (.tmp 5)) 1,
          op 37 (bi .len #[(.global 36)] 1) 1,
          op 38 (.binOp .sub 0 (.global 37) (.const (I 1)) 0) 1,
          op 39 (.indexAddr 3 (.global 35) (.global 38)) 1,
          op 40 (.load 0 (.global 39)) 1,
          op 41 (.unOp .neg 0 (.global 40)) 1,
          op 7 (.move (.global 41))])
        .skip))
      (reg [op 42 (.move (.tmp 5)) 1,
        op 43 (.move (.tmp 7)) 1,
        op 44 (.buildSlice 1 1 #[(0, (.const (.agg #[(I 0)]))), (1, (.global 43))]) 1,
        op 45 (bi .append #[(.global 42), (.global 44)] 1) 1,
        op 5 (.move (.global 45))])))))
    (reg [op 17 (.move (.tmp 6)) 1,
      op 18 (.binOp .sub 0 (.global 17) (.const (I 1)) 0) 1,
      op 6 (.move (.global 18))]))))))
(.seq (.seq (reg [op 46 (.move (.tmp 0)) 1,
  op 47 (call (.func 7) #[(.global 46), (.const (I 20))])])
(.block 2
  (.seq (reg [op 49 (.binOp .eql 0 (.tmp 47) (.const (I 0)) 0) 1,
    op 48 (.move (.global 49))])
  (.cond (.tmp 48)
    (reg [op 50 (.move (.tmp 0)) 1,
      op 51 (.buildSlice 1 4 #[(0, (.const (.agg #[(I 0), (I 0), (I 0), (I 0)]))), (1, (.const (I 0))), (1001, (.const (I 1))), (2001, (.const (I 12))), (3001, (.const (I 13)))]) 1,
      op 52 (call (.func 4) #[(.global 50), (.global 51)]) 1,
      op 4 (.move (.global 52))])
    (.seq (reg [op 54 (.binOp .eql 0 (.tmp 47) (.const (I 1)) 0) 1,
      op 53 (.move (.global 54))])
    (.cond (.tmp 53)
      (.seq (reg [op 55 (.move (.tmp 5)) 1,
        op 56 (bi .len #[(.global 55)] 1) 1,
        op 57 (.binOp .gtr 0 (.global 56) (.const (I 0)) 0)])
      (.cond (.tmp 57)
        (reg [op 58 (.move (.tmp 5)) 1,
          op 59 (.move (.tmp 0)) 1,
          op 60 (.move (.tmp 4)) 1,
          op 61 (.move (.tmp 4)) 1,
          op 62 (.unOp .neg 0 (.global 61)) 1,
          op 63 (.buildSlice 1 4 #[(0, (.const (.agg #[(I 0), (I 0), (I 0), (I 0)]))), (1, (.const (I 0))), (1001, (.global 60)), (2001, (.global 62)), (3001, (.const (I (-9223372036854775808))))]) 1,
          op 64 (call (.func 4) #[(.global 59), (.global 63)]) 1,
          op 65 (.indexAddr 3 (.global 58) (.const (I 0))) 1,
          opn (.store 1 (.global 65) (.global 64))])
        .skip))
      (.seq (reg [op 67 (.binOp .eql 0 (.tmp 47) (.const (I 2)) 0) 1,
        op 66 (.move (.global 67))])
      (.cond (.tmp 66)
        (.seq (reg [op 68 (.move (.const (sl 0 0 0 1))) 1,
          op 5 (.move (.global 68))])
        (.seq (reg [op 69 (.move (.tmp 0)) 1,
          op 70 (call (.func 7) #[(.global 69), (.const (I 2))]) 1,
          op 71 (.binOp .add 0 (.const (I 200)) (.global 70) 0) 1,
          op 8 (.move (.global 71))])
        (.block 3
          (.loop
            (.seq (.seq (reg [op 72 (.move (.tmp 8)) 1,
              op 73 (.binOp .gtr 0 (.global 72) (.const (I 0)) 0)])
            (.cond (.tmp 73)
              .skip
              (.exit 3)))
            (.seq (.block 4
              (reg [op 76 (.move (.tmp 5)) 1,
                op 77 (.buildSlice 1 1 #[(0, (.const (.agg #[(I 0)]))), (1, (.const (I 1)))]) 1,
                op 78 (bi .append #[(.global 76), (.global 77)] 1) 1,
                op 5 (.move (.global 78))]))
            (reg [op 74 (.move (.tmp 8)) 1,
              op 75 (.binOp .sub 0 (.global 74) (.const (I 1)) 0) 1,
              op 8 (.move (.global 75))])))))))
        .skip))))))))
(.seq (reg [op 79 (.move (.tmp 4)) 1,
  op 80 (.move (.tmp 5)) 1,
  op 2 (.move (.global 79)),
  op 3 (.move (.global 80))])
.ret)))))), [(2, 0), (3, 0)]⟩

/-- spec.l23First -/
def fn530 : AFun := ⟨1,
(.seq (reg [op 2 (.move (.const (sl 0 0 0 0)))])
(.seq (reg [op 5 (.move (.const (sl 0 0 0 1))) 1,
  op 3 (.move (.global 5))])
(.seq (.seq (reg [op 4 (.move (.const (I 0)))])
(.block 0
  (.loop
    (.seq (.seq (reg [op 6 (.move (.tmp 4)) 1,
      op 7 (.move (.tmp 0)) 1,
      op 8 (.binOp .lss 0 (.global 6) (.global 7) 0)])
    (.cond (.tmp 8)
      .skip
      (.exit 0)))
    (.seq (.block 1
      (reg [op 11 (.move (.tmp 3)) 1,
        op 12 (.move (.tmp 4)) 1,
        op 13 (.buildSlice 1 1 #[(0, (.const (.agg #[(I 0)]))), (1, (.global 12))]) 1,
        op 14 (bi .append #[(.global 11), (.global 13)] 1) 1,
        op 3 (.move (.global 14))]))
    (reg [op 9 (.move (.tmp 4)) 1,
      op 10 (.binOp .add 0 (.global 9) (.const (I 1)) 0) 1,
      op 4 (.move (.global 10))]))))))
(.seq (reg [op 15 (.move (.tmp 3)) 1,
  op 2 (.move (.global 15))])
.ret)))), [(2, 0)]⟩

/-- spec.l23Swap -/
def fn534 : AFun := ⟨2,
(.seq (reg [op 6 (.move (.tmp 1)) 1,
  op 7 (call (.func 512) #[(.global 6)]) 1,
  op 4 (.move (.global 7))])
(.seq (reg [op 8 (.move (.tmp 0)) 1,
  op 9 (.move (.tmp 4)) 1,
  op 10 (.binOp .sub 0 (.global 9) (.const (I 1)) 0) 1,
  op 11 (.indexAddr 3 (.global 8) (.global 10)) 1,
  op 12 (.load 0 (.global 11)) 1,
  op 5 (.move (.global 12))])
(.seq (reg [op 13 (.move (.tmp 0)) 1,
  op 14 (.move (.tmp 4)) 1,
  op 15 (.binOp .sub 0 (.global 14) (.const (I 1)) 0) 1,
  op 16 (.move (.tmp 0)) 1,
  op 17 (.move (.tmp 4)) 1,
  op 18 (.indexAddr 3 (.global 16) (.global 17)) 1,
  op 19 (.load 0 (.global 18)) 1,
  op 20 (.indexAddr 3 (.global 13) (.global 15)) 1,
  opn (.store 1 (.global 20) (.global 19))])
(reg [op 21 (.move (.tmp 0)) 1,
  op 22 (.move (.tmp 4)) 1,
  op 23 (.move (.tmp 5)) 1,
  op 24 (.indexAddr 3 (.global 21) (.global 22)) 1,
  opn (.store 1 (.global 24) (.global 23))])))), []⟩

/-- (impl.Panel).segments -/
def fn51 : AFun := ⟨1,
(.seq (reg [op 1 (.makeChan 3 (.tmp 0)),
  op 2 (.move (.const (I 0)))])
(.seq (reg [op 3 (.fieldAddr 0 (.tmp 1) 1) 1,
  op 4 (.lookup 0 (.tmp 1) (.global 3) false) 1,
  op 5 (.binOp .mul 0 (.const (I 4)) (.global 4) 0) 1,
  op 6 (.fieldAddr 1 (.tmp 1) 1) 1,
  op 7 (.lookup 0 (.tmp 1) (.global 6) false) 1,
  op 8 (.binOp .mul 0 (.global 5) (.global 7) 0) 1,
  op 2 (.move (.global 8))])
.ret)), [(2, 0)]⟩

/-- (impl.Panel).walker -/
def fn56 : AFun := ⟨2,
(.seq (reg [op 2 (.makeChan 3 (.tmp 0)),
  op 4 (.move (.const (.agg #[(I 0), (I 0), (I 0), (I 0)])))])
(.seq (reg [op 7 (.move (.tmp 1)) 1,
  op 8 (.fieldAddr 1 (.tmp 2) 1) 1,
  op 9 (.lookup 0 (.tmp 2) (.global 8) false) 1,
  op 10 (.binOp .mul 0 (.const (I 2)) (.global 9) 0) 1,
  op 11 (.binOp .quo 0 (.global 7) (.global 10) 0) 1,
  op 12 (.move (.tmp 1)) 1,
  op 13 (.fieldAddr 1 (.tmp 2) 1) 1,
  op 14 (.lookup 0 (.tmp 2) (.global 13) false) 1,
  op 15 (.binOp .mul 0 (.const (I 2)) (.global 14) 0) 1,
  op 16 (.binOp .rem 0 (.global 12) (.global 15) 0) 1,
  op 5 (.move (.global 11)),
  op 6 (.move (.global 16))])
(.seq (.seq (reg [op 17 (.move (.tmp 5)) 1,
  op 18 (.move (.tmp 6)) 1,
  op 19 (.binOp .add 0 (.global 17) (.global 18) 0) 1,
  op 20 (.binOp .rem 0 (.global 19) (.const (I 2)) 0) 1,
  op 21 (.binOp .eql 0 (.global 20) (.const (I 1)) 0)])
(.cond (.tmp 21)
  (.seq (reg [op 22 (.move (.tmp 5)) 1,
    op 23 (.move (.tmp 6)) 1,
    op 24 (.build 0 #[(0, (.const (.agg #[(I 0), (I 0)]))), (1, (.global 22)), (1001, (.global 23))]) 1,
    op 25 (.build 0 #[(0, (.const (.agg #[(I 0), (I 0), (I 0), (I 0)]))), (2, (.global 24)), (2001, (.const (I 1))), (3001, (.const (I 1)))]) 1,
    op 4 (.insert 4 (.tmp 4) (.tmp 4) (.global 25))])
  .ret)
  .skip))
(.seq (reg [op 26 (.move (.tmp 5)) 1,
  op 27 (.move (.tmp 6)) 1,
  op 28 (.binOp .add 0 (.global 27) (.const (I 1)) 0) 1,
  op 29 (.build 0 #[(0, (.const (.agg #[(I 0), (I 0)]))), (1, (.global 26)), (1001, (.global 28))]) 1,
  op 30 (.build 0 #[(0, (.const (.agg #[(I 0), (I 0), (I 0), (I 0)]))), (2, (.global 29)), (2001, (.const (I 1))), (3001, (.const (I (-1))))]) 1,
  op 4 (.insert 4 (.tmp 4) (.tmp 4) (.global 30))])
.ret)))), [(4, 1000005)]⟩

/-- (impl.Panel).segment -/
def fn50 : AFun := ⟨2,
(.seq (reg [op 2 (.makeChan 3 (.tmp 0)),
  op 3 (.makeChan 4 (.tmp 1)),
  op 4 (.move (.const (I 0)))])
(.seq (reg [op 6 (.lookup 5 (.tmp 3) (.tmp 3) false) 1,
  op 7 (call (.func 58) #[(.global 6)]) 1,
  op 5 (.move (.const (.agg #[(I 0), (I 0)]))),
  op 5 (.insert 2 (.tmp 5) (.tmp 5) (.global 7))])
(.seq (reg [op 8 (.fieldAddr 0 (.tmp 3) 1) 1,
  op 9 (.fieldAddr 0 (.global 8) 1) 1,
  op 10 (.lookup 0 (.tmp 3) (.global 9) false) 1,
  op 11 (.fieldAddr 0 (.tmp 5) 1) 1,
  op 12 (.lookup 0 (.tmp 5) (.global 11) false) 1,
  op 13 (bi .min #[(.global 10), (.global 12)] 0) 1,
  op 14 (.binOp .mul 0 (.global 13) (.const (I 2)) 0) 1,
  op 15 (.fieldAddr 1 (.tmp 2) 1) 1,
  op 16 (.lookup 0 (.tmp 2) (.global 15) false) 1,
  op 17 (.binOp .mul 0 (.global 14) (.global 16) 0) 1,
  op 18 (.fieldAddr 0 (.tmp 3) 1) 1,
  op 19 (.fieldAddr 1 (.global 18) 1) 1,
  op 20 (.lookup 0 (.tmp 3) (.global 19) false) 1,
  op 21 (.fieldAddr 1 (.tmp 5) 1) 1,
  op 22 (.lookup 0 (.tmp 5) (.global 21) false) 1,
  op 23 (bi .min #[(.global 20), (.global 22)] 0) 1,
  op 24 (.binOp .add 0 (.global 17) (.global 23) 0) 1,
  op 4 (.move (.global 24))])
.ret))), [(4, 0)]⟩

/-- (impl.Panel).step -/
def fn54 : AFun := ⟨2,
(.seq (reg [op 2 (.makeChan 3 (.tmp 0)),
  op 3 (.makeChan 4 (.tmp 1)),
  op 4 (.move (.const (.agg #[(I 0), (I 0), (I 0), (I 0)]))),
  op 5 (.move (.const (B false)))])
(.seq (reg [op 9 (.lookup 5 (.tmp 3) (.tmp 3) false) 1,
  op 10 (call (.func 58) #[(.global 9)]) 1,
  op 6 (.move (.const (.agg #[(I 0), (I 0)]))),
  op 6 (.insert 2 (.tmp 6) (.tmp 6) (.global 10))])
(.seq (reg [op 11 (.lookup 3 (.tmp 6) (.tmp 6) false) 1,
  op 12 (.fieldAddr 2 (.tmp 3) 1) 1,
  op 13 (.lookup 0 (.tmp 3) (.global 12) false) 1,
  op 14 (.fieldAddr 3 (.tmp 3) 1) 1,
  op 15 (.lookup 0 (.tmp 3) (.global 14) false) 1,
  op 16 (.build 0 #[(0, (.const (.agg #[(I 0), (I 0), (I 0), (I 0)]))), (2, (.global 11)), (2001, (.global 13)), (3001, (.global 15))]) 1,
  op 7 (.move (.const (.agg #[(I 0), (I 0), (I 0), (I 0)]))),
  op 7 (.insert 4 (.tmp 7) (.tmp 7) (.global 16))])
(.seq (reg [op 8 (.move (.const (I 0)))])
(.seq (.seq (reg [op 17 (.lookup 4 (.tmp 2) (.tmp 2) false) 1,
  op 18 (.lookup 3 (.tmp 6) (.tmp 6) false) 1,
  op 19 (call (.func 34) #[(.global 17), (.global 18)]) 1,
  op 20 (.unOp .not 0 (.global 19))])
(.cond (.tmp 20)
  (reg [op 21 (.fieldAddr 2 (.tmp 2) 1) 1,
    op 22 (.lookup 0 (.tmp 2) (.global 21) false) 1,
    op 23 (.lookup 4 (.tmp 2) (.tmp 2) false) 1,
    op 24 (.lookup 3 (.tmp 6) (.tmp 6) false) 1,
    op 25 (call (.func 40) #[(.global 23), (.global 24)]) 1,
    op 26 (.indexAddr 3 (.global 22) (.global 25)) 1,
    op 27 (.load 0 (.global 26)) 1,
    op 8 (.move (.global 27))])
  .skip))
(.seq (.seq (reg [op 28 (.fieldAddr 0 (.tmp 6) 1) 1,
  op 29 (.lookup 0 (.tmp 6) (.global 28) false) 1,
  op 30 (.binOp .eql 0 (.global 29) (.const (I 0)) 0) 1,
  op 31 (.move (.global 30)) 1,
  op 32 (.fieldAddr 0 (.tmp 6) 1) 1 (some (125, false)),
  op 33 (.lookup 0 (.tmp 6) (.global 32) false) 1 (some (125, false)),
  op 34 (.fieldAddr 0 (.tmp 2) 1) 1 (some (125, false)),
  op 35 (.lookup 0 (.tmp 2) (.global 34) false) 1 (some (125, false)),
  op 36 (.binOp .mul 0 (.const (I 2)) (.global 35) 0) 1 (some (125, false)),
  op 37 (.binOp .eql 0 (.global 33) (.global 36) 0) 1 (some (125, false)),
  op 38 (.pick (.global 31) (.const (B true)) (.global 37)) 1,
  op 39 (.move (.global 38)) 1,
  op 40 (.move (.tmp 8)) 1 (some (157, false)),
  op 41 (.binOp .eql 0 (.global 40) (.const (I 1)) 0) 1 (some (157, false)),
  op 42 (.pick (.global 39) (.const (B true)) (.global 41))])
(.cond (.tmp 42)
  (reg [op 43 (.fieldAddr 2 (.tmp 7) 1) 1,
    op 44 (.lookup 0 (.tmp 7) (.global 43) false) 1,
    op 45 (.unOp .neg 0 (.global 44)) 1,
    op 46 (.fieldAddr 2 (.tmp 7) 1) 1,
    op 7 (.insert 1 (.tmp 7) (.global 46) (.global 45))])
  .skip))
(.seq (.seq (reg [op 47 (.fieldAddr 1 (.tmp 6) 1) 1,
  op 48 (.lookup 0 (.tmp 6) (.global 47) false) 1,
  op 49 (.binOp .eql 0 (.global 48) (.const (I 0)) 0) 1,
  op 50 (.move (.global 49)) 1,
  op 51 (.fieldAddr 1 (.tmp 6) 1) 1 (some (201, false)),
  op 52 (.lookup 0 (.tmp 6) (.global 51) false) 1 (some (201, false)),
  op 53 (.fieldAddr 1 (.tmp 2) 1) 1 (some (201, false)),
  op 54 (.lookup 0 (.tmp 2) (.global 53) false) 1 (some (201, false)),
  op 55 (.binOp .mul 0 (.const (I 2)) (.global 54) 0) 1 (some (201, false)),
  op 56 (.binOp .eql 0 (.global 52) (.global 55) 0) 1 (some (201, false)),
  op 57 (.pick (.global 50) (.const (B true)) (.global 56)) 1,
  op 58 (.move (.global 57)) 1,
  op 59 (.move (.tmp 8)) 1 (some (233, false)),
  op 60 (.binOp .eql 0 (.global 59) (.const (I 2)) 0) 1 (some (233, false)),
  op 61 (.pick (.global 58) (.const (B true)) (.global 60))])
(.cond (.tmp 61)
  (reg [op 62 (.fieldAddr 3 (.tmp 7) 1) 1,
    op 63 (.lookup 0 (.tmp 7) (.global 62) false) 1,
    op 64 (.unOp .neg 0 (.global 63)) 1,
    op 65 (.fieldAddr 3 (.tmp 7) 1) 1,
    op 7 (.insert 1 (.tmp 7) (.global 65) (.global 64))])
  .skip))
(.seq (reg [op 66 (.lookup 5 (.tmp 7) (.tmp 7) false) 1,
  op 67 (.fieldAddr 2 (.tmp 7) 1) 1,
  op 68 (.lookup 0 (.tmp 7) (.global 67) false) 1,
  op 69 (.fieldAddr 2 (.tmp 3) 1) 1,
  op 70 (.lookup 0 (.tmp 3) (.global 69) false) 1,
  op 71 (.binOp .neq 0 (.global 68) (.global 70) 0) 1,
  op 72 (.move (.global 71)) 1,
  op 73 (.fieldAddr 3 (.tmp 7) 1) 1 (some (289, false)),
  op 74 (.lookup 0 (.tmp 7) (.global 73) false) 1 (some (289, false)),
  op 75 (.fieldAddr 3 (.tmp 3) 1) 1 (some (289, false)),
  op 76 (.lookup 0 (.tmp 3) (.global 75) false) 1 (some (289, false)),
  op 77 (.binOp .neq 0 (.global 74) (.global 76) 0) 1 (some (289, false)),
  op 78 (.pick (.global 72) (.const (B true)) (.global 77)) 1,
  op 4 (.insert 4 (.tmp 4) (.tmp 4) (.global 66)),
  op 5 (.move (.global 78))])
.ret)))))))), [(4, 1000005), (5, 0)]⟩

/-- spec.l04Trace -/
def fn466 : AFun := ⟨2,
(.seq (reg [op 3 (.makeChan 4 (.tmp 1)),
  op 4 (.move (.const (sl 0 0 0 0))),
  op 5 (.move (.const (sl 0 0 0 0)))])
(.seq (reg [op 9 (.move (.const (sl 0 0 0 2))) 1,
  op 6 (.move (.global 9))])
(.seq (reg [op 10 (.move (.const (sl 0 0 0 1))) 1,
  op 7 (.move (.global 10))])
(.seq (.seq (reg [op 11 (.lookup 5 (.tmp 3) (.tmp 3) false) 1,
  op 8 (.move (.const (.agg #[(I 0), (I 0), (I 0), (I 0)]))),
  op 8 (.insert 4 (.tmp 8) (.tmp 8) (.global 11))])
(.block 0
  (.loop
    (.seq (.seq (reg [op 12 (.move (.tmp 6)) 1,
      op 13 (bi .len #[(.global 12)] 1) 1,
      op 14 (.binOp .eql 0 (.global 13) (.const (I 0)) 0) 1,
      op 15 (.move (.global 14)) 1,
      op 16 (.lookup 5 (.tmp 8) (.tmp 8) false) 1 (some (61, false)),
      op 17 (.lookup 5 (.tmp 3) (.tmp 3) false) 1 (some (61, false)),
      op 18 (.binOp .neq 6 (.global 16) (.global 17) 0) 1 (some (61, false)),
      op 19 (.pick (.global 15) (.const (B true)) (.global 18))])
    (.cond (.tmp 19)
      .skip
      (.exit 0)))
    (.seq (.block 1
      (.seq (reg [op 23 (.move (.tmp 6)) 1,
        op 24 (.fieldAddr 0 (.tmp 8) 1) 1,
        op 25 (.lookup 3 (.tmp 8) (.global 24) false) 1,
        op 26 (.buildSlice 2 1 #[(0, (.const (.agg #[(I 0), (I 0)]))), (2, (.global 25))]) 1,
        op 27 (bi .append #[(.global 23), (.global 26)] 2) 1,
        op 6 (.move (.global 27))])
      (reg [op 28 (.move (.tmp 7)) 1,
        op 29 (.move (.tmp 0)) 1,
        op 30 (.lookup 5 (.tmp 8) (.tmp 8) false) 1,
        op 31 (call (.func 460) #[(.global 29), (.global 30)]) 1,
        op 32 (.buildSlice 1 1 #[(0, (.const (.agg #[(I 0)]))), (1, (.global 31))]) 1,
        op 33 (bi .append #[(.global 28), (.global 32)] 1) 1,
        op 7 (.move (.global 33))])))
    (.seq (.seq (reg [op 34 (.lookup 5 (.tmp 8) (.tmp 8) false)])
    (reg [op 8 (.move (.const (.agg #[(I 0), (I 0), (I 0), (I 0)]))),
      op 8 (.insert 4 (.tmp 8) (.tmp 8) (.tmp 34))]))
    (reg [op 20 (.move (.tmp 0)) 1,
      op 21 (.lookup 5 (.tmp 8) (.tmp 8) false) 1,
      op 22 (call (.func 461) #[(.global 20), (.global 21)]) 1,
      op 8 (.insert 4 (.tmp 8) (.tmp 8) (.global 22))])))))))
(.seq (reg [op 35 (.move (.tmp 6)) 1,
  op 36 (.move (.tmp 7)) 1,
  op 4 (.move (.global 35)),
  op 5 (.move (.global 36))])
.ret))))), [(4, 0), (5, 0)]⟩

/-- spec.l03Walker -/
def fn462 : AFun := ⟨2,
(.seq (reg [op 4 (.move (.const (.agg #[(I 0), (I 0), (I 0), (I 0)])))])
(.seq (reg [op 8 (.move (.tmp 1)) 1,
  op 9 (.move (.tmp 0)) 1,
  op 10 (.nilCheck (.global 9)) 1,
  op 11 (.fieldAddr 1 (.global 10) 0) 1,
  op 12 (.load 0 (.global 11)) 1,
  op 13 (.binOp .mul 0 (.const (I 2)) (.global 12) 0) 1,
  op 14 (.binOp .quo 0 (.global 8) (.global 13) 0) 1,
  op 5 (.move (.global 14))])
(.seq (reg [op 15 (.move (.tmp 1)) 1,
  op 16 (.move (.tmp 0)) 1,
  op 17 (.nilCheck (.global 16)) 1,
  op 18 (.fieldAddr 1 (.global 17) 0) 1,
  op 19 (.load 0 (.global 18)) 1,
  op 20 (.binOp .mul 0 (.const (I 2)) (.global 19) 0) 1,
  op 21 (.binOp .rem 0 (.global 15) (.global 20) 0) 1,
  op 6 (.move (.global 21))])
(.seq (.seq (reg [op 22 (.move (.tmp 5)) 1,
  op 23 (.binOp .rem 0 (.global 22) (.const (I 2)) 0) 1,
  op 24 (.binOp .eql 0 (.global 23) (.const (I 0)) 0)])
(.cond (.tmp 24)
  (.seq (reg [op 25 (.move (.tmp 5)) 1,
    op 26 (.move (.tmp 6)) 1,
    op 27 (.binOp .quo 0 (.global 26) (.const (I 2)) 0) 1,
    op 28 (.binOp .mul 0 (.global 27) (.const (I 2)) 0) 1,
    op 29 (.binOp .add 0 (.global 28) (.const (I 1)) 0) 1,
    op 30 (.build 0 #[(0, (.const (.agg #[(I 0), (I 0)]))), (1, (.global 25)), (1001, (.global 29))]) 1,
    op 31 (.move (.tmp 6)) 1,
    op 32 (.binOp .rem 0 (.global 31) (.const (I 2)) 0) 1,
    op 33 (.binOp .mul 0 (.const (I 2)) (.global 32) 0) 1,
    op 34 (.binOp .sub 0 (.global 33) (.const (I 1)) 0) 1,
    op 35 (.build 0 #[(0, (.const (.agg #[(I 0), (I 0), (I 0), (I 0)]))), (2, (.global 30)), (2001, (.const (I 1))), (3001, (.global 34))]) 1,
    op 4 (.insert 4 (.tmp 4) (.tmp 4) (.global 35))])
  .ret)
  .skip))
(.seq (reg [op 36 (.move (.tmp 5)) 1,
  op 37 (.move (.tmp 6)) 1,
  op 38 (.binOp .add 0 (.global 37) (.const (I 1)) 0) 1,
  op 39 (.binOp .quo 0 (.global 38) (.const (I 2)) 0) 1,
  op 40 (.binOp .mul 0 (.global 39) (.const (I 2)) 0) 1,
  op 41 (.build 0 #[(0, (.const (.agg #[(I 0), (I 0)]))), (1, (.global 36)), (1001, (.global 40))]) 1,
  op 42 (.build 0 #[(0, (.const (.agg #[(I 0), (I 0), (I 0), (I 0)]))), (2, (.global 41)), (2001, (.const (I 1))), (3001, (.const (I 1)))]) 1,
  op 7 (.move (.const (.agg #[(I 0), (I 0), (I 0), (I 0)]))),
  op 7 (.insert 4 (.tmp 7) (.tmp 7) (.global 42))])
(.seq (.seq (reg [op 43 (.move (.tmp 6)) 1,
  op 44 (.binOp .rem 0 (.global 43) (.const (I 2)) 0) 1,
  op 45 (.binOp .eql 0 (.global 44) (.const (I 1)) 0)])
(.cond (.tmp 45)
  (reg [op 46 (.fieldAddr 3 (.tmp 7) 1) 1,
    op 7 (.insert 1 (.tmp 7) (.global 46) (.const (I (-1))))])
  .skip))
(.seq (reg [op 47 (.lookup 5 (.tmp 7) (.tmp 7) false) 1,
  op 4 (.insert 4 (.tmp 4) (.tmp 4) (.global 47))])
.ret))))))), [(4, 1000005)]⟩

/-- slices.rotateRight[impl.JournalStep] -/
def fn325 : AFun := ⟨2,
(reg [op 4 (.move (.tmp 0)) 1,
  op 5 (.move (.tmp 0)) 1,
  op 6 (bi .len #[(.global 5)] 1) 1,
  op 7 (.move (.tmp 1)) 1,
  op 8 (.binOp .sub 0 (.global 6) (.global 7) 0) 1,
  op 9 (call (.func 323) #[(.global 4), (.global 8)]) 1]), []⟩

/-- (impl.Walker).next -/
def fn58 : AFun := ⟨1,
(.seq (reg [op 1 (.makeChan 4 (.tmp 0)),
  op 2 (.move (.const (.agg #[(I 0), (I 0)])))])
(.seq (reg [op 3 (.fieldAddr 0 (.tmp 1) 1) 1,
  op 4 (.fieldAddr 0 (.global 3) 1) 1,
  op 5 (.lookup 0 (.tmp 1) (.global 4) false) 1,
  op 6 (.fieldAddr 2 (.tmp 1) 1) 1,
  op 7 (.lookup 0 (.tmp 1) (.global 6) false) 1,
  op 8 (.binOp .add 0 (.global 5) (.global 7) 0) 1,
  op 9 (.fieldAddr 0 (.tmp 1) 1) 1,
  op 10 (.fieldAddr 1 (.global 9) 1) 1,
  op 11 (.lookup 0 (.tmp 1) (.global 10) false) 1,
  op 12 (.fieldAddr 3 (.tmp 1) 1) 1,
  op 13 (.lookup 0 (.tmp 1) (.global 12) false) 1,
  op 14 (.binOp .add 0 (.global 11) (.global 13) 0) 1,
  op 15 (.build 0 #[(0, (.const (.agg #[(I 0), (I 0)]))), (1, (.global 8)), (1001, (.global 14))]) 1,
  op 2 (.insert 2 (.tmp 2) (.tmp 2) (.global 15))])
.ret)), [(2, 1000003)]⟩

/-- (impl.Panel).isBorder -/
def fn34 : AFun := ⟨2,
(.seq (reg [op 2 (.makeChan 3 (.tmp 0)),
  op 3 (.makeChan 2 (.tmp 1)),
  op 4 (.move (.const (B false)))])
(.seq (reg [op 5 (.fieldAddr 0 (.tmp 3) 1) 1,
  op 6 (.lookup 0 (.tmp 3) (.global 5) false) 1,
  op 7 (.binOp .eql 0 (.global 6) (.const (I 0)) 0) 1,
  op 8 (.move (.global 7)) 1,
  op 9 (.fieldAddr 0 (.tmp 3) 1) 1 (some (33, false)),
  op 10 (.lookup 0 (.tmp 3) (.global 9) false) 1 (some (33, false)),
  op 11 (.fieldAddr 0 (.tmp 2) 1) 1 (some (33, false)),
  op 12 (.lookup 0 (.tmp 2) (.global 11) false) 1 (some (33, false)),
  op 13 (.binOp .mul 0 (.const (I 2)) (.global 12) 0) 1 (some (33, false)),
  op 14 (.binOp .eql 0 (.global 10) (.global 13) 0) 1 (some (33, false)),
  op 15 (.pick (.global 8) (.const (B true)) (.global 14)) 1,
  op 16 (.move (.global 15)) 1,
  op 17 (.fieldAddr 1 (.tmp 3) 1) 1 (some (65, false)),
  op 18 (.lookup 0 (.tmp 3) (.global 17) false) 1 (some (65, false)),
  op 19 (.binOp .eql 0 (.global 18) (.const (I 0)) 0) 1 (some (65, false)),
  op 20 (.pick (.global 16) (.const (B true)) (.global 19)) 1,
  op 21 (.move (.global 20)) 1,
  op 22 (.fieldAddr 1 (.tmp 3) 1) 1 (some (85, false)),
  op 23 (.lookup 0 (.tmp 3) (.global 22) false) 1 (some (85, false)),
  op 24 (.fieldAddr 1 (.tmp 2) 1) 1 (some (85, false)),
  op 25 (.lookup 0 (.tmp 2) (.global 24) false) 1 (some (85, false)),
  op 26 (.binOp .mul 0 (.const (I 2)) (.global 25) 0) 1 (some (85, false)),
  op 27 (.binOp .eql 0 (.global 23) (.global 26) 0) 1 (some (85, false)),
  op 28 (.pick (.global 21) (.const (B true)) (.global 27)) 1,
  op 4 (.move (.global 28))])
.ret)), [(4, 0)]⟩

/-- spec.l03Step -/
def fn461 : AFun := ⟨2,
(.seq (reg [op 3 (.makeChan 4 (.tmp 1)),
  op 4 (.move (.const (.agg #[(I 0), (I 0), (I 0), (I 0)])))])
(.seq (reg [op 7 (.lookup 5 (.tmp 3) (.tmp 3) false) 1,
  op 8 (call (.func 459) #[(.global 7)]) 1,
  op 5 (.move (.const (.agg #[(I 0), (I 0)]))),
  op 5 (.insert 2 (.tmp 5) (.tmp 5) (.global 8))])
(.seq (reg [op 9 (.lookup 3 (.tmp 5) (.tmp 5) false) 1,
  op 10 (.fieldAddr 2 (.tmp 3) 1) 1,
  op 11 (.lookup 0 (.tmp 3) (.global 10) false) 1,
  op 12 (.fieldAddr 3 (.tmp 3) 1) 1,
  op 13 (.lookup 0 (.tmp 3) (.global 12) false) 1,
  op 14 (.build 0 #[(0, (.const (.agg #[(I 0), (I 0), (I 0), (I 0)]))), (2, (.global 9)), (2001, (.global 11)), (3001, (.global 13))]) 1,
  op 6 (.move (.const (.agg #[(I 0), (I 0), (I 0), (I 0)]))),
  op 6 (.insert 4 (.tmp 6) (.tmp 6) (.global 14))])
(.seq (.seq (reg [op 15 (.fieldAddr 0 (.tmp 5) 1) 1,
  op 16 (.lookup 0 (.tmp 5) (.global 15) false) 1,
  op 17 (.binOp .eql 0 (.global 16) (.const (I 0)) 0) 1,
  op 18 (.move (.global 17)) 1,
  op 19 (.fieldAddr 0 (.tmp 5) 1) 1 (some (73, false)),
  op 20 (.lookup 0 (.tmp 5) (.global 19) false) 1 (some (73, false)),
  op 21 (.move (.tmp 0)) 1 (some (73, false)),
  op 22 (.nilCheck (.global 21)) 1 (some (73, false)),
  op 23 (.fieldAddr 0 (.global 22) 0) 1 (some (73, false)),
  op 24 (.load 0 (.global 23)) 1 (some (73, false)),
  op 25 (.binOp .mul 0 (.const (I 2)) (.global 24) 0) 1 (some (73, false)),
  op 26 (.binOp .eql 0 (.global 20) (.global 25) 0) 1 (some (73, false)),
  op 27 (.pick (.global 18) (.const (B true)) (.global 26))])
(.cond (.tmp 27)
  (reg [op 28 (.fieldAddr 2 (.tmp 6) 1) 1,
    op 29 (.lookup 0 (.tmp 6) (.global 28) false) 1,
    op 30 (.unOp .neg 0 (.global 29)) 1,
    op 31 (.fieldAddr 2 (.tmp 6) 1) 1,
    op 6 (.insert 1 (.tmp 6) (.global 31) (.global 30))])
  .skip))
(.seq (.seq (reg [op 32 (.fieldAddr 1 (.tmp 5) 1) 1,
  op 33 (.lookup 0 (.tmp 5) (.global 32) false) 1,
  op 34 (.binOp .eql 0 (.global 33) (.const (I 0)) 0) 1,
  op 35 (.move (.global 34)) 1,
  op 36 (.fieldAddr 1 (.tmp 5) 1) 1 (some (141, false)),
  op 37 (.lookup 0 (.tmp 5) (.global 36) false) 1 (some (141, false)),
  op 38 (.move (.tmp 0)) 1 (some (141, false)),
  op 39 (.nilCheck (.global 38)) 1 (some (141, false)),
  op 40 (.fieldAddr 1 (.global 39) 0) 1 (some (141, false)),
  op 41 (.load 0 (.global 40)) 1 (some (141, false)),
  op 42 (.binOp .mul 0 (.const (I 2)) (.global 41) 0) 1 (some (141, false)),
  op 43 (.binOp .eql 0 (.global 37) (.global 42) 0) 1 (some (141, false)),
  op 44 (.pick (.global 35) (.const (B true)) (.global 43))])
(.cond (.tmp 44)
  (reg [op 45 (.fieldAddr 3 (.tmp 6) 1) 1,
    op 46 (.lookup 0 (.tmp 6) (.global 45) false) 1,
    op 47 (.unOp .neg 0 (.global 46)) 1,
    op 48 (.fieldAddr 3 (.tmp 6) 1) 1,
    op 6 (.insert 1 (.tmp 6) (.global 48) (.global 47))])
  .skip))
(.seq (.seq (reg [op 49 (.move (.tmp 0)) 1,
  op 50 (.lookup 3 (.tmp 5) (.tmp 5) false) 1,
  op 51 (call (.func 446) #[(.global 49), (.global 50)]) 1,
  op 52 (.unOp .not 0 (.global 51))])
(.cond (.tmp 52)
  (.seq (reg [op 53 (.move (.tmp 0)) 1,
    op 54 (.nilCheck (.global 53)) 1,
    op 55 (.fieldAddr 2 (.global 54) 0) 1,
    op 56 (.load 0 (.global 55)) 1,
    op 57 (.move (.tmp 0)) 1,
    op 58 (.lookup 3 (.tmp 5) (.tmp 5) false) 1,
    op 59 (call (.func 451) #[(.global 57), (.global 58)]) 3,
    op 60 (.indexAddr 3 (.global 56) (.global 59)) 1,
    op 61 (.load 0 (.global 60))])
  (.block 0
    (.seq (reg [op 63 (.binOp .eql 0 (.tmp 61) (.const (I 1)) 0) 1,
      op 62 (.move (.global 63))])
    (.cond (.tmp 62)
      (reg [op 64 (.fieldAddr 2 (.tmp 6) 1) 1,
        op 65 (.lookup 0 (.tmp 6) (.global 64) false) 1,
        op 66 (.unOp .neg 0 (.global 65)) 1,
        op 67 (.fieldAddr 2 (.tmp 6) 1) 1,
        op 6 (.insert 1 (.tmp 6) (.global 67) (.global 66))])
      (.seq (reg [op 69 (.binOp .eql 0 (.tmp 61) (.const (I 2)) 0) 1,
        op 68 (.move (.global 69))])
      (.cond (.tmp 68)
        (reg [op 70 (.fieldAddr 3 (.tmp 6) 1) 1,
          op 71 (.lookup 0 (.tmp 6) (.global 70) false) 1,
          op 72 (.unOp .neg 0 (.global 71)) 1,
          op 73 (.fieldAddr 3 (.tmp 6) 1) 1,
          op 6 (.insert 1 (.tmp 6) (.global 73) (.global 72))])
        .skip))))))
  .skip))
(.seq (reg [op 74 (.lookup 5 (.tmp 6) (.tmp 6) false) 1,
  op 4 (.insert 4 (.tmp 4) (.tmp 4) (.global 74))])
.ret))))))), [(4, 1000005)]⟩

/-- spec.l03Segment -/
def fn460 : AFun := ⟨2,
(.seq (reg [op 3 (.makeChan 4 (.tmp 1)),
  op 4 (.move (.const (I 0)))])
(.seq (reg [op 9 (.lookup 5 (.tmp 3) (.tmp 3) false) 1,
  op 10 (call (.func 458) #[(.global 9)]) 1,
  op 8 (.move (.global 10)) 1,
  op 11 (.extract (.global 8) 0) 1,
  op 12 (.extract (.global 8) 1) 1,
  op 5 (.move (.const (.agg #[(I 0), (I 0)]))),
  op 5 (.insert 2 (.tmp 5) (.tmp 5) (.global 11)),
  op 6 (.move (.global 12))])
(.seq (reg [op 13 (.fieldAddr 0 (.tmp 5) 1) 1,
  op 14 (.lookup 0 (.tmp 5) (.global 13) false) 1,
  op 15 (.binOp .mul 0 (.global 14) (.const (I 2)) 0) 1,
  op 16 (.move (.tmp 0)) 1,
  op 17 (.nilCheck (.global 16)) 1,
  op 18 (.fieldAddr 1 (.global 17) 0) 1,
  op 19 (.load 0 (.global 18)) 1,
  op 20 (.binOp .mul 0 (.global 15) (.global 19) 0) 1,
  op 21 (.fieldAddr 1 (.tmp 5) 1) 1,
  op 22 (.lookup 0 (.tmp 5) (.global 21) false) 1,
  op 23 (.binOp .add 0 (.global 20) (.global 22) 0) 1,
  op 24 (.binOp .sub 0 (.global 23) (.const (I 1)) 0) 1,
  op 7 (.move (.global 24))])
(.seq (.seq (reg [op 25 (.move (.tmp 6)) 1,
  op 26 (.fieldAddr 1 (.tmp 5) 1) 1,
  op 27 (.lookup 0 (.tmp 5) (.global 26) false) 1,
  op 28 (.binOp .gtr 0 (.global 25) (.global 27) 0)])
(.cond (.tmp 28)
  (reg [op 29 (.move (.tmp 7)) 1,
    op 30 (.binOp .add 0 (.global 29) (.const (I 1)) 0) 1,
    op 7 (.move (.global 30))])
  .skip))
(.seq (reg [op 31 (.move (.tmp 7)) 1,
  op 4 (.move (.global 31))])
.ret))))), [(4, 0)]⟩

/-- slices.rotateLeft[impl.JournalStep] -/
def fn323 : AFun := ⟨2,
(.seq (reg [op 4 (.move (.tmp 0)) 1,
  op 5 (.move (.tmp 1)) 1,
  op 6 (.slice 7 (.global 4) none (some (.global 5)) none) 1,
  op 7 (call (.func 319) #[(.global 6)]) 1])
(.seq (reg [op 8 (.move (.tmp 0)) 1,
  op 9 (.move (.tmp 1)) 1,
  op 10 (.slice 7 (.global 8) (some (.global 9)) none none) 1,
  op 11 (call (.func 319) #[(.global 10)]) 1])
(reg [op 12 (.move (.tmp 0)) 1,
  op 13 (call (.func 319) #[(.global 12)]) 1]))), []⟩

/-- spec.l03Next -/
def fn459 : AFun := ⟨1,
(.seq (reg [op 1 (.makeChan 4 (.tmp 0)),
  op 2 (.move (.const (.agg #[(I 0), (I 0)])))])
(.seq (reg [op 3 (.fieldAddr 0 (.tmp 1) 1) 1,
  op 4 (.fieldAddr 0 (.global 3) 1) 1,
  op 5 (.lookup 0 (.tmp 1) (.global 4) false) 1,
  op 6 (.fieldAddr 2 (.tmp 1) 1) 1,
  op 7 (.lookup 0 (.tmp 1) (.global 6) false) 1,
  op 8 (.binOp .add 0 (.global 5) (.global 7) 0) 1,
  op 9 (.fieldAddr 0 (.tmp 1) 1) 1,
  op 10 (.fieldAddr 1 (.global 9) 1) 1,
  op 11 (.lookup 0 (.tmp 1) (.global 10) false) 1,
  op 12 (.fieldAddr 3 (.tmp 1) 1) 1,
  op 13 (.lookup 0 (.tmp 1) (.global 12) false) 1,
  op 14 (.binOp .add 0 (.global 11) (.global 13) 0) 1,
  op 15 (.build 0 #[(0, (.const (.agg #[(I 0), (I 0)]))), (1, (.global 8)), (1001, (.global 14))]) 1,
  op 2 (.insert 2 (.tmp 2) (.tmp 2) (.global 15))])
.ret)), [(2, 1000003)]⟩

/-- spec.l02Edge -/
def fn446 : AFun := ⟨2,
(.seq (reg [op 3 (.makeChan 2 (.tmp 1)),
  op 4 (.move (.const (B false)))])
(.seq (reg [op 5 (.fieldAddr 0 (.tmp 3) 1) 1,
  op 6 (.lookup 0 (.tmp 3) (.global 5) false) 1,
  op 7 (.binOp .eql 0 (.global 6) (.const (I 0)) 0) 1,
  op 8 (.move (.global 7)) 1,
  op 9 (.fieldAddr 1 (.tmp 3) 1) 1 (some (33, false)),
  op 10 (.lookup 0 (.tmp 3) (.global 9) false) 1 (some (33, false)),
  op 11 (.binOp .eql 0 (.global 10) (.const (I 0)) 0) 1 (some (33, false)),
  op 12 (.pick (.global 8) (.const (B true)) (.global 11)) 1,
  op 13 (.move (.global 12)) 1,
  op 14 (.fieldAddr 0 (.tmp 3) 1) 1 (some (53, false)),
  op 15 (.lookup 0 (.tmp 3) (.global 14) false) 1 (some (53, false)),
  op 16 (.move (.tmp 0)) 1 (some (53, false)),
  op 17 (.nilCheck (.global 16)) 1 (some (53, false)),
  op 18 (.fieldAddr 0 (.global 17) 0) 1 (some (53, false)),
  op 19 (.load 0 (.global 18)) 1 (some (53, false)),
  op 20 (.binOp .mul 0 (.const (I 2)) (.global 19) 0) 1 (some (53, false)),
  op 21 (.binOp .eql 0 (.global 15) (.global 20) 0) 1 (some (53, false)),
  op 22 (.pick (.global 13) (.const (B true)) (.global 21)) 1,
  op 23 (.move (.global 22)) 1,
  op 24 (.fieldAddr 1 (.tmp 3) 1) 1 (some (93, false)),
  op 25 (.lookup 0 (.tmp 3) (.global 24) false) 1 (some (93, false)),
  op 26 (.move (.tmp 0)) 1 (some (93, false)),
  op 27 (.nilCheck (.global 26)) 1 (some (93, false)),
  op 28 (.fieldAddr 1 (.global 27) 0) 1 (some (93, false)),
  op 29 (.load 0 (.global 28)) 1 (some (93, false)),
  op 30 (.binOp .mul 0 (.const (I 2)) (.global 29) 0) 1 (some (93, false)),
  op 31 (.binOp .eql 0 (.global 25) (.global 30) 0) 1 (some (93, false)),
  op 32 (.pick (.global 23) (.const (B true)) (.global 31)) 1,
  op 4 (.move (.global 32))])
.ret)), [(4, 0)]⟩

/-- spec.l03Left -/
def fn458 : AFun := ⟨1,
(.seq (reg [op 1 (.makeChan 4 (.tmp 0)),
  op 2 (.move (.const (.agg #[(I 0), (I 0)]))),
  op 3 (.move (.const (I 0)))])
(.seq (reg [op 5 (.lookup 5 (.tmp 1) (.tmp 1) false) 1,
  op 6 (call (.func 459) #[(.global 5)]) 1,
  op 4 (.move (.const (.agg #[(I 0), (I 0)]))),
  op 4 (.insert 2 (.tmp 4) (.tmp 4) (.global 6))])
(.seq (.seq (reg [op 7 (.fieldAddr 2 (.tmp 1) 1) 1,
  op 8 (.lookup 0 (.tmp 1) (.global 7) false) 1,
  op 9 (.binOp .eql 0 (.global 8) (.const (I 1)) 0)])
(.cond (.tmp 9)
  (.seq (reg [op 10 (.fieldAddr 0 (.tmp 1) 1) 1,
    op 11 (.lookup 3 (.tmp 1) (.global 10) false) 1,
    op 12 (.fieldAddr 1 (.tmp 4) 1) 1,
    op 13 (.lookup 0 (.tmp 4) (.global 12) false) 1,
    op 2 (.insert 2 (.tmp 2) (.tmp 2) (.global 11)),
    op 3 (.move (.global 13))])
  .ret)
  .skip))
(.seq (reg [op 14 (.lookup 3 (.tmp 4) (.tmp 4) false) 1,
  op 15 (.fieldAddr 0 (.tmp 1) 1) 1,
  op 16 (.fieldAddr 1 (.global 15) 1) 1,
  op 17 (.lookup 0 (.tmp 1) (.global 16) false) 1,
  op 2 (.insert 2 (.tmp 2) (.tmp 2) (.global 14)),
  op 3 (.move (.global 17))])
.ret)))), [(2, 1000003), (3, 0)]⟩

/-- slices.Reverse[[]impl.JournalStep,impl.JournalStep] -/
def fn319 : AFun := ⟨1,
(.seq (reg [op 4 (.move (.tmp 0)) 1,
  op 5 (bi .len #[(.global 4)] 1) 1,
  op 6 (.binOp .sub 0 (.global 5) (.const (I 1)) 0) 1,
  op 2 (.move (.const (I 0))),
  op 3 (.move (.global 6))])
(.block 0
  (.loop
    (.seq (.seq (reg [op 7 (.move (.tmp 2)) 1,
      op 8 (.move (.tmp 3)) 1,
      op 9 (.binOp .lss 0 (.global 7) (.global 8) 0)])
    (.cond (.tmp 9)
      .skip
      (.exit 0)))
    (.seq (.block 1
      (reg [op 14 (.move (.tmp 0)) 1,
        op 15 (.move (.tmp 2)) 1,
        op 16 (.move (.tmp 0)) 1,
        op 17 (.move (.tmp 3)) 1,
        op 18 (.move (.tmp 0)) 1,
        op 19 (.move (.tmp 3)) 1,
        op 20 (.indexAddr 7 (.global 18) (.global 19)) 1,
        op 21 (.load 4 (.global 20)) 1,
        op 22 (.move (.tmp 0)) 1,
        op 23 (.move (.tmp 2)) 1,
        op 24 (.indexAddr 7 (.global 22) (.global 23)) 1,
        op 25 (.load 4 (.global 24)) 1,
        op 26 (.indexAddr 7 (.global 14) (.global 15)) 1,
        opn (.store 3 (.global 26) (.global 21)),
        op 27 (.indexAddr 7 (.global 16) (.global 17)) 1,
        opn (.store 3 (.global 27) (.global 25))]))
    (reg [op 10 (.move (.tmp 2)) 1,
      op 11 (.binOp .add 0 (.global 10) (.const (I 1)) 0) 1,
      op 12 (.move (.tmp 3)) 1,
      op 13 (.binOp .sub 0 (.global 12) (.const (I 1)) 0) 1,
      op 2 (.move (.global 11)),
      op 3 (.move (.global 13))])))))), []⟩

def tab : Tab := [(254, fn254), (256, fn256), (250, fn250), (204, fn204), (253, fn253), (209, fn209), (255, fn255), (269, fn269), (362, fn362), (107, fn107), (398, fn398), (375, fn375), (136, fn136), (426, fn426), (88, fn88), (363, fn363), (108, fn108), (399, fn399), (369, fn369), (120, fn120), (411, fn411), (420, fn420), (381, fn381), (64, fn64), (333, fn333), (87, fn87), (380, fn380), (258, fn258), (327, fn327), (131, fn131), (427, fn427), (423, fn423), (74, fn74), (340, fn340), (257, fn257), (82, fn82), (134, fn134), (123, fn123), (418, fn418), (86, fn86), (133, fn133), (352, fn352), (79, fn79), (346, fn346), (350, fn350), (62, fn62), (331, fn331), (353, fn353), (80, fn80), (119, fn119), (368, fn368), (410, fn410), (270, fn270), (347, fn347), (89, fn89), (382, fn382), (81, fn81), (359, fn359), (98, fn98), (391, fn391), (65, fn65), (334, fn334), (365, fn365), (114, fn114), (406, fn406), (364, fn364), (111, fn111), (403, fn403), (355, fn355), (92, fn92), (384, fn384), (271, fn271), (72, fn72), (291, fn291), (342, fn342), (298, fn298), (259, fn259), (260, fn260), (283, fn283), (282, fn282), (275, fn275), (372, fn372), (125, fn125), (416, fn416), (351, fn351), (66, fn66), (335, fn335), (366, fn366), (115, fn115), (407, fn407), (367, fn367), (116, fn116), (408, fn408), (376, fn376), (272, fn272), (274, fn274), (143, fn143), (429, fn429), (104, fn104), (443, fn443), (431, fn431), (140, fn140), (180, fn180), (452, fn452), (571, fn571), (565, fn565), (195, fn195), (574, fn574), (198, fn198), (181, fn181), (191, fn191), (7, fn7), (457, fn457), (572, fn572), (6, fn6), (442, fn442), (183, fn183), (567, fn567), (456, fn456), (573, fn573), (557, fn557), (138, fn138), (150, fn150), (22, fn22), (558, fn558), (561, fn561), (154, fn154), (465, fn465), (163, fn163), (196, fn196), (148, fn148), (2, fn2), (1, fn1), (563, fn563), (164, fn164), (555, fn555), (186, fn186), (552, fn552), (547, fn547), (453, fn453), (432, fn432), (449, fn449), (354, fn354), (197, fn197), (75, fn75), (167, fn167), (189, fn189), (118, fn118), (174, fn174), (550, fn550), (8, fn8), (553, fn553), (441, fn441), (439, fn439), (467, fn467), (554, fn554), (548, fn548), (445, fn445), (33, fn33), (46, fn46), (549, fn549), (551, fn551), (177, fn177), (49, fn49), (40, fn40), (188, fn188), (450, fn450), (454, fn454), (451, fn451), (295, fn295), (292, fn292), (303, fn303), (300, fn300), (265, fn265), (262, fn262), (286, fn286), (284, fn284), (528, fn528), (142, fn142), (185, fn185), (531, fn531), (512, fn512), (433, fn433), (316, fn316), (532, fn532), (533, fn533), (4, fn4), (156, fn156), (437, fn437), (184, fn184), (105, fn105), (166, fn166), (448, fn448), (568, fn568), (566, fn566), (5, fn5), (436, fn436), (556, fn556), (564, fn564), (199, fn199), (308, fn308), (562, fn562), (55, fn55), (463, fn463), (307, fn307), (317, fn317), (310, fn310), (435, fn435), (470, fn470), (438, fn438), (455, fn455), (290, fn290), (297, fn297), (299, fn299), (261, fn261), (529, fn529), (530, fn530), (534, fn534), (51, fn51), (56, fn56), (50, fn50), (54, fn54), (466, fn466), (462, fn462), (325, fn325), (58, fn58), (34, fn34), (461, fn461), (460, fn460), (323, fn323), (459, fn459), (446, fn446), (458, fn458), (319, fn319)]
def Gam : Nat → Option AFun := look tab
theorem g254 : Gam 254 = some fn254 := rfl
theorem g256 : Gam 256 = some fn256 := rfl
theorem g250 : Gam 250 = some fn250 := rfl
theorem g204 : Gam 204 = some fn204 := rfl
theorem g253 : Gam 253 = some fn253 := rfl
theorem g209 : Gam 209 = some fn209 := rfl
theorem g255 : Gam 255 = some fn255 := rfl
theorem g269 : Gam 269 = some fn269 := rfl
theorem g362 : Gam 362 = some fn362 := rfl
theorem g107 : Gam 107 = some fn107 := rfl
theorem g398 : Gam 398 = some fn398 := rfl
theorem g375 : Gam 375 = some fn375 := rfl
theorem g136 : Gam 136 = some fn136 := rfl
theorem g426 : Gam 426 = some fn426 := rfl
theorem g88 : Gam 88 = some fn88 := rfl
theorem g363 : Gam 363 = some fn363 := rfl
theorem g108 : Gam 108 = some fn108 := rfl
theorem g399 : Gam 399 = some fn399 := rfl
theorem g369 : Gam 369 = some fn369 := rfl
theorem g120 : Gam 120 = some fn120 := rfl
theorem g411 : Gam 411 = some fn411 := rfl
theorem g420 : Gam 420 = some fn420 := rfl
theorem g381 : Gam 381 = some fn381 := rfl
theorem g64 : Gam 64 = some fn64 := rfl
theorem g333 : Gam 333 = some fn333 := rfl
theorem g87 : Gam 87 = some fn87 := rfl
theorem g380 : Gam 380 = some fn380 := rfl
theorem g258 : Gam 258 = some fn258 := rfl
theorem g327 : Gam 327 = some fn327 := rfl
theorem g131 : Gam 131 = some fn131 := rfl
theorem g427 : Gam 427 = some fn427 := rfl
theorem g423 : Gam 423 = some fn423 := rfl
theorem g74 : Gam 74 = some fn74 := rfl
theorem g340 : Gam 340 = some fn340 := rfl
theorem g257 : Gam 257 = some fn257 := rfl
theorem g82 : Gam 82 = some fn82 := rfl
theorem g134 : Gam 134 = some fn134 := rfl
theorem g123 : Gam 123 = some fn123 := rfl
theorem g418 : Gam 418 = some fn418 := rfl
theorem g86 : Gam 86 = some fn86 := rfl
theorem g133 : Gam 133 = some fn133 := rfl
theorem g352 : Gam 352 = some fn352 := rfl
theorem g79 : Gam 79 = some fn79 := rfl
theorem g346 : Gam 346 = some fn346 := rfl
theorem g350 : Gam 350 = some fn350 := rfl
theorem g62 : Gam 62 = some fn62 := rfl
theorem g331 : Gam 331 = some fn331 := rfl
theorem g353 : Gam 353 = some fn353 := rfl
theorem g80 : Gam 80 = some fn80 := rfl
theorem g119 : Gam 119 = some fn119 := rfl
theorem g368 : Gam 368 = some fn368 := rfl
theorem g410 : Gam 410 = some fn410 := rfl
theorem g270 : Gam 270 = some fn270 := rfl
theorem g347 : Gam 347 = some fn347 := rfl
theorem g89 : Gam 89 = some fn89 := rfl
theorem g382 : Gam 382 = some fn382 := rfl
theorem g81 : Gam 81 = some fn81 := rfl
theorem g359 : Gam 359 = some fn359 := rfl
theorem g98 : Gam 98 = some fn98 := rfl
theorem g391 : Gam 391 = some fn391 := rfl
theorem g65 : Gam 65 = some fn65 := rfl
theorem g334 : Gam 334 = some fn334 := rfl
theorem g365 : Gam 365 = some fn365 := rfl
theorem g114 : Gam 114 = some fn114 := rfl
theorem g406 : Gam 406 = some fn406 := rfl
theorem g364 : Gam 364 = some fn364 := rfl
theorem g111 : Gam 111 = some fn111 := rfl
theorem g403 : Gam 403 = some fn403 := rfl
theorem g355 : Gam 355 = some fn355 := rfl
theorem g92 : Gam 92 = some fn92 := rfl
theorem g384 : Gam 384 = some fn384 := rfl
theorem g271 : Gam 271 = some fn271 := rfl
theorem g72 : Gam 72 = some fn72 := rfl
theorem g291 : Gam 291 = some fn291 := rfl
theorem g342 : Gam 342 = some fn342 := rfl
theorem g298 : Gam 298 = some fn298 := rfl
theorem g259 : Gam 259 = some fn259 := rfl
theorem g260 : Gam 260 = some fn260 := rfl
theorem g283 : Gam 283 = some fn283 := rfl
theorem g282 : Gam 282 = some fn282 := rfl
theorem g275 : Gam 275 = some fn275 := rfl
theorem g372 : Gam 372 = some fn372 := rfl
theorem g125 : Gam 125 = some fn125 := rfl
theorem g416 : Gam 416 = some fn416 := rfl
theorem g351 : Gam 351 = some fn351 := rfl
theorem g66 : Gam 66 = some fn66 := rfl
theorem g335 : Gam 335 = some fn335 := rfl
theorem g366 : Gam 366 = some fn366 := rfl
theorem g115 : Gam 115 = some fn115 := rfl
theorem g407 : Gam 407 = some fn407 := rfl
theorem g367 : Gam 367 = some fn367 := rfl
theorem g116 : Gam 116 = some fn116 := rfl
theorem g408 : Gam 408 = some fn408 := rfl
theorem g376 : Gam 376 = some fn376 := rfl
theorem g272 : Gam 272 = some fn272 := rfl
theorem g274 : Gam 274 = some fn274 := rfl
theorem g143 : Gam 143 = some fn143 := rfl
theorem g429 : Gam 429 = some fn429 := rfl
theorem g104 : Gam 104 = some fn104 := rfl
theorem g443 : Gam 443 = some fn443 := rfl
theorem g431 : Gam 431 = some fn431 := rfl
theorem g140 : Gam 140 = some fn140 := rfl
theorem g180 : Gam 180 = some fn180 := rfl
theorem g452 : Gam 452 = some fn452 := rfl
theorem g571 : Gam 571 = some fn571 := rfl
theorem g565 : Gam 565 = some fn565 := rfl
theorem g195 : Gam 195 = some fn195 := rfl
theorem g574 : Gam 574 = some fn574 := rfl
theorem g198 : Gam 198 = some fn198 := rfl
theorem g181 : Gam 181 = some fn181 := rfl
theorem g191 : Gam 191 = some fn191 := rfl
theorem g7 : Gam 7 = some fn7 := rfl
theorem g457 : Gam 457 = some fn457 := rfl
theorem g572 : Gam 572 = some fn572 := rfl
theorem g6 : Gam 6 = some fn6 := rfl
theorem g442 : Gam 442 = some fn442 := rfl
theorem g183 : Gam 183 = some fn183 := rfl
theorem g567 : Gam 567 = some fn567 := rfl
theorem g456 : Gam 456 = some fn456 := rfl
theorem g573 : Gam 573 = some fn573 := rfl
theorem g557 : Gam 557 = some fn557 := rfl
theorem g138 : Gam 138 = some fn138 := rfl
theorem g150 : Gam 150 = some fn150 := rfl
theorem g22 : Gam 22 = some fn22 := rfl
theorem g558 : Gam 558 = some fn558 := rfl
theorem g561 : Gam 561 = some fn561 := rfl
theorem g154 : Gam 154 = some fn154 := rfl
theorem g465 : Gam 465 = some fn465 := rfl
theorem g163 : Gam 163 = some fn163 := rfl
theorem g196 : Gam 196 = some fn196 := rfl
theorem g148 : Gam 148 = some fn148 := rfl
theorem g2 : Gam 2 = some fn2 := rfl
theorem g1 : Gam 1 = some fn1 := rfl
theorem g563 : Gam 563 = some fn563 := rfl
theorem g164 : Gam 164 = some fn164 := rfl
theorem g555 : Gam 555 = some fn555 := rfl
theorem g186 : Gam 186 = some fn186 := rfl
theorem g552 : Gam 552 = some fn552 := rfl
theorem g547 : Gam 547 = some fn547 := rfl
theorem g453 : Gam 453 = some fn453 := rfl
theorem g432 : Gam 432 = some fn432 := rfl
theorem g449 : Gam 449 = some fn449 := rfl
theorem g354 : Gam 354 = some fn354 := rfl
theorem g197 : Gam 197 = some fn197 := rfl
theorem g75 : Gam 75 = some fn75 := rfl
theorem g167 : Gam 167 = some fn167 := rfl
theorem g189 : Gam 189 = some fn189 := rfl
theorem g118 : Gam 118 = some fn118 := rfl
theorem g174 : Gam 174 = some fn174 := rfl
theorem g550 : Gam 550 = some fn550 := rfl
theorem g8 : Gam 8 = some fn8 := rfl
theorem g553 : Gam 553 = some fn553 := rfl
theorem g441 : Gam 441 = some fn441 := rfl
theorem g439 : Gam 439 = some fn439 := rfl
theorem g467 : Gam 467 = some fn467 := rfl
theorem g554 : Gam 554 = some fn554 := rfl
theorem g548 : Gam 548 = some fn548 := rfl
theorem g445 : Gam 445 = some fn445 := rfl
theorem g33 : Gam 33 = some fn33 := rfl
theorem g46 : Gam 46 = some fn46 := rfl
theorem g549 : Gam 549 = some fn549 := rfl
theorem g551 : Gam 551 = some fn551 := rfl
theorem g177 : Gam 177 = some fn177 := rfl
theorem g49 : Gam 49 = some fn49 := rfl
theorem g40 : Gam 40 = some fn40 := rfl
theorem g188 : Gam 188 = some fn188 := rfl
theorem g450 : Gam 450 = some fn450 := rfl
theorem g454 : Gam 454 = some fn454 := rfl
theorem g451 : Gam 451 = some fn451 := rfl
theorem g295 : Gam 295 = some fn295 := rfl
theorem g292 : Gam 292 = some fn292 := rfl
theorem g303 : Gam 303 = some fn303 := rfl
theorem g300 : Gam 300 = some fn300 := rfl
theorem g265 : Gam 265 = some fn265 := rfl
theorem g262 : Gam 262 = some fn262 := rfl
theorem g286 : Gam 286 = some fn286 := rfl
theorem g284 : Gam 284 = some fn284 := rfl
theorem g528 : Gam 528 = some fn528 := rfl
theorem g142 : Gam 142 = some fn142 := rfl
theorem g185 : Gam 185 = some fn185 := rfl
theorem g531 : Gam 531 = some fn531 := rfl
theorem g512 : Gam 512 = some fn512 := rfl
theorem g433 : Gam 433 = some fn433 := rfl
theorem g316 : Gam 316 = some fn316 := rfl
theorem g532 : Gam 532 = some fn532 := rfl
theorem g533 : Gam 533 = some fn533 := rfl
theorem g4 : Gam 4 = some fn4 := rfl
theorem g156 : Gam 156 = some fn156 := rfl
theorem g437 : Gam 437 = some fn437 := rfl
theorem g184 : Gam 184 = some fn184 := rfl
theorem g105 : Gam 105 = some fn105 := rfl
theorem g166 : Gam 166 = some fn166 := rfl
theorem g448 : Gam 448 = some fn448 := rfl
theorem g568 : Gam 568 = some fn568 := rfl
theorem g566 : Gam 566 = some fn566 := rfl
theorem g5 : Gam 5 = some fn5 := rfl
theorem g436 : Gam 436 = some fn436 := rfl
theorem g556 : Gam 556 = some fn556 := rfl
theorem g564 : Gam 564 = some fn564 := rfl
theorem g199 : Gam 199 = some fn199 := rfl
theorem g308 : Gam 308 = some fn308 := rfl
theorem g562 : Gam 562 = some fn562 := rfl
theorem g55 : Gam 55 = some fn55 := rfl
theorem g463 : Gam 463 = some fn463 := rfl
theorem g307 : Gam 307 = some fn307 := rfl
theorem g317 : Gam 317 = some fn317 := rfl
theorem g310 : Gam 310 = some fn310 := rfl
theorem g435 : Gam 435 = some fn435 := rfl
theorem g470 : Gam 470 = some fn470 := rfl
theorem g438 : Gam 438 = some fn438 := rfl
theorem g455 : Gam 455 = some fn455 := rfl
theorem g290 : Gam 290 = some fn290 := rfl
theorem g297 : Gam 297 = some fn297 := rfl
theorem g299 : Gam 299 = some fn299 := rfl
theorem g261 : Gam 261 = some fn261 := rfl
theorem g529 : Gam 529 = some fn529 := rfl
theorem g530 : Gam 530 = some fn530 := rfl
theorem g534 : Gam 534 = some fn534 := rfl
theorem g51 : Gam 51 = some fn51 := rfl
theorem g56 : Gam 56 = some fn56 := rfl
theorem g50 : Gam 50 = some fn50 := rfl
theorem g54 : Gam 54 = some fn54 := rfl
theorem g466 : Gam 466 = some fn466 := rfl
theorem g462 : Gam 462 = some fn462 := rfl
theorem g325 : Gam 325 = some fn325 := rfl
theorem g58 : Gam 58 = some fn58 := rfl
theorem g34 : Gam 34 = some fn34 := rfl
theorem g461 : Gam 461 = some fn461 := rfl
theorem g460 : Gam 460 = some fn460 := rfl
theorem g323 : Gam 323 = some fn323 := rfl
theorem g459 : Gam 459 = some fn459 := rfl
theorem g446 : Gam 446 = some fn446 := rfl
theorem g458 : Gam 458 = some fn458 := rfl
theorem g319 : Gam 319 = some fn319 := rfl
end Am
