/- The functions that are reached, in their normal form; written by a program. -/
import Derived.Test.YtpdhmojncndobaaAmTab2
set_option linter.unusedVariables false
set_option maxRecDepth 100000
namespace Am
open Go
/-- spec.l25Sizes -/
def fn552 : AFun := ⟨1,
(.seq (reg [op 2 (.move (.const (I 0)))])
(.seq (.seq (reg [op 3 (.move (.const (I 0)))])
(.block 0
  (.loop
    (.seq (.seq (reg [op 5 (.move (.tmp 3)) 1,
      op 6 (.move (.tmp 0)) 1,
      op 7 (bi .len #[(.global 6)] 1) 1,
      op 8 (.binOp .lss 0 (.global 5) (.global 7) 0)])
    (.cond (.tmp 8)
      .skip
      (.exit 0)))
    (.seq (.block 1
      (.seq (reg [op 11 (.move (.tmp 0)) 1,
        op 12 (.move (.tmp 3)) 1,
        op 13 (.indexAddr 3 (.global 11) (.global 12)) 1,
        op 14 (.load 0 (.global 13)) 1,
        op 15 (call (.func 452) #[(.global 14)]) 1,
        op 16 (.unOp .not 0 (.global 15))])
      (.cond (.tmp 16)
        (.seq (reg [op 2 (.move (.const (I 1)))])
        .ret)
        .skip)))
    (reg [op 9 (.move (.tmp 3)) 1,
      op 10 (.binOp .add 0 (.global 9) (.const (I 1)) 0) 1,
      op 3 (.move (.global 10))]))))))
(.seq (.seq (reg [op 4 (.move (.const (I 1)))])
(.block 2
  (.loop
    (.seq (.seq (reg [op 17 (.move (.tmp 4)) 1,
      op 18 (.move (.tmp 0)) 1,
      op 19 (bi .len #[(.global 18)] 1) 1,
      op 20 (.binOp .lss 0 (.global 17) (.global 19) 0)])
    (.cond (.tmp 20)
      .skip
      (.exit 2)))
    (.seq (.block 3
      (.seq (reg [op 23 (.move (.tmp 0)) 1,
        op 24 (.move (.tmp 4)) 1,
        op 25 (.indexAddr 3 (.global 23) (.global 24)) 1,
        op 26 (.load 0 (.global 25)) 1,
        op 27 (.nilCheck (.global 26)) 1,
        op 28 (.fieldAddr 0 (.global 27) 0) 1,
        op 29 (.load 0 (.global 28)) 1,
        op 30 (.move (.tmp 0)) 1,
        op 31 (.indexAddr 3 (.global 30) (.const (I 0))) 1,
        op 32 (.load 0 (.global 31)) 1,
        op 33 (.nilCheck (.global 32)) 1,
        op 34 (.fieldAddr 0 (.global 33) 0) 1,
        op 35 (.load 0 (.global 34)) 1,
        op 36 (.binOp .neq 0 (.global 29) (.global 35) 0) 1,
        op 37 (.move (.global 36)) 1,
        op 38 (.move (.tmp 0)) 1 (some (75, false)),
        op 39 (.move (.tmp 4)) 1 (some (75, false)),
        op 40 (.indexAddr 3 (.global 38) (.global 39)) 1 (some (75, false)),
        op 41 (.load 0 (.global 40)) 1 (some (75, false)),
        op 42 (.nilCheck (.global 41)) 1 (some (75, false)),
        op 43 (.fieldAddr 1 (.global 42) 0) 1 (some (75, false)),
        op 44 (.load 0 (.global 43)) 1 (some (75, false)),
        op 45 (.move (.tmp 0)) 1 (some (75, false)),
        op 46 (.indexAddr 3 (.global 45) (.const (I 0))) 1 (some (75, false)),
        op 47 (.load 0 (.global 46)) 1 (some (75, false)),
        op 48 (.nilCheck (.global 47)) 1 (some (75, false)),
        op 49 (.fieldAddr 1 (.global 48) 0) 1 (some (75, false)),
        op 50 (.load 0 (.global 49)) 1 (some (75, false)),
        op 51 (.binOp .neq 0 (.global 44) (.global 50) 0) 1 (some (75, false)),
        op 52 (.pick (.global 37) (.const (B true)) (.global 51))])
      (.cond (.tmp 52)
        (.seq (reg [op 2 (.move (.const (I 6)))])
        .ret)
        .skip)))
    (reg [op 21 (.move (.tmp 4)) 1,
      op 22 (.binOp .add 0 (.global 21) (.const (I 1)) 0) 1,
      op 4 (.move (.global 22))]))))))
(.seq (reg [op 2 (.move (.const (I 0)))])
.ret)))), [(2, 0)]⟩

/-- spec.l25Clashes -/
def fn548 : AFun := ⟨3,
(.seq (reg [op 6 (.move (.const (sl 0 0 0 0)))])
(.seq (reg [op 11 (.move (.const (sl 0 0 0 1))) 1,
  op 7 (.move (.global 11))])
(.seq (.seq (reg [op 8 (.move (.const (I 0)))])
(.block 0
  (.loop
    (.seq (.seq (reg [op 12 (.move (.tmp 8)) 1,
      op 13 (.move (.tmp 0)) 1,
      op 14 (.nilCheck (.global 13)) 1,
      op 15 (.fieldAddr 2 (.global 14) 0) 1,
      op 16 (.load 0 (.global 15)) 1,
      op 17 (bi .len #[(.global 16)] 1) 1,
      op 18 (.binOp .lss 0 (.global 12) (.global 17) 0)])
    (.cond (.tmp 18)
      .skip
      (.exit 0)))
    (.seq (.block 1
      (.seq (reg [op 21 (.move (.tmp 1)) 1,
        op 22 (.nilCheck (.global 21)) 1,
        op 23 (.fieldAddr 2 (.global 22) 0) 1,
        op 24 (.load 0 (.global 23)) 1,
        op 25 (.move (.tmp 8)) 1,
        op 26 (.indexAddr 3 (.global 24) (.global 25)) 1,
        op 27 (.load 0 (.global 26)) 1,
        op 9 (.move (.global 27))])
      (.seq (reg [op 28 (.move (.tmp 2)) 1,
        op 29 (.nilCheck (.global 28)) 1,
        op 30 (.fieldAddr 2 (.global 29) 0) 1,
        op 31 (.load 0 (.global 30)) 1,
        op 32 (.move (.tmp 8)) 1,
        op 33 (.indexAddr 3 (.global 31) (.global 32)) 1,
        op 34 (.load 0 (.global 33)) 1,
        op 10 (.move (.global 34))])
      (.seq (reg [op 35 (.move (.tmp 9)) 1,
        op 36 (.move (.tmp 0)) 1,
        op 37 (.nilCheck (.global 36)) 1,
        op 38 (.fieldAddr 2 (.global 37) 0) 1,
        op 39 (.load 0 (.global 38)) 1,
        op 40 (.move (.tmp 8)) 1,
        op 41 (.indexAddr 3 (.global 39) (.global 40)) 1,
        op 42 (.load 0 (.global 41)) 1,
        op 43 (.binOp .neq 0 (.global 35) (.global 42) 0) 1,
        op 44 (.move (.global 43)) 1,
        op 45 (.move (.tmp 10)) 1 (some (89, true)),
        op 46 (.move (.tmp 0)) 1 (some (89, true)),
        op 47 (.nilCheck (.global 46)) 1 (some (89, true)),
        op 48 (.fieldAddr 2 (.global 47) 0) 1 (some (89, true)),
        op 49 (.load 0 (.global 48)) 1 (some (89, true)),
        op 50 (.move (.tmp 8)) 1 (some (89, true)),
        op 51 (.indexAddr 3 (.global 49) (.global 50)) 1 (some (89, true)),
        op 52 (.load 0 (.global 51)) 1 (some (89, true)),
        op 53 (.binOp .neq 0 (.global 45) (.global 52) 0) 1 (some (89, true)),
        op 54 (.pick (.global 44) (.global 53) (.const (B false))) 1,
        op 55 (.move (.global 54)) 1,
        op 56 (.move (.tmp 9)) 1 (some (111, true)),
        op 57 (.move (.tmp 10)) 1 (some (111, true)),
        op 58 (.binOp .neq 0 (.global 56) (.global 57) 0) 1 (some (111, true)),
        op 59 (.pick (.global 55) (.global 58) (.const (B false)))])
      (.cond (.tmp 59)
        (reg [op 60 (.move (.tmp 7)) 1,
          op 61 (.move (.tmp 8)) 1,
          op 62 (.buildSlice 1 1 #[(0, (.const (.agg #[(I 0)]))), (1, (.global 61))]) 1,
          op 63 (bi .append #[(.global 60), (.global 62)] 1) 1,
          op 7 (.move (.global 63))])
        .skip)))))
    (reg [op 19 (.move (.tmp 8)) 1,
      op 20 (.binOp .add 0 (.global 19) (.const (I 1)) 0) 1,
      op 8 (.move (.global 20))]))))))
(.seq (reg [op 64 (.move (.tmp 7)) 1,
  op 6 (.move (.global 64))])
.ret)))), [(6, 0)]⟩

/-- impl.sameSize -/
def fn186 : AFun := ⟨2,
(.seq (reg [op 2 (.makeChan 3 (.tmp 0)),
  op 3 (.makeChan 3 (.tmp 1)),
  op 4 (.move (.const (B false)))])
(.seq (reg [op 5 (.fieldAddr 0 (.tmp 2) 1) 1,
  op 6 (.lookup 0 (.tmp 2) (.global 5) false) 1,
  op 7 (.fieldAddr 0 (.tmp 3) 1) 1,
  op 8 (.lookup 0 (.tmp 3) (.global 7) false) 1,
  op 9 (.binOp .eql 0 (.global 6) (.global 8) 0) 1,
  op 10 (.move (.global 9)) 1,
  op 11 (.fieldAddr 1 (.tmp 2) 1) 1 (some (21, true)),
  op 12 (.lookup 0 (.tmp 2) (.global 11) false) 1 (some (21, true)),
  op 13 (.fieldAddr 1 (.tmp 3) 1) 1 (some (21, true)),
  op 14 (.lookup 0 (.tmp 3) (.global 13) false) 1 (some (21, true)),
  op 15 (.binOp .eql 0 (.global 12) (.global 14) 0) 1 (some (21, true)),
  op 16 (.pick (.global 10) (.global 15) (.const (B false))) 1,
  op 4 (.move (.global 16))])
.ret)), [(4, 0)]⟩

/-- laws.szKept -/
def fn293 : AFun := ⟨2,
(.seq (reg [op 2 (.makeChan 4 (.tmp 0)),
  op 4 (.move (.const (I 0)))])
(.seq (reg [op 5 (.move (.tmp 1)) 1,
  op 6 (.fieldAddr 0 (.tmp 2) 1) 1,
  op 7 (.lookup 0 (.tmp 2) (.global 6) false) 1,
  op 8 (bi .len #[(.global 7)] 0) 1,
  op 9 (.binOp .sub 0 (.global 5) (.global 8) 0) 1,
  op 1 (.move (.global 9))])
(.seq (.seq (reg [op 10 (.move (.tmp 1)) 1,
  op 11 (.binOp .lss 0 (.global 10) (.const (I 0)) 0)])
(.cond (.tmp 11)
  (.seq (reg [op 4 (.move (.const (I (-1))))])
  .ret)
  .skip))
(.seq (reg [op 12 (.fieldAddr 1 (.tmp 2) 1) 1,
  op 13 (.lookup 4 (.tmp 2) (.global 12) false) 1,
  op 14 (.move (.tmp 1)) 1,
  op 15 (call (.func 295) #[(.global 13), (.global 14)]) 1,
  op 1 (.move (.global 15))])
(.seq (.seq (reg [op 16 (.move (.tmp 1)) 1,
  op 17 (.binOp .lss 0 (.global 16) (.const (I 0)) 0)])
(.cond (.tmp 17)
  (.seq (reg [op 4 (.move (.const (I (-1))))])
  .ret)
  .skip))
(.seq (reg [op 18 (.move (.tmp 1)) 1,
  op 4 (.move (.global 18))])
.ret)))))), [(4, 0)]⟩

/-- spec.l02Same -/
def fn456 : AFun := ⟨2,
(.seq (reg [op 4 (.move (.const (B false)))])
(.seq (reg [op 5 (.move (.tmp 0)) 1,
  op 6 (.nilCheck (.global 5)) 1,
  op 7 (.fieldAddr 0 (.global 6) 0) 1,
  op 8 (.load 0 (.global 7)) 1,
  op 9 (.move (.tmp 1)) 1,
  op 10 (.nilCheck (.global 9)) 1,
  op 11 (.fieldAddr 0 (.global 10) 0) 1,
  op 12 (.load 0 (.global 11)) 1,
  op 13 (.binOp .eql 0 (.global 8) (.global 12) 0) 1,
  op 14 (.move (.global 13)) 1,
  op 15 (.move (.tmp 0)) 1 (some (29, true)),
  op 16 (.nilCheck (.global 15)) 1 (some (29, true)),
  op 17 (.fieldAddr 1 (.global 16) 0) 1 (some (29, true)),
  op 18 (.load 0 (.global 17)) 1 (some (29, true)),
  op 19 (.move (.tmp 1)) 1 (some (29, true)),
  op 20 (.nilCheck (.global 19)) 1 (some (29, true)),
  op 21 (.fieldAddr 1 (.global 20) 0) 1 (some (29, true)),
  op 22 (.load 0 (.global 21)) 1 (some (29, true)),
  op 23 (.binOp .eql 0 (.global 18) (.global 22) 0) 1 (some (29, true)),
  op 24 (.pick (.global 14) (.global 23) (.const (B false))) 1,
  op 25 (.move (.global 24)) 1,
  op 26 (.move (.tmp 0)) 1 (some (51, true)),
  op 27 (.nilCheck (.global 26)) 1 (some (51, true)),
  op 28 (.fieldAddr 2 (.global 27) 0) 1 (some (51, true)),
  op 29 (.load 0 (.global 28)) 1 (some (51, true)),
  op 30 (.move (.tmp 1)) 1 (some (51, true)),
  op 31 (.nilCheck (.global 30)) 1 (some (51, true)),
  op 32 (.fieldAddr 2 (.global 31) 0) 1 (some (51, true)),
  op 33 (.load 0 (.global 32)) 1 (some (51, true)),
  op 34 (call (.func 436) #[(.global 29), (.global 33)]) 1 (some (51, true)),
  op 35 (.pick (.global 25) (.global 34) (.const (B false))) 1,
  op 4 (.move (.global 35))])
.ret)), [(4, 0)]⟩

/-- laws.toKept -/
def fn301 : AFun := ⟨1,
(.seq (reg [op 1 (.makeChan 4 (.tmp 0)),
  op 2 (.move (.const (.agg #[(S []), (I 0), (I 0), (sl 0 0 0 0)])))])
(.seq (reg [op 3 (.move (.const (.agg #[(S []), (I 0), (I 0), (sl 0 0 0 0)])))])
(.seq (reg [op 4 (.fieldAddr 0 (.tmp 1) 1) 1,
  op 5 (.lookup 0 (.tmp 1) (.global 4) false) 1,
  op 6 (.fieldAddr 0 (.tmp 3) 1) 1,
  op 3 (.insert 1 (.tmp 3) (.global 6) (.global 5))])
(.seq (reg [op 7 (.fieldAddr 1 (.tmp 1) 1) 1,
  op 8 (.lookup 4 (.tmp 1) (.global 7) false) 1,
  op 9 (call (.func 303) #[(.global 8)]) 1,
  op 10 (.fieldAddr 1 (.tmp 3) 1) 1,
  op 3 (.insert 3 (.tmp 3) (.global 10) (.global 9))])
(.seq (reg [op 11 (.lookup 5 (.tmp 3) (.tmp 3) false) 1,
  op 2 (.insert 4 (.tmp 2) (.tmp 2) (.global 11))])
.ret))))), [(2, 1000005)]⟩

/-- slices.EqualFunc[[]impl.Kept,[]impl.Kept,impl.Kept,impl.Kept] -/
def fn312 : AFun := ⟨3,
(.seq (reg [op 6 (.move (.const (B false)))])
(.seq (.seq (reg [op 10 (.move (.tmp 0)) 1,
  op 11 (bi .len #[(.global 10)] 1) 1,
  op 12 (.move (.tmp 1)) 1,
  op 13 (bi .len #[(.global 12)] 1) 1,
  op 14 (.binOp .neq 0 (.global 11) (.global 13) 0)])
(.cond (.tmp 14)
  (.seq (reg [op 6 (.move (.const (B false)))])
  .ret)
  .skip))
(.seq (.seq (reg [op 15 (.move (.tmp 0)),
  op 16 (bi .len #[(.tmp 15)] 1),
  op 17 (.move (.const (I 0)))])
(.block 0
  (.loop
    (.seq (reg [op 18 (.binOp .lss 0 (.tmp 17) (.tmp 16) 0)])
    (.seq (.cond (.tmp 18)
      .skip
      (.exit 0))
    (.seq (.block 1
      (.seq (reg [op 19 (.move (.tmp 17)) 1,
        op 20 (.indexAddr 9 (.tmp 15) (.tmp 17)) 1,
        op 21 (.load 5 (.global 20)) 1,
        op 8 (.move (.const (.agg #[(S []), (I 0), (I 0), (sl 0 0 0 0)]))),
        op 7 (.move (.global 19)),
        op 8 (.insert 4 (.tmp 8) (.tmp 8) (.global 21))])
      (.seq (reg [op 22 (.move (.tmp 1)) 1,
        op 23 (.move (.tmp 7)) 1,
        op 24 (.indexAddr 9 (.global 22) (.global 23)) 1,
        op 25 (.load 5 (.global 24)) 1,
        op 9 (.move (.const (.agg #[(S []), (I 0), (I 0), (sl 0 0 0 0)]))),
        op 9 (.insert 4 (.tmp 9) (.tmp 9) (.global 25))])
      (.seq (reg [op 26 (.move (.tmp 2)) 1,
        op 27 (.lookup 5 (.tmp 8) (.tmp 8) false) 1,
        op 28 (.lookup 5 (.tmp 9) (.tmp 9) false) 1,
        op 29 (call (.global 26) #[(.global 27), (.global 28)]) 1,
        op 30 (.unOp .not 0 (.global 29))])
      (.cond (.tmp 30)
        (.seq (reg [op 6 (.move (.const (B false)))])
        .ret)
        .skip)))))
    (reg [op 31 (.binOp .add 0 (.tmp 17) (.const (I 1)) 0) 1,
      op 17 (.move (.global 31))])))))))
(.seq (reg [op 6 (.move (.const (B true)))])
.ret)))), [(6, 0)]⟩

/-- impl.SameKept$1 -/
def fn129 : AFun := ⟨2,
(.seq (reg [op 2 (.makeChan 4 (.tmp 0)),
  op 3 (.makeChan 4 (.tmp 1)),
  op 4 (.move (.const (B false)))])
(.seq (reg [op 5 (.fieldAddr 0 (.tmp 2) 1) 1,
  op 6 (.lookup 0 (.tmp 2) (.global 5) false) 1,
  op 7 (.fieldAddr 0 (.tmp 3) 1) 1,
  op 8 (.lookup 0 (.tmp 3) (.global 7) false) 1,
  op 9 (.binOp .eql 0 (.global 6) (.global 8) 0) 1,
  op 10 (.move (.global 9)) 1,
  op 11 (.fieldAddr 1 (.tmp 2) 1) 1 (some (21, true)),
  op 12 (.lookup 4 (.tmp 2) (.global 11) false) 1 (some (21, true)),
  op 13 (.fieldAddr 1 (.tmp 3) 1) 1 (some (21, true)),
  op 14 (.lookup 4 (.tmp 3) (.global 13) false) 1 (some (21, true)),
  op 15 (call (.func 130) #[(.global 12), (.global 14)]) 1 (some (21, true)),
  op 16 (.pick (.global 10) (.global 15) (.const (B false))) 1,
  op 4 (.move (.global 16))])
.ret)), [(4, 0)]⟩

/-- impl.SamePanel -/
def fn130 : AFun := ⟨2,
(.seq (reg [op 2 (.makeChan 3 (.tmp 0)),
  op 3 (.makeChan 3 (.tmp 1)),
  op 4 (.move (.const (B false)))])
(.seq (reg [op 5 (.fieldAddr 0 (.tmp 2) 1) 1,
  op 6 (.lookup 0 (.tmp 2) (.global 5) false) 1,
  op 7 (.fieldAddr 0 (.tmp 3) 1) 1,
  op 8 (.lookup 0 (.tmp 3) (.global 7) false) 1,
  op 9 (.binOp .eql 0 (.global 6) (.global 8) 0) 1,
  op 10 (.move (.global 9)) 1,
  op 11 (.fieldAddr 1 (.tmp 2) 1) 1 (some (21, true)),
  op 12 (.lookup 0 (.tmp 2) (.global 11) false) 1 (some (21, true)),
  op 13 (.fieldAddr 1 (.tmp 3) 1) 1 (some (21, true)),
  op 14 (.lookup 0 (.tmp 3) (.global 13) false) 1 (some (21, true)),
  op 15 (.binOp .eql 0 (.global 12) (.global 14) 0) 1 (some (21, true)),
  op 16 (.pick (.global 10) (.global 15) (.const (B false))) 1,
  op 17 (.move (.global 16)) 1,
  op 18 (.fieldAddr 2 (.tmp 2) 1) 1 (some (35, true)),
  op 19 (.lookup 0 (.tmp 2) (.global 18) false) 1 (some (35, true)),
  op 20 (.fieldAddr 2 (.tmp 3) 1) 1 (some (35, true)),
  op 21 (.lookup 0 (.tmp 3) (.global 20) false) 1 (some (35, true)),
  op 22 (call (.func 314) #[(.global 19), (.global 21)]) 1 (some (35, true)),
  op 23 (.pick (.global 17) (.global 22) (.const (B false))) 1,
  op 4 (.move (.global 23))])
.ret)), [(4, 0)]⟩

/-- laws.eqKept -/
def fn263 : AFun := ⟨2,
(.seq (reg [op 2 (.makeChan 4 (.tmp 0)),
  op 3 (.makeChan 4 (.tmp 1)),
  op 4 (.move (.const (B false)))])
(.seq (.seq (reg [op 5 (.fieldAddr 0 (.tmp 2) 1) 1,
  op 6 (.lookup 0 (.tmp 2) (.global 5) false) 1,
  op 7 (.fieldAddr 0 (.tmp 3) 1) 1,
  op 8 (.lookup 0 (.tmp 3) (.global 7) false) 1,
  op 9 (.binOp .neq 0 (.global 6) (.global 8) 0)])
(.cond (.tmp 9)
  (.seq (reg [op 4 (.move (.const (B false)))])
  .ret)
  .skip))
(.seq (.seq (reg [op 10 (.fieldAddr 1 (.tmp 2) 1) 1,
  op 11 (.lookup 4 (.tmp 2) (.global 10) false) 1,
  op 12 (.fieldAddr 1 (.tmp 3) 1) 1,
  op 13 (.lookup 4 (.tmp 3) (.global 12) false) 1,
  op 14 (call (.func 265) #[(.global 11), (.global 13)]) 1,
  op 15 (.unOp .not 0 (.global 14))])
(.cond (.tmp 15)
  (.seq (reg [op 4 (.move (.const (B false)))])
  .ret)
  .skip))
(.seq (reg [op 4 (.move (.const (B true)))])
.ret)))), [(4, 0)]⟩

/-- spec.l26Steps -/
def fn563 : AFun := ⟨2,
(.seq (reg [op 4 (.move (.const (B false)))])
(.seq (.seq (reg [op 6 (.move (.tmp 0)) 1,
  op 7 (bi .len #[(.global 6)] 1) 1,
  op 8 (.move (.tmp 1)) 1,
  op 9 (bi .len #[(.global 8)] 1) 1,
  op 10 (.binOp .neq 0 (.global 7) (.global 9) 0)])
(.cond (.tmp 10)
  (.seq (reg [op 4 (.move (.const (B false)))])
  .ret)
  .skip))
(.seq (.seq (reg [op 5 (.move (.const (I 0)))])
(.block 0
  (.loop
    (.seq (.seq (reg [op 11 (.move (.tmp 5)) 1,
      op 12 (.move (.tmp 0)) 1,
      op 13 (bi .len #[(.global 12)] 1) 1,
      op 14 (.binOp .lss 0 (.global 11) (.global 13) 0)])
    (.cond (.tmp 14)
      .skip
      (.exit 0)))
    (.seq (.block 1
      (.seq (reg [op 17 (.move (.tmp 0)) 1,
        op 18 (.move (.tmp 5)) 1,
        op 19 (.indexAddr 7 (.global 17) (.global 18)) 1,
        op 20 (.load 4 (.global 19)) 1,
        op 21 (.move (.tmp 1)) 1,
        op 22 (.move (.tmp 5)) 1,
        op 23 (.indexAddr 7 (.global 21) (.global 22)) 1,
        op 24 (.load 4 (.global 23)) 1,
        op 25 (.binOp .neq 5 (.global 20) (.global 24) 0)])
      (.cond (.tmp 25)
        (.seq (reg [op 4 (.move (.const (B false)))])
        .ret)
        .skip)))
    (reg [op 15 (.move (.tmp 5)) 1,
      op 16 (.binOp .add 0 (.global 15) (.const (I 1)) 0) 1,
      op 5 (.move (.global 16))]))))))
(.seq (reg [op 4 (.move (.const (B true)))])
.ret)))), [(4, 0)]⟩

/-- slices.Equal[[]impl.JournalStep,impl.JournalStep] -/
def fn313 : AFun := ⟨2,
(.seq (reg [op 4 (.move (.const (B false)))])
(.seq (.seq (reg [op 6 (.move (.tmp 0)) 1,
  op 7 (bi .len #[(.global 6)] 1) 1,
  op 8 (.move (.tmp 1)) 1,
  op 9 (bi .len #[(.global 8)] 1) 1,
  op 10 (.binOp .neq 0 (.global 7) (.global 9) 0)])
(.cond (.tmp 10)
  (.seq (reg [op 4 (.move (.const (B false)))])
  .ret)
  .skip))
(.seq (.seq (reg [op 11 (.move (.tmp 0)) 1,
  op 12 (bi .len #[(.global 11)] 1),
  op 13 (.move (.const (I 0)))])
(.block 0
  (.loop
    (.seq (reg [op 14 (.binOp .lss 0 (.tmp 13) (.tmp 12) 0)])
    (.seq (.cond (.tmp 14)
      .skip
      (.exit 0))
    (.seq (.block 1
      (.seq (reg [op 15 (.move (.tmp 13)) 1,
        op 5 (.move (.global 15))])
      (.seq (reg [op 16 (.move (.tmp 0)) 1,
        op 17 (.move (.tmp 5)) 1,
        op 18 (.indexAddr 7 (.global 16) (.global 17)) 1,
        op 19 (.load 4 (.global 18)) 1,
        op 20 (.move (.tmp 1)) 1,
        op 21 (.move (.tmp 5)) 1,
        op 22 (.indexAddr 7 (.global 20) (.global 21)) 1,
        op 23 (.load 4 (.global 22)) 1,
        op 24 (.binOp .neq 5 (.global 19) (.global 23) 0)])
      (.cond (.tmp 24)
        (.seq (reg [op 4 (.move (.const (B false)))])
        .ret)
        .skip))))
    (reg [op 25 (.binOp .add 0 (.tmp 13) (.const (I 1)) 0) 1,
      op 13 (.move (.global 25))])))))))
(.seq (reg [op 4 (.move (.const (B true)))])
.ret)))), [(4, 0)]⟩

/-- spec.l27Checked -/
def fn566 : AFun := ⟨1,
(.seq (reg [op 2 (.move (.const (B false)))])
(.seq (reg [op 4 (.move (.tmp 0)) 1,
  op 5 (bi .len #[(.global 4)] 0) 1,
  op 3 (.move (.global 5))])
(.seq (.seq (reg [op 6 (.move (.tmp 3)) 1,
  op 7 (.binOp .lss 0 (.global 6) (.const (I 2)) 0)])
(.cond (.tmp 7)
  (.seq (reg [op 2 (.move (.const (B false)))])
  .ret)
  .skip))
(.seq (reg [op 8 (.move (.tmp 0)) 1,
  op 9 (.move (.tmp 3)) 1,
  op 10 (.binOp .sub 0 (.global 9) (.const (I 2)) 0) 1,
  op 11 (.slice 0 (.global 8) none (some (.global 10)) none) 1,
  op 12 (call (.func 573) #[(.global 11)]) 1,
  op 13 (.move (.tmp 0)) 1,
  op 14 (.move (.tmp 3)) 1,
  op 15 (.binOp .sub 0 (.global 14) (.const (I 2)) 0) 1,
  op 16 (.index 0 (.global 13) (.global 15)) 1,
  op 17 (.convert 0 3 (.global 16)) 1,
  op 18 (.binOp .mul 0 (.const (I 256)) (.global 17) 0) 1,
  op 19 (.move (.tmp 0)) 1,
  op 20 (.move (.tmp 3)) 1,
  op 21 (.binOp .sub 0 (.global 20) (.const (I 1)) 0) 1,
  op 22 (.index 0 (.global 19) (.global 21)) 1,
  op 23 (.convert 0 3 (.global 22)) 1,
  op 24 (.binOp .add 0 (.global 18) (.global 23) 0) 1,
  op 25 (.binOp .eql 0 (.global 12) (.global 24) 0) 1,
  op 2 (.move (.global 25))])
.ret)))), [(2, 0)]⟩

/-- spec.l27Ended -/
def fn568 : AFun := ⟨1,
(.seq (reg [op 2 (.move (.const (S [])))])
(.seq (reg [op 4 (.move (.tmp 0)) 1,
  op 5 (.convert 0 21 (.global 4)) 1,
  op 6 (call (.func 573) #[(.global 5)]) 1,
  op 3 (.move (.global 6))])
(.seq (reg [op 7 (.move (.tmp 0)) 1,
  op 8 (.move (.tmp 3)) 1,
  op 9 (.binOp .quo 0 (.global 8) (.const (I 256)) 0) 1,
  op 10 (.convert 0 4 (.global 9)) 1,
  op 11 (.move (.tmp 3)) 1,
  op 12 (.binOp .rem 0 (.global 11) (.const (I 256)) 0) 1,
  op 13 (.convert 0 4 (.global 12)) 1,
  op 14 (.buildSlice 1 2 #[(0, (.const (.agg #[(U 0), (U 0)]))), (1, (.global 10)), (1001, (.global 13))]) 1,
  op 15 (bi .append #[(.global 7), (.global 14)] 1) 1,
  op 16 (.convert 0 21 (.global 15)) 1,
  op 2 (.move (.global 16))])
.ret))), [(2, 0)]⟩

/-- spec.l00Same -/
def fn436 : AFun := ⟨2,
(.seq (reg [op 4 (.move (.const (B false)))])
(.seq (.seq (reg [op 6 (.move (.tmp 0)) 1,
  op 7 (bi .len #[(.global 6)] 1) 1,
  op 8 (.move (.tmp 1)) 1,
  op 9 (bi .len #[(.global 8)] 1) 1,
  op 10 (.binOp .neq 0 (.global 7) (.global 9) 0)])
(.cond (.tmp 10)
  (.seq (reg [op 4 (.move (.const (B false)))])
  .ret)
  .skip))
(.seq (.seq (reg [op 5 (.move (.const (I 0)))])
(.block 0
  (.loop
    (.seq (.seq (reg [op 11 (.move (.tmp 5)) 1,
      op 12 (.move (.tmp 0)) 1,
      op 13 (bi .len #[(.global 12)] 1) 1,
      op 14 (.binOp .lss 0 (.global 11) (.global 13) 0)])
    (.cond (.tmp 14)
      .skip
      (.exit 0)))
    (.seq (.block 1
      (.seq (reg [op 17 (.move (.tmp 0)) 1,
        op 18 (.move (.tmp 5)) 1,
        op 19 (.indexAddr 3 (.global 17) (.global 18)) 1,
        op 20 (.load 0 (.global 19)) 1,
        op 21 (.move (.tmp 1)) 1,
        op 22 (.move (.tmp 5)) 1,
        op 23 (.indexAddr 3 (.global 21) (.global 22)) 1,
        op 24 (.load 0 (.global 23)) 1,
        op 25 (.binOp .neq 0 (.global 20) (.global 24) 0)])
      (.cond (.tmp 25)
        (.seq (reg [op 4 (.move (.const (B false)))])
        .ret)
        .skip)))
    (reg [op 15 (.move (.tmp 5)) 1,
      op 16 (.binOp .add 0 (.global 15) (.const (I 1)) 0) 1,
      op 5 (.move (.global 16))]))))))
(.seq (reg [op 4 (.move (.const (B true)))])
.ret)))), [(4, 0)]⟩

/-- slices.Equal[[]int64,int64] -/
def fn314 : AFun := ⟨2,
(.seq (reg [op 4 (.move (.const (B false)))])
(.seq (.seq (reg [op 6 (.move (.tmp 0)) 1,
  op 7 (bi .len #[(.global 6)] 1) 1,
  op 8 (.move (.tmp 1)) 1,
  op 9 (bi .len #[(.global 8)] 1) 1,
  op 10 (.binOp .neq 0 (.global 7) (.global 9) 0)])
(.cond (.tmp 10)
  (.seq (reg [op 4 (.move (.const (B false)))])
  .ret)
  .skip))
(.seq (.seq (reg [op 11 (.move (.tmp 0)) 1,
  op 12 (bi .len #[(.global 11)] 1),
  op 13 (.move (.const (I 0)))])
(.block 0
  (.loop
    (.seq (reg [op 14 (.binOp .lss 0 (.tmp 13) (.tmp 12) 0)])
    (.seq (.cond (.tmp 14)
      .skip
      (.exit 0))
    (.seq (.block 1
      (.seq (reg [op 15 (.move (.tmp 13)) 1,
        op 5 (.move (.global 15))])
      (.seq (reg [op 16 (.move (.tmp 0)) 1,
        op 17 (.move (.tmp 5)) 1,
        op 18 (.indexAddr 3 (.global 16) (.global 17)) 1,
        op 19 (.load 0 (.global 18)) 1,
        op 20 (.move (.tmp 1)) 1,
        op 21 (.move (.tmp 5)) 1,
        op 22 (.indexAddr 3 (.global 20) (.global 21)) 1,
        op 23 (.load 0 (.global 22)) 1,
        op 24 (.binOp .neq 0 (.global 19) (.global 23) 0)])
      (.cond (.tmp 24)
        (.seq (reg [op 4 (.move (.const (B false)))])
        .ret)
        .skip))))
    (reg [op 25 (.binOp .add 0 (.tmp 13) (.const (I 1)) 0) 1,
      op 13 (.move (.global 25))])))))))
(.seq (reg [op 4 (.move (.const (B true)))])
.ret)))), [(4, 0)]⟩

def tab : Tab := [(233, fn233), (206, fn206), (228, fn228), (248, fn248), (234, fn234), (244, fn244), (211, fn211), (242, fn242), (215, fn215), (237, fn237), (245, fn245), (216, fn216), (295, fn295), (406, fn406), (303, fn303), (114, fn114), (265, fn265), (286, fn286), (279, fn279), (296, fn296), (331, fn331), (305, fn305), (62, fn62), (267, fn267), (287, fn287), (394, fn394), (101, fn101), (260, fn260), (283, fn283), (276, fn276), (291, fn291), (427, fn427), (298, fn298), (138, fn138), (410, fn410), (119, fn119), (280, fn280), (423, fn423), (133, fn133), (344, fn344), (77, fn77), (421, fn421), (131, fn131), (348, fn348), (82, fn82), (414, fn414), (123, fn123), (424, fn424), (134, fn134), (379, fn379), (86, fn86), (290, fn290), (452, fn452), (549, fn549), (453, fn453), (551, fn551), (297, fn297), (140, fn140), (33, fn33), (150, fn150), (46, fn46), (259, fn259), (282, fn282), (275, fn275), (432, fn432), (449, fn449), (304, fn304), (163, fn163), (196, fn196), (266, fn266), (262, fn262), (284, fn284), (277, fn277), (292, fn292), (558, fn558), (300, fn300), (199, fn199), (441, fn441), (439, fn439), (467, fn467), (550, fn550), (189, fn189), (118, fn118), (174, fn174), (197, fn197), (561, fn561), (22, fn22), (580, fn580), (157, fn157), (559, fn559), (556, fn556), (148, fn148), (560, fn560), (1, fn1), (564, fn564), (2, fn2), (164, fn164), (457, fn457), (448, fn448), (435, fn435), (454, fn454), (451, fn451), (198, fn198), (166, fn166), (308, fn308), (49, fn49), (40, fn40), (188, fn188), (261, fn261), (562, fn562), (299, fn299), (438, fn438), (437, fn437), (75, fn75), (402, fn402), (182, fn182), (307, fn307), (455, fn455), (472, fn472), (325, fn325), (470, fn470), (323, fn323), (319, fn319), (217, fn217), (207, fn207), (231, fn231), (212, fn212), (235, fn235), (219, fn219), (380, fn380), (87, fn87), (333, fn333), (64, fn64), (399, fn399), (108, fn108), (345, fn345), (78, fn78), (268, fn268), (288, fn288), (281, fn281), (411, fn411), (120, fn120), (382, fn382), (89, fn89), (573, fn573), (572, fn572), (181, fn181), (581, fn581), (289, fn289), (567, fn567), (183, fn183), (218, fn218), (227, fn227), (214, fn214), (230, fn230), (208, fn208), (241, fn241), (240, fn240), (247, fn247), (232, fn232), (213, fn213), (225, fn225), (220, fn220), (381, fn381), (88, fn88), (393, fn393), (100, fn100), (347, fn347), (80, fn80), (398, fn398), (107, fn107), (334, fn334), (65, fn65), (294, fn294), (419, fn419), (302, fn302), (128, fn128), (264, fn264), (418, fn418), (127, fn127), (426, fn426), (136, fn136), (403, fn403), (111, fn111), (346, fn346), (79, fn79), (391, fn391), (98, fn98), (384, fn384), (92, fn92), (574, fn574), (191, fn191), (195, fn195), (450, fn450), (177, fn177), (553, fn553), (167, fn167), (571, fn571), (180, fn180), (552, fn552), (548, fn548), (186, fn186), (293, fn293), (456, fn456), (301, fn301), (312, fn312), (129, fn129), (130, fn130), (263, fn263), (563, fn563), (313, fn313), (566, fn566), (568, fn568), (436, fn436), (314, fn314)]
def Gam : Nat → Option AFun := look tab
theorem g233 : Gam 233 = some fn233 := rfl
theorem g206 : Gam 206 = some fn206 := rfl
theorem g228 : Gam 228 = some fn228 := rfl
theorem g248 : Gam 248 = some fn248 := rfl
theorem g234 : Gam 234 = some fn234 := rfl
theorem g244 : Gam 244 = some fn244 := rfl
theorem g211 : Gam 211 = some fn211 := rfl
theorem g242 : Gam 242 = some fn242 := rfl
theorem g215 : Gam 215 = some fn215 := rfl
theorem g237 : Gam 237 = some fn237 := rfl
theorem g245 : Gam 245 = some fn245 := rfl
theorem g216 : Gam 216 = some fn216 := rfl
theorem g295 : Gam 295 = some fn295 := rfl
theorem g406 : Gam 406 = some fn406 := rfl
theorem g303 : Gam 303 = some fn303 := rfl
theorem g114 : Gam 114 = some fn114 := rfl
theorem g265 : Gam 265 = some fn265 := rfl
theorem g286 : Gam 286 = some fn286 := rfl
theorem g279 : Gam 279 = some fn279 := rfl
theorem g296 : Gam 296 = some fn296 := rfl
theorem g331 : Gam 331 = some fn331 := rfl
theorem g305 : Gam 305 = some fn305 := rfl
theorem g62 : Gam 62 = some fn62 := rfl
theorem g267 : Gam 267 = some fn267 := rfl
theorem g287 : Gam 287 = some fn287 := rfl
theorem g394 : Gam 394 = some fn394 := rfl
theorem g101 : Gam 101 = some fn101 := rfl
theorem g260 : Gam 260 = some fn260 := rfl
theorem g283 : Gam 283 = some fn283 := rfl
theorem g276 : Gam 276 = some fn276 := rfl
theorem g291 : Gam 291 = some fn291 := rfl
theorem g427 : Gam 427 = some fn427 := rfl
theorem g298 : Gam 298 = some fn298 := rfl
theorem g138 : Gam 138 = some fn138 := rfl
theorem g410 : Gam 410 = some fn410 := rfl
theorem g119 : Gam 119 = some fn119 := rfl
theorem g280 : Gam 280 = some fn280 := rfl
theorem g423 : Gam 423 = some fn423 := rfl
theorem g133 : Gam 133 = some fn133 := rfl
theorem g344 : Gam 344 = some fn344 := rfl
theorem g77 : Gam 77 = some fn77 := rfl
theorem g421 : Gam 421 = some fn421 := rfl
theorem g131 : Gam 131 = some fn131 := rfl
theorem g348 : Gam 348 = some fn348 := rfl
theorem g82 : Gam 82 = some fn82 := rfl
theorem g414 : Gam 414 = some fn414 := rfl
theorem g123 : Gam 123 = some fn123 := rfl
theorem g424 : Gam 424 = some fn424 := rfl
theorem g134 : Gam 134 = some fn134 := rfl
theorem g379 : Gam 379 = some fn379 := rfl
theorem g86 : Gam 86 = some fn86 := rfl
theorem g290 : Gam 290 = some fn290 := rfl
theorem g452 : Gam 452 = some fn452 := rfl
theorem g549 : Gam 549 = some fn549 := rfl
theorem g453 : Gam 453 = some fn453 := rfl
theorem g551 : Gam 551 = some fn551 := rfl
theorem g297 : Gam 297 = some fn297 := rfl
theorem g140 : Gam 140 = some fn140 := rfl
theorem g33 : Gam 33 = some fn33 := rfl
theorem g150 : Gam 150 = some fn150 := rfl
theorem g46 : Gam 46 = some fn46 := rfl
theorem g259 : Gam 259 = some fn259 := rfl
theorem g282 : Gam 282 = some fn282 := rfl
theorem g275 : Gam 275 = some fn275 := rfl
theorem g432 : Gam 432 = some fn432 := rfl
theorem g449 : Gam 449 = some fn449 := rfl
theorem g304 : Gam 304 = some fn304 := rfl
theorem g163 : Gam 163 = some fn163 := rfl
theorem g196 : Gam 196 = some fn196 := rfl
theorem g266 : Gam 266 = some fn266 := rfl
theorem g262 : Gam 262 = some fn262 := rfl
theorem g284 : Gam 284 = some fn284 := rfl
theorem g277 : Gam 277 = some fn277 := rfl
theorem g292 : Gam 292 = some fn292 := rfl
theorem g558 : Gam 558 = some fn558 := rfl
theorem g300 : Gam 300 = some fn300 := rfl
theorem g199 : Gam 199 = some fn199 := rfl
theorem g441 : Gam 441 = some fn441 := rfl
theorem g439 : Gam 439 = some fn439 := rfl
theorem g467 : Gam 467 = some fn467 := rfl
theorem g550 : Gam 550 = some fn550 := rfl
theorem g189 : Gam 189 = some fn189 := rfl
theorem g118 : Gam 118 = some fn118 := rfl
theorem g174 : Gam 174 = some fn174 := rfl
theorem g197 : Gam 197 = some fn197 := rfl
theorem g561 : Gam 561 = some fn561 := rfl
theorem g22 : Gam 22 = some fn22 := rfl
theorem g580 : Gam 580 = some fn580 := rfl
theorem g157 : Gam 157 = some fn157 := rfl
theorem g559 : Gam 559 = some fn559 := rfl
theorem g556 : Gam 556 = some fn556 := rfl
theorem g148 : Gam 148 = some fn148 := rfl
theorem g560 : Gam 560 = some fn560 := rfl
theorem g1 : Gam 1 = some fn1 := rfl
theorem g564 : Gam 564 = some fn564 := rfl
theorem g2 : Gam 2 = some fn2 := rfl
theorem g164 : Gam 164 = some fn164 := rfl
theorem g457 : Gam 457 = some fn457 := rfl
theorem g448 : Gam 448 = some fn448 := rfl
theorem g435 : Gam 435 = some fn435 := rfl
theorem g454 : Gam 454 = some fn454 := rfl
theorem g451 : Gam 451 = some fn451 := rfl
theorem g198 : Gam 198 = some fn198 := rfl
theorem g166 : Gam 166 = some fn166 := rfl
theorem g308 : Gam 308 = some fn308 := rfl
theorem g49 : Gam 49 = some fn49 := rfl
theorem g40 : Gam 40 = some fn40 := rfl
theorem g188 : Gam 188 = some fn188 := rfl
theorem g261 : Gam 261 = some fn261 := rfl
theorem g562 : Gam 562 = some fn562 := rfl
theorem g299 : Gam 299 = some fn299 := rfl
theorem g438 : Gam 438 = some fn438 := rfl
theorem g437 : Gam 437 = some fn437 := rfl
theorem g75 : Gam 75 = some fn75 := rfl
theorem g402 : Gam 402 = some fn402 := rfl
theorem g182 : Gam 182 = some fn182 := rfl
theorem g307 : Gam 307 = some fn307 := rfl
theorem g455 : Gam 455 = some fn455 := rfl
theorem g472 : Gam 472 = some fn472 := rfl
theorem g325 : Gam 325 = some fn325 := rfl
theorem g470 : Gam 470 = some fn470 := rfl
theorem g323 : Gam 323 = some fn323 := rfl
theorem g319 : Gam 319 = some fn319 := rfl
theorem g217 : Gam 217 = some fn217 := rfl
theorem g207 : Gam 207 = some fn207 := rfl
theorem g231 : Gam 231 = some fn231 := rfl
theorem g212 : Gam 212 = some fn212 := rfl
theorem g235 : Gam 235 = some fn235 := rfl
theorem g219 : Gam 219 = some fn219 := rfl
theorem g380 : Gam 380 = some fn380 := rfl
theorem g87 : Gam 87 = some fn87 := rfl
theorem g333 : Gam 333 = some fn333 := rfl
theorem g64 : Gam 64 = some fn64 := rfl
theorem g399 : Gam 399 = some fn399 := rfl
theorem g108 : Gam 108 = some fn108 := rfl
theorem g345 : Gam 345 = some fn345 := rfl
theorem g78 : Gam 78 = some fn78 := rfl
theorem g268 : Gam 268 = some fn268 := rfl
theorem g288 : Gam 288 = some fn288 := rfl
theorem g281 : Gam 281 = some fn281 := rfl
theorem g411 : Gam 411 = some fn411 := rfl
theorem g120 : Gam 120 = some fn120 := rfl
theorem g382 : Gam 382 = some fn382 := rfl
theorem g89 : Gam 89 = some fn89 := rfl
theorem g573 : Gam 573 = some fn573 := rfl
theorem g572 : Gam 572 = some fn572 := rfl
theorem g181 : Gam 181 = some fn181 := rfl
theorem g581 : Gam 581 = some fn581 := rfl
theorem g289 : Gam 289 = some fn289 := rfl
theorem g567 : Gam 567 = some fn567 := rfl
theorem g183 : Gam 183 = some fn183 := rfl
theorem g218 : Gam 218 = some fn218 := rfl
theorem g227 : Gam 227 = some fn227 := rfl
theorem g214 : Gam 214 = some fn214 := rfl
theorem g230 : Gam 230 = some fn230 := rfl
theorem g208 : Gam 208 = some fn208 := rfl
theorem g241 : Gam 241 = some fn241 := rfl
theorem g240 : Gam 240 = some fn240 := rfl
theorem g247 : Gam 247 = some fn247 := rfl
theorem g232 : Gam 232 = some fn232 := rfl
theorem g213 : Gam 213 = some fn213 := rfl
theorem g225 : Gam 225 = some fn225 := rfl
theorem g220 : Gam 220 = some fn220 := rfl
theorem g381 : Gam 381 = some fn381 := rfl
theorem g88 : Gam 88 = some fn88 := rfl
theorem g393 : Gam 393 = some fn393 := rfl
theorem g100 : Gam 100 = some fn100 := rfl
theorem g347 : Gam 347 = some fn347 := rfl
theorem g80 : Gam 80 = some fn80 := rfl
theorem g398 : Gam 398 = some fn398 := rfl
theorem g107 : Gam 107 = some fn107 := rfl
theorem g334 : Gam 334 = some fn334 := rfl
theorem g65 : Gam 65 = some fn65 := rfl
theorem g294 : Gam 294 = some fn294 := rfl
theorem g419 : Gam 419 = some fn419 := rfl
theorem g302 : Gam 302 = some fn302 := rfl
theorem g128 : Gam 128 = some fn128 := rfl
theorem g264 : Gam 264 = some fn264 := rfl
theorem g418 : Gam 418 = some fn418 := rfl
theorem g127 : Gam 127 = some fn127 := rfl
theorem g426 : Gam 426 = some fn426 := rfl
theorem g136 : Gam 136 = some fn136 := rfl
theorem g403 : Gam 403 = some fn403 := rfl
theorem g111 : Gam 111 = some fn111 := rfl
theorem g346 : Gam 346 = some fn346 := rfl
theorem g79 : Gam 79 = some fn79 := rfl
theorem g391 : Gam 391 = some fn391 := rfl
theorem g98 : Gam 98 = some fn98 := rfl
theorem g384 : Gam 384 = some fn384 := rfl
theorem g92 : Gam 92 = some fn92 := rfl
theorem g574 : Gam 574 = some fn574 := rfl
theorem g191 : Gam 191 = some fn191 := rfl
theorem g195 : Gam 195 = some fn195 := rfl
theorem g450 : Gam 450 = some fn450 := rfl
theorem g177 : Gam 177 = some fn177 := rfl
theorem g553 : Gam 553 = some fn553 := rfl
theorem g167 : Gam 167 = some fn167 := rfl
theorem g571 : Gam 571 = some fn571 := rfl
theorem g180 : Gam 180 = some fn180 := rfl
theorem g552 : Gam 552 = some fn552 := rfl
theorem g548 : Gam 548 = some fn548 := rfl
theorem g186 : Gam 186 = some fn186 := rfl
theorem g293 : Gam 293 = some fn293 := rfl
theorem g456 : Gam 456 = some fn456 := rfl
theorem g301 : Gam 301 = some fn301 := rfl
theorem g312 : Gam 312 = some fn312 := rfl
theorem g129 : Gam 129 = some fn129 := rfl
theorem g130 : Gam 130 = some fn130 := rfl
theorem g263 : Gam 263 = some fn263 := rfl
theorem g563 : Gam 563 = some fn563 := rfl
theorem g313 : Gam 313 = some fn313 := rfl
theorem g566 : Gam 566 = some fn566 := rfl
theorem g568 : Gam 568 = some fn568 := rfl
theorem g436 : Gam 436 = some fn436 := rfl
theorem g314 : Gam 314 = some fn314 := rfl
end Am
