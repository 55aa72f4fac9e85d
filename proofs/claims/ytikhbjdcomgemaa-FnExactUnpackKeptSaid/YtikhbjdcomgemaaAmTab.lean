/- The functions that are reached, in their normal form; written by a program. -/
import Derived.Test.YtikhbjdcomgemaaAmTab1
set_option linter.unusedVariables false
set_option maxRecDepth 100000
namespace Am
open Go
/-- spec.l06Compare -/
def fn474 : AFun := ⟨2,
(.seq (reg [op 4 (.move (.const (I 0)))])
(.seq (reg [op 6 (.move (.tmp 0)) 1,
  op 7 (.nilCheck (.global 6)) 1,
  op 8 (.fieldAddr 0 (.global 7) 0) 1,
  op 9 (.load 0 (.global 8)) 1,
  op 10 (.move (.tmp 0)) 1,
  op 11 (.nilCheck (.global 10)) 1,
  op 12 (.fieldAddr 1 (.global 11) 0) 1,
  op 13 (.load 0 (.global 12)) 1,
  op 14 (.buildSlice 1 2 #[(0, (.const (.agg #[(I 0), (I 0)]))), (1, (.global 9)), (1001, (.global 13))]) 1,
  op 15 (.move (.tmp 1)) 1,
  op 16 (.nilCheck (.global 15)) 1,
  op 17 (.fieldAddr 0 (.global 16) 0) 1,
  op 18 (.load 0 (.global 17)) 1,
  op 19 (.move (.tmp 1)) 1,
  op 20 (.nilCheck (.global 19)) 1,
  op 21 (.fieldAddr 1 (.global 20) 0) 1,
  op 22 (.load 0 (.global 21)) 1,
  op 23 (.buildSlice 1 2 #[(0, (.const (.agg #[(I 0), (I 0)]))), (1, (.global 18)), (1001, (.global 22))]) 1,
  op 24 (call (.func 478) #[(.global 14), (.global 23)]) 1,
  op 5 (.move (.global 24))])
(.seq (.seq (reg [op 25 (.move (.tmp 5)) 1,
  op 26 (.binOp .neq 0 (.global 25) (.const (I 0)) 0)])
(.cond (.tmp 26)
  (.seq (reg [op 27 (.move (.tmp 5)) 1,
    op 4 (.move (.global 27))])
  .ret)
  .skip))
(.seq (reg [op 28 (.move (.tmp 0)) 1,
  op 29 (.nilCheck (.global 28)) 1,
  op 30 (.fieldAddr 2 (.global 29) 0) 1,
  op 31 (.load 0 (.global 30)) 1,
  op 32 (.move (.tmp 1)) 1,
  op 33 (.nilCheck (.global 32)) 1,
  op 34 (.fieldAddr 2 (.global 33) 0) 1,
  op 35 (.load 0 (.global 34)) 1,
  op 36 (call (.func 478) #[(.global 31), (.global 35)]) 1,
  op 4 (.move (.global 36))])
.ret)))), [(4, 0)]⟩

/-- spec.l27Pack -/
def fn571 : AFun := ⟨1,
(.seq (reg [op 2 (.move (.const (S [])))])
(.seq (reg [op 7 (.move (.tmp 0)) 1,
  op 8 (.nilCheck (.global 7)) 1,
  op 9 (.fieldAddr 0 (.global 8) 0) 1,
  op 10 (.load 0 (.global 9)) 1,
  op 11 (.convert 0 4 (.global 10)) 1,
  op 12 (.move (.tmp 0)) 1,
  op 13 (.nilCheck (.global 12)) 1,
  op 14 (.fieldAddr 1 (.global 13) 0) 1,
  op 15 (.load 0 (.global 14)) 1,
  op 16 (.convert 0 4 (.global 15)) 1,
  op 17 (.buildSlice 1 3 #[(0, (.const (.agg #[(U 0), (U 0), (U 0)]))), (1, (.const (U 77))), (1001, (.global 11)), (2001, (.global 16))]) 1,
  op 3 (.move (.global 17))])
(.seq (.seq (reg [op 4 (.move (.const (I 0)))])
(.block 0
  (.loop
    (.seq (.seq (reg [op 18 (.move (.tmp 4)) 1,
      op 19 (.move (.tmp 0)) 1,
      op 20 (.nilCheck (.global 19)) 1,
      op 21 (.fieldAddr 2 (.global 20) 0) 1,
      op 22 (.load 0 (.global 21)) 1,
      op 23 (bi .len #[(.global 22)] 1) 1,
      op 24 (.binOp .lss 0 (.global 18) (.global 23) 0)])
    (.cond (.tmp 24)
      .skip
      (.exit 0)))
    (.seq (.block 1
      (.seq (reg [op 5 (.move (.const (I 0)))])
      (.seq (.seq (reg [op 27 (.move (.tmp 4)) 1,
        op 6 (.move (.global 27))])
      (.block 2
        (.loop
          (.seq (.seq (reg [op 28 (.move (.tmp 6)) 1,
            op 29 (.move (.tmp 4)) 1,
            op 30 (.binOp .add 0 (.global 29) (.const (I 5)) 0) 1,
            op 31 (.binOp .lss 0 (.global 28) (.global 30) 0)])
          (.cond (.tmp 31)
            .skip
            (.exit 2)))
          (.seq (.block 3
            (.seq (reg [op 34 (.move (.tmp 5)) 1,
              op 35 (.binOp .mul 0 (.global 34) (.const (I 3)) 0) 1,
              op 5 (.move (.global 35))])
            (.seq (reg [op 36 (.move (.tmp 6)) 1,
              op 37 (.move (.tmp 0)) 1,
              op 38 (.nilCheck (.global 37)) 1,
              op 39 (.fieldAddr 2 (.global 38) 0) 1,
              op 40 (.load 0 (.global 39)) 1,
              op 41 (bi .len #[(.global 40)] 1) 1,
              op 42 (.binOp .lss 0 (.global 36) (.global 41) 0)])
            (.cond (.tmp 42)
              (reg [op 43 (.move (.tmp 5)) 1,
                op 44 (.move (.tmp 0)) 1,
                op 45 (.nilCheck (.global 44)) 1,
                op 46 (.fieldAddr 2 (.global 45) 0) 1,
                op 47 (.load 0 (.global 46)) 1,
                op 48 (.move (.tmp 6)) 1,
                op 49 (.indexAddr 3 (.global 47) (.global 48)) 1,
                op 50 (.load 0 (.global 49)) 1,
                op 51 (.binOp .add 0 (.global 43) (.global 50) 0) 1,
                op 5 (.move (.global 51))])
              .skip))))
          (reg [op 32 (.move (.tmp 6)) 1,
            op 33 (.binOp .add 0 (.global 32) (.const (I 1)) 0) 1,
            op 6 (.move (.global 33))]))))))
      (reg [op 52 (.move (.tmp 3)) 1,
        op 53 (.move (.tmp 5)) 1,
        op 54 (.convert 0 4 (.global 53)) 1,
        op 55 (.buildSlice 1 1 #[(0, (.const (.agg #[(U 0)]))), (1, (.global 54))]) 1,
        op 56 (bi .append #[(.global 52), (.global 55)] 1) 1,
        op 3 (.move (.global 56))]))))
    (reg [op 25 (.move (.tmp 4)) 1,
      op 26 (.binOp .add 0 (.global 25) (.const (I 5)) 0) 1,
      op 4 (.move (.global 26))]))))))
(.seq (reg [op 57 (.move (.tmp 3)) 1,
  op 58 (call (.func 568) #[(.global 57)]) 1,
  op 2 (.move (.global 58))])
.ret)))), [(2, 0)]⟩

/-- spec.l27Ended -/
def fn568 : AFun := ⟨1,
(.seq (reg [op 2 (.move (.const (S [])))])
(.seq (reg [op 4 (.move (.tmp 0)) 1,
  op 5 (.convert 0 21 (.global 4)) 1,
  op 6 (call (.func 573) #[(.global 5)]) 1,
  op 3 (.move (.global 6))])
(.seq (reg [op 7 (.move (.tmp 0)) 1,
  op 8 (.move (.tmp 3)) 1,
  op 9 (.binOp .quo 0 (.global 8) (.const (I 256)) 0) 1,
  op 10 (.convert 0 4 (.global 9)) 1,
  op 11 (.move (.tmp 3)) 1,
  op 12 (.binOp .rem 0 (.global 11) (.const (I 256)) 0) 1,
  op 13 (.convert 0 4 (.global 12)) 1,
  op 14 (.buildSlice 1 2 #[(0, (.const (.agg #[(U 0), (U 0)]))), (1, (.global 10)), (1001, (.global 13))]) 1,
  op 15 (bi .append #[(.global 7), (.global 14)] 1) 1,
  op 16 (.convert 0 21 (.global 15)) 1,
  op 2 (.move (.global 16))])
.ret))), [(2, 0)]⟩

/-- impl.ChecksumOf -/
def fn64 : AFun := ⟨1,
(.seq (reg [op 2 (.move (.const (I 0)))])
(.seq (reg [op 3 (.move (.const (I 1))),
  op 4 (.move (.const (I 0)))])
(.seq (.seq (reg [op 6 (.move (.tmp 0)) 1,
  op 7 (bi .len #[(.global 6)] 0),
  op 8 (.move (.const (I 0)))])
(.block 0
  (.loop
    (.seq (reg [op 9 (.binOp .lss 0 (.tmp 8) (.tmp 7) 0)])
    (.seq (.cond (.tmp 9)
      .skip
      (.exit 0))
    (.seq (.block 1
      (.seq (reg [op 10 (.move (.tmp 8)) 1,
        op 5 (.move (.global 10))])
      (.seq (reg [op 11 (.move (.tmp 3)) 1,
        op 12 (.move (.tmp 0)) 1,
        op 13 (.move (.tmp 5)) 1,
        op 14 (.index 0 (.global 12) (.global 13)) 1,
        op 15 (.convert 0 3 (.global 14)) 1,
        op 16 (.binOp .add 0 (.global 11) (.global 15) 0) 1,
        op 17 (.binOp .rem 0 (.global 16) (.const (I 251)) 0) 1,
        op 3 (.move (.global 17))])
      (reg [op 18 (.move (.tmp 4)) 1,
        op 19 (.move (.tmp 3)) 1,
        op 20 (.binOp .add 0 (.global 18) (.global 19) 0) 1,
        op 21 (.binOp .rem 0 (.global 20) (.const (I 251)) 0) 1,
        op 4 (.move (.global 21))]))))
    (reg [op 22 (.binOp .add 0 (.tmp 8) (.const (I 1)) 0) 1,
      op 8 (.move (.global 22))])))))))
(.seq (reg [op 23 (.move (.tmp 4)) 1,
  op 24 (.binOp .mul 0 (.const (I 256)) (.global 23) 0) 1,
  op 25 (.move (.tmp 3)) 1,
  op 26 (.binOp .add 0 (.global 24) (.global 25) 0) 1,
  op 2 (.move (.global 26))])
.ret)))), [(2, 0)]⟩

/-- spec.l05Text -/
def fn472 : AFun := ⟨1,
(.seq (reg [op 2 (.move (.const (S [])))])
(.seq (reg [op 5 (.move (.tmp 0)) 1,
  op 6 (.nilCheck (.global 5)) 1,
  op 7 (.fieldAddr 0 (.global 6) 0) 1,
  op 8 (.load 0 (.global 7)) 1,
  op 9 (call (.func 437) #[(.global 8)]) 3,
  op 10 (.binOp .add 0 (.global 9) (.const (S [120])) 0) 1,
  op 11 (.move (.tmp 0)) 1,
  op 12 (.nilCheck (.global 11)) 1,
  op 13 (.fieldAddr 1 (.global 12) 0) 1,
  op 14 (.load 0 (.global 13)) 1,
  op 15 (call (.func 437) #[(.global 14)]) 1,
  op 16 (.binOp .add 0 (.global 10) (.global 15) 0) 1,
  op 17 (.binOp .add 0 (.global 16) (.const (S [58])) 0) 1,
  op 18 (.convert 0 20 (.global 17)) 1,
  op 3 (.move (.global 18))])
(.seq (.seq (reg [op 4 (.move (.const (I 0)))])
(.block 0
  (.loop
    (.seq (.seq (reg [op 19 (.move (.tmp 4)) 1,
      op 20 (.move (.tmp 0)) 1,
      op 21 (.nilCheck (.global 20)) 1,
      op 22 (.fieldAddr 2 (.global 21) 0) 1,
      op 23 (.load 0 (.global 22)) 1,
      op 24 (bi .len #[(.global 23)] 1) 1,
      op 25 (.binOp .lss 0 (.global 19) (.global 24) 0)])
    (.cond (.tmp 25)
      .skip
      (.exit 0)))
    (.seq (.block 1
      (reg [op 28 (.move (.tmp 3)) 1,
        op 29 (.move (.tmp 0)) 1,
        op 30 (.nilCheck (.global 29)) 1,
        op 31 (.fieldAddr 2 (.global 30) 0) 1,
        op 32 (.load 0 (.global 31)) 1,
        op 33 (.move (.tmp 4)) 1,
        op 34 (.indexAddr 3 (.global 32) (.global 33)) 1,
        op 35 (.load 0 (.global 34)) 1,
        op 36 (call (.func 470) #[(.global 35)]) 1,
        op 37 (.buildSlice 1 1 #[(0, (.const (.agg #[(U 0)]))), (1, (.global 36))]) 1,
        op 38 (bi .append #[(.global 28), (.global 37)] 1) 1,
        op 3 (.move (.global 38))]))
    (reg [op 26 (.move (.tmp 4)) 1,
      op 27 (.binOp .add 0 (.global 26) (.const (I 1)) 0) 1,
      op 4 (.move (.global 27))]))))))
(.seq (reg [op 39 (.move (.tmp 3)) 1,
  op 40 (.convert 0 21 (.global 39)) 1,
  op 2 (.move (.global 40))])
.ret)))), [(2, 0)]⟩

/-- impl.panelText -/
def fn182 : AFun := ⟨1,
(.seq (reg [op 1 (.makeChan 3 (.tmp 0)),
  op 2 (.move (.const (S [])))])
(.seq (reg [op 6 (.fieldAddr 0 (.tmp 1) 1) 1,
  op 7 (.lookup 0 (.tmp 1) (.global 6) false) 1,
  op 8 (call (.func 75) #[(.global 7)]) 1,
  op 9 (.binOp .add 0 (.global 8) (.const (S [120])) 0) 1,
  op 10 (.fieldAddr 1 (.tmp 1) 1) 1,
  op 11 (.lookup 0 (.tmp 1) (.global 10) false) 1,
  op 12 (call (.func 75) #[(.global 11)]) 1,
  op 13 (.binOp .add 0 (.global 9) (.global 12) 0) 1,
  op 14 (.binOp .add 0 (.global 13) (.const (S [58])) 0) 1,
  op 3 (.move (.global 14))])
(.seq (.seq (reg [op 15 (.fieldAddr 2 (.tmp 1) 1) 1,
  op 16 (.lookup 0 (.tmp 1) (.global 15) false),
  op 17 (bi .len #[(.tmp 16)] 1),
  op 18 (.move (.const (I 0)))])
(.block 0
  (.loop
    (.seq (reg [op 19 (.binOp .lss 0 (.tmp 18) (.tmp 17) 0)])
    (.seq (.cond (.tmp 19)
      .skip
      (.exit 0))
    (.seq (.block 1
      (.seq (reg [op 20 (.indexAddr 3 (.tmp 16) (.tmp 18)) 1,
        op 21 (.load 0 (.global 20)) 1,
        op 5 (.move (.global 21))])
      (reg [op 22 (.move (.tmp 3)) 1,
        op 23 (.move (.tmp 5)) 1,
        op 24 (.move (.tmp 5)) 1,
        op 25 (.binOp .add 0 (.global 24) (.const (I 1)) 0) 1,
        op 26 (.slice 0 (.const (S [43, 124, 45])) (some (.global 23)) (some (.global 25)) none) 1,
        op 27 (.binOp .add 0 (.global 22) (.global 26) 0) 1,
        op 3 (.move (.global 27))])))
    (reg [op 28 (.binOp .add 0 (.tmp 18) (.const (I 1)) 0) 1,
      op 18 (.move (.global 28))])))))))
(.seq (reg [op 29 (.move (.tmp 3)) 1,
  op 2 (.move (.global 29))])
.ret)))), [(2, 0)]⟩

/-- spec.l00Own -/
def fn435 : AFun := ⟨1,
(.seq (reg [op 2 (.move (.const (sl 0 0 0 0)))])
(.seq (reg [op 3 (.move (.const (sl 0 0 0 1))) 1,
  op 4 (.move (.tmp 0)) 1,
  op 5 (bi .append #[(.global 3), (.global 4)] 1) 1,
  op 2 (.move (.global 5))])
.ret)), [(2, 0)]⟩

/-- slices.Clone[[]int64,int64] -/
def fn308 : AFun := ⟨1,
(.seq (reg [op 2 (.move (.const (sl 0 0 0 0)))])
(.seq (.seq (reg [op 3 (.move (.tmp 0)) 1,
  op 4 (.binOp .eql 0 (.global 3) (.const (sl 0 0 0 0)) 1)])
(.cond (.tmp 4)
  (.seq (reg [op 2 (.move (.const (sl 0 0 0 0)))])
  .ret)
  .skip))
(.seq (reg [op 5 (.move (.const (sl 0 0 0 1))) 1,
  op 6 (.move (.tmp 0)) 1,
  op 7 (bi .append #[(.global 5), (.global 6)] 1) 1,
  op 2 (.move (.global 7))])
.ret))), [(2, 0)]⟩

/-- spec.l27Sum -/
def fn573 : AFun := ⟨1,
(.seq (reg [op 2 (.move (.const (I 0)))])
(.seq (reg [op 3 (.move (.const (I 1)))])
(.seq (reg [op 4 (.move (.const (I 0)))])
(.seq (.seq (reg [op 5 (.move (.const (I 0)))])
(.block 0
  (.loop
    (.seq (.seq (reg [op 6 (.move (.tmp 5)) 1,
      op 7 (.move (.tmp 0)) 1,
      op 8 (bi .len #[(.global 7)] 0) 1,
      op 9 (.binOp .lss 0 (.global 6) (.global 8) 0)])
    (.cond (.tmp 9)
      .skip
      (.exit 0)))
    (.seq (.block 1
      (.seq (reg [op 12 (.move (.tmp 3)) 1,
        op 13 (.move (.tmp 0)) 1,
        op 14 (.move (.tmp 5)) 1,
        op 15 (.index 0 (.global 13) (.global 14)) 1,
        op 16 (.convert 0 3 (.global 15)) 1,
        op 17 (.binOp .add 0 (.global 12) (.global 16) 0) 1,
        op 18 (.binOp .rem 0 (.global 17) (.const (I 251)) 0) 1,
        op 3 (.move (.global 18))])
      (reg [op 19 (.move (.tmp 4)) 1,
        op 20 (.move (.tmp 3)) 1,
        op 21 (.binOp .add 0 (.global 19) (.global 20) 0) 1,
        op 22 (.binOp .rem 0 (.global 21) (.const (I 251)) 0) 1,
        op 4 (.move (.global 22))])))
    (reg [op 10 (.move (.tmp 5)) 1,
      op 11 (.binOp .add 0 (.global 10) (.const (I 1)) 0) 1,
      op 5 (.move (.global 11))]))))))
(.seq (reg [op 23 (.move (.tmp 4)) 1,
  op 24 (.binOp .mul 0 (.const (I 256)) (.global 23) 0) 1,
  op 25 (.move (.tmp 3)) 1,
  op 26 (.binOp .add 0 (.global 24) (.global 25) 0) 1,
  op 2 (.move (.global 26))])
.ret))))), [(2, 0)]⟩

/-- spec.l27Size -/
def fn572 : AFun := ⟨2,
(.seq (reg [op 4 (.move (.const (I 0)))])
(.seq (reg [op 5 (.move (.tmp 0)) 1,
  op 6 (.move (.tmp 1)) 1,
  op 7 (call (.func 448) #[(.global 5), (.global 6)]) 1,
  op 8 (.binOp .add 0 (.global 7) (.const (I 4)) 0) 1,
  op 9 (.binOp .quo 0 (.global 8) (.const (I 5)) 0) 1,
  op 10 (.binOp .add 0 (.const (I 3)) (.global 9) 0) 1,
  op 11 (.binOp .add 0 (.global 10) (.const (I 2)) 0) 1,
  op 4 (.move (.global 11))])
.ret)), [(4, 0)]⟩

/-- spec.l27Unpack -/
def fn574 : AFun := ⟨1,
(.seq (reg [op 2 (.move (.const (.agg #[(I 0), (I 0), (sl 0 0 0 0)]))),
  op 3 (.move (.const (I 0)))])
(.seq (.seq (reg [op 11 (.move (.tmp 0)) 1,
  op 12 (bi .len #[(.global 11)] 0) 1,
  op 13 (.binOp .lss 0 (.global 12) (.const (I 5)) 0) 1,
  op 14 (.move (.global 13)) 1,
  op 15 (.move (.tmp 0)) 1 (some (57, false)),
  op 16 (.index 0 (.global 15) (.const (I 0))) 1 (some (57, false)),
  op 17 (.binOp .neq 0 (.global 16) (.const (U 77)) 0) 1 (some (57, false)),
  op 18 (.pick (.global 14) (.const (B true)) (.global 17)) 1,
  op 19 (.move (.global 18)) 1,
  op 20 (.move (.tmp 0)) 1 (some (77, false)),
  op 21 (.index 0 (.global 20) (.const (I 1))) 1 (some (77, false)),
  op 22 (.convert 0 3 (.global 21)) 1 (some (77, false)),
  op 23 (call (.func 457) #[(.global 22)]) 1 (some (77, false)),
  op 24 (.unOp .not 0 (.global 23)) 1 (some (77, false)),
  op 25 (.pick (.global 19) (.const (B true)) (.global 24)) 1,
  op 26 (.move (.global 25)) 1,
  op 27 (.move (.tmp 0)) 1 (some (105, false)),
  op 28 (.index 0 (.global 27) (.const (I 2))) 1 (some (105, false)),
  op 29 (.convert 0 3 (.global 28)) 1 (some (105, false)),
  op 30 (call (.func 457) #[(.global 29)]) 1 (some (105, false)),
  op 31 (.unOp .not 0 (.global 30)) 1 (some (105, false)),
  op 32 (.pick (.global 26) (.const (B true)) (.global 31))])
(.cond (.tmp 32)
  (.seq (reg [op 33 (.build 0 #[(0, (.const (.agg #[(I 0), (I 0), (sl 0 0 0 0)])))]) 1,
    op 2 (.insert 3 (.tmp 2) (.tmp 2) (.global 33)),
    op 3 (.move (.const (I 1)))])
  .ret)
  .skip))
(.seq (reg [op 34 (.move (.tmp 0)) 1,
  op 35 (.index 0 (.global 34) (.const (I 1))) 1,
  op 36 (.convert 0 3 (.global 35)) 1,
  op 4 (.move (.global 36))])
(.seq (reg [op 37 (.move (.tmp 0)) 1,
  op 38 (.index 0 (.global 37) (.const (I 2))) 1,
  op 39 (.convert 0 3 (.global 38)) 1,
  op 5 (.move (.global 39))])
(.seq (.seq (reg [op 40 (.move (.tmp 0)) 1,
  op 41 (bi .len #[(.global 40)] 0) 1,
  op 42 (.move (.tmp 4)) 1,
  op 43 (.move (.tmp 5)) 1,
  op 44 (call (.func 572) #[(.global 42), (.global 43)]) 1,
  op 45 (.binOp .neq 0 (.global 41) (.global 44) 0)])
(.cond (.tmp 45)
  (.seq (reg [op 46 (.build 0 #[(0, (.const (.agg #[(I 0), (I 0), (sl 0 0 0 0)])))]) 1,
    op 2 (.insert 3 (.tmp 2) (.tmp 2) (.global 46)),
    op 3 (.move (.const (I 2)))])
  .ret)
  .skip))
(.seq (.seq (reg [op 47 (.move (.tmp 0)) 1,
  op 48 (call (.func 566) #[(.global 47)]) 1,
  op 49 (.unOp .not 0 (.global 48))])
(.cond (.tmp 49)
  (.seq (reg [op 50 (.build 0 #[(0, (.const (.agg #[(I 0), (I 0), (sl 0 0 0 0)])))]) 1,
    op 2 (.insert 3 (.tmp 2) (.tmp 2) (.global 50)),
    op 3 (.move (.const (I 3)))])
  .ret)
  .skip))
(.seq (reg [op 51 (.move (.tmp 4)) 1,
  op 52 (.move (.tmp 5)) 1,
  op 53 (call (.func 450) #[(.global 51), (.global 52)]) 1,
  op 6 (.box 3 (.const (.agg #[(I 0), (I 0), (sl 0 0 0 0)]))),
  opn (.store 3 (.tmp 6) (.global 53))])
(.seq (.seq (reg [op 7 (.move (.const (I 3)))])
(.block 0
  (.loop
    (.seq (.seq (reg [op 54 (.move (.tmp 7)) 1,
      op 55 (.move (.tmp 0)) 1,
      op 56 (bi .len #[(.global 55)] 0) 1,
      op 57 (.binOp .sub 0 (.global 56) (.const (I 2)) 0) 1,
      op 58 (.binOp .lss 0 (.global 54) (.global 57) 0)])
    (.cond (.tmp 58)
      .skip
      (.exit 0)))
    (.seq (.block 1
      (.seq (reg [op 61 (.move (.tmp 0)) 1,
        op 62 (.move (.tmp 7)) 1,
        op 63 (.index 0 (.global 61) (.global 62)) 1,
        op 64 (.convert 0 3 (.global 63)) 1,
        op 8 (.move (.global 64))])
      (.seq (reg [op 9 (.move (.const (I 4)))])
      (.block 2
        (.loop
          (.seq (.seq (reg [op 65 (.move (.tmp 9)) 1,
            op 66 (.binOp .geq 0 (.global 65) (.const (I 0)) 0)])
          (.cond (.tmp 66)
            .skip
            (.exit 2)))
          (.seq (.block 3
            (.seq (reg [op 69 (.move (.tmp 7)) 1,
              op 70 (.binOp .sub 0 (.global 69) (.const (I 3)) 0) 1,
              op 71 (.binOp .mul 0 (.const (I 5)) (.global 70) 0) 1,
              op 72 (.move (.tmp 9)) 1,
              op 73 (.binOp .add 0 (.global 71) (.global 72) 0) 1,
              op 10 (.move (.global 73))])
            (.seq (.seq (reg [op 74 (.move (.tmp 10)) 1,
              op 75 (.fieldAddr 2 (.tmp 6) 0) 1,
              op 76 (.load 0 (.global 75)) 1,
              op 77 (bi .len #[(.global 76)] 1) 1,
              op 78 (.binOp .lss 0 (.global 74) (.global 77) 0)])
            (.cond (.tmp 78)
              (reg [op 79 (.fieldAddr 2 (.tmp 6) 0) 1,
                op 80 (.load 0 (.global 79)) 1,
                op 81 (.move (.tmp 10)) 1,
                op 82 (.move (.tmp 8)) 1,
                op 83 (.binOp .rem 0 (.global 82) (.const (I 3)) 0) 1,
                op 84 (.indexAddr 3 (.global 80) (.global 81)) 1,
                opn (.store 1 (.global 84) (.global 83))])
              .skip))
            (reg [op 85 (.move (.tmp 8)) 1,
              op 86 (.binOp .quo 0 (.global 85) (.const (I 3)) 0) 1,
              op 8 (.move (.global 86))]))))
          (reg [op 67 (.move (.tmp 9)) 1,
            op 68 (.binOp .sub 0 (.global 67) (.const (I 1)) 0) 1,
            op 9 (.move (.global 68))]))))))))
    (reg [op 59 (.move (.tmp 7)) 1,
      op 60 (.binOp .add 0 (.global 59) (.const (I 1)) 0) 1,
      op 7 (.move (.global 60))]))))))
(.seq (.seq (reg [op 87 (call (.func 571) #[(.tmp 6)]) 1,
  op 88 (.move (.tmp 0)) 1,
  op 89 (.binOp .neq 0 (.global 87) (.global 88) 0)])
(.cond (.tmp 89)
  (.seq (reg [op 90 (.build 0 #[(0, (.const (.agg #[(I 0), (I 0), (sl 0 0 0 0)])))]) 1,
    op 2 (.insert 3 (.tmp 2) (.tmp 2) (.global 90)),
    op 3 (.move (.const (I 4)))])
  .ret)
  .skip))
(.seq (reg [op 91 (.load 4 (.tmp 6)) 1,
  op 2 (.insert 3 (.tmp 2) (.tmp 2) (.global 91)),
  op 3 (.move (.const (I 0)))])
.ret)))))))))), [(2, 1000004), (3, 0)]⟩

/-- impl.packedSize -/
def fn181 : AFun := ⟨2,
(.seq (reg [op 4 (.move (.const (I 0)))])
(.seq (reg [op 5 (.move (.tmp 0)) 1,
  op 6 (.move (.tmp 1)) 1,
  op 7 (call (.func 166) #[(.global 5), (.global 6)]) 1,
  op 8 (.binOp .add 0 (.global 7) (.const (I 4)) 0) 1,
  op 9 (.binOp .quo 0 (.global 8) (.const (I 5)) 0) 1,
  op 10 (.binOp .add 0 (.const (I 5)) (.global 9) 0) 1,
  op 4 (.move (.global 10))])
.ret)), [(4, 0)]⟩

/-- impl.unpackPanel -/
def fn195 : AFun := ⟨1,
(.seq (reg [op 2 (.move (.const (.agg #[(I 0), (I 0), (sl 0 0 0 0)]))),
  op 3 (.move (.const (B false)))])
(.seq (.seq (reg [op 7 (.move (.tmp 0)) 1,
  op 8 (bi .len #[(.global 7)] 0) 1,
  op 9 (.binOp .lss 0 (.global 8) (.const (I 5)) 0) 1,
  op 10 (.move (.global 9)) 1,
  op 11 (.move (.tmp 0)) 1 (some (41, false)),
  op 12 (.index 0 (.global 11) (.const (I 1))) 1 (some (41, false)),
  op 13 (.convert 0 3 (.global 12)) 1 (some (41, false)),
  op 14 (.move (.tmp 0)) 1 (some (41, false)),
  op 15 (.index 0 (.global 14) (.const (I 2))) 1 (some (41, false)),
  op 16 (.convert 0 3 (.global 15)) 1 (some (41, false)),
  op 17 (call (.func 198) #[(.global 13), (.global 16)]) 1 (some (41, false)),
  op 18 (.unOp .not 0 (.global 17)) 1 (some (41, false)),
  op 19 (.pick (.global 10) (.const (B true)) (.global 18)) 1,
  op 20 (.move (.global 19)) 1,
  op 21 (.move (.tmp 0)) 1 (some (81, false)),
  op 22 (bi .len #[(.global 21)] 0) 1 (some (81, false)),
  op 23 (.move (.tmp 0)) 1 (some (81, false)),
  op 24 (.index 0 (.global 23) (.const (I 1))) 1 (some (81, false)),
  op 25 (.convert 0 3 (.global 24)) 1 (some (81, false)),
  op 26 (.move (.tmp 0)) 1 (some (81, false)),
  op 27 (.index 0 (.global 26) (.const (I 2))) 1 (some (81, false)),
  op 28 (.convert 0 3 (.global 27)) 1 (some (81, false)),
  op 29 (call (.func 181) #[(.global 25), (.global 28)]) 1 (some (81, false)),
  op 30 (.binOp .neq 0 (.global 22) (.global 29) 0) 1 (some (81, false)),
  op 31 (.pick (.global 20) (.const (B true)) (.global 30))])
(.cond (.tmp 31)
  (.seq (reg [op 32 (.build 0 #[(0, (.const (.agg #[(I 0), (I 0), (sl 0 0 0 0)])))]) 1,
    op 2 (.insert 3 (.tmp 2) (.tmp 2) (.global 32)),
    op 3 (.move (.const (B false)))])
  .ret)
  .skip))
(.seq (reg [op 33 (.move (.tmp 0)) 1,
  op 34 (.index 0 (.global 33) (.const (I 1))) 1,
  op 35 (.convert 0 3 (.global 34)) 1,
  op 36 (.move (.tmp 0)) 1,
  op 37 (.index 0 (.global 36) (.const (I 2))) 1,
  op 38 (.convert 0 3 (.global 37)) 1,
  op 39 (call (.func 177) #[(.global 35), (.global 38)]) 1,
  op 4 (.move (.const (.agg #[(I 0), (I 0), (sl 0 0 0 0)]))),
  op 4 (.insert 3 (.tmp 4) (.tmp 4) (.global 39))])
(.seq (.seq (reg [op 40 (.fieldAddr 2 (.tmp 4) 1) 1,
  op 41 (.lookup 0 (.tmp 4) (.global 40) false) 1,
  op 42 (bi .len #[(.global 41)] 1),
  op 43 (.move (.const (I 0)))])
(.block 0
  (.loop
    (.seq (reg [op 44 (.binOp .lss 0 (.tmp 43) (.tmp 42) 0)])
    (.seq (.cond (.tmp 44)
      .skip
      (.exit 0))
    (.seq (.block 1
      (.seq (reg [op 45 (.move (.tmp 43)) 1,
        op 5 (.move (.global 45))])
      (.seq (reg [op 46 (.move (.tmp 0)) 1,
        op 47 (.move (.tmp 5)) 1,
        op 48 (.binOp .quo 0 (.global 47) (.const (I 5)) 0) 1,
        op 49 (.binOp .add 0 (.const (I 3)) (.global 48) 0) 1,
        op 50 (.index 0 (.global 46) (.global 49)) 1,
        op 51 (.convert 0 3 (.global 50)) 1,
        op 6 (.move (.global 51))])
      (.seq (.seq (reg [op 52 (.move (.tmp 5)) 1,
        op 53 (.binOp .rem 0 (.global 52) (.const (I 5)) 0) 1,
        op 54 (.binOp .sub 0 (.const (I 4)) (.global 53) 0),
        op 55 (.move (.const (I 0)))])
      (.block 2
        (.loop
          (.seq (reg [op 56 (.binOp .lss 0 (.tmp 55) (.tmp 54) 0)])
          (.seq (.cond (.tmp 56)
            .skip
            (.exit 2))
          (.seq (.block 3
            (reg [op 57 (.move (.tmp 6)) 1,
              op 58 (.binOp .quo 0 (.global 57) (.const (I 3)) 0) 1,
              op 6 (.move (.global 58))]))
          (reg [op 59 (.binOp .add 0 (.tmp 55) (.const (I 1)) 0) 1,
            op 55 (.move (.global 59))])))))))
      (reg [op 60 (.fieldAddr 2 (.tmp 4) 1) 1,
        op 61 (.lookup 0 (.tmp 4) (.global 60) false) 1,
        op 62 (.move (.tmp 5)) 1,
        op 63 (.move (.tmp 6)) 1,
        op 64 (.binOp .rem 0 (.global 63) (.const (I 3)) 0) 1,
        op 65 (.indexAddr 3 (.global 61) (.global 62)) 1,
        opn (.store 1 (.global 65) (.global 64))])))))
    (reg [op 66 (.binOp .add 0 (.tmp 43) (.const (I 1)) 0) 1,
      op 43 (.move (.global 66))])))))))
(.seq (reg [op 67 (.lookup 4 (.tmp 4) (.tmp 4) false) 1,
  op 68 (.lookup 4 (.tmp 4) (.tmp 4) false) 1,
  op 69 (call (.func 180) #[(.global 68)]) 1,
  op 70 (.move (.tmp 0)) 1,
  op 71 (.binOp .eql 0 (.global 69) (.global 70) 0) 1,
  op 2 (.insert 3 (.tmp 2) (.tmp 2) (.global 67)),
  op 3 (.move (.global 71))])
.ret))))), [(2, 1000004), (3, 0)]⟩

/-- spec.l04All -/
def fn463 : AFun := ⟨1,
(.seq (reg [op 2 (.move (.const (sl 0 0 0 0))),
  op 3 (.move (.const (sl 0 0 0 0)))])
(.seq (reg [op 12 (.move (.tmp 0)) 1,
  op 13 (.nilCheck (.global 12)) 1,
  op 14 (.fieldAddr 0 (.global 13) 0) 1,
  op 15 (.load 0 (.global 14)) 1,
  op 16 (.binOp .mul 0 (.const (I 4)) (.global 15) 0) 1,
  op 17 (.move (.tmp 0)) 1,
  op 18 (.nilCheck (.global 17)) 1,
  op 19 (.fieldAddr 1 (.global 18) 0) 1,
  op 20 (.load 0 (.global 19)) 1,
  op 21 (.binOp .mul 0 (.global 16) (.global 20) 0) 1,
  op 4 (.move (.global 21))])
(.seq (reg [op 22 (.move (.tmp 4)) 1,
  op 23 (.mapUpdate 1 (.global 22) (.global 22) (.const (.agg #[(I 0)]))) 1,
  op 5 (.move (.global 23))])
(.seq (.seq (reg [op 6 (.move (.const (I 0)))])
(.block 0
  (.loop
    (.seq (.seq (reg [op 24 (.move (.tmp 6)) 1,
      op 25 (.move (.tmp 4)) 1,
      op 26 (.binOp .lss 0 (.global 24) (.global 25) 0)])
    (.cond (.tmp 26)
      .skip
      (.exit 0)))
    (.seq (.block 1
      (reg [op 29 (.move (.tmp 5)) 1,
        op 30 (.move (.tmp 6)) 1,
        op 31 (.indexAddr 3 (.global 29) (.global 30)) 1,
        opn (.store 1 (.global 31) (.const (I (-1))))]))
    (reg [op 27 (.move (.tmp 6)) 1,
      op 28 (.binOp .add 0 (.global 27) (.const (I 1)) 0) 1,
      op 6 (.move (.global 28))]))))))
(.seq (reg [op 32 (.move (.const (sl 0 0 0 1))) 1,
  op 7 (.move (.global 32))])
(.seq (.seq (reg [op 8 (.move (.const (I 0)))])
(.block 2
  (.loop
    (.seq (.seq (reg [op 33 (.move (.tmp 8)) 1,
      op 34 (.move (.tmp 4)) 1,
      op 35 (.binOp .lss 0 (.global 33) (.global 34) 0)])
    (.cond (.tmp 35)
      .skip
      (.exit 2)))
    (.seq (.block 3
      (.seq (.seq (reg [op 38 (.move (.tmp 5)) 1,
        op 39 (.move (.tmp 8)) 1,
        op 40 (.indexAddr 3 (.global 38) (.global 39)) 1,
        op 41 (.load 0 (.global 40)) 1,
        op 42 (.binOp .geq 0 (.global 41) (.const (I 0)) 0)])
      (.cond (.tmp 42)
        (.exit 3)
        .skip))
      (.seq (reg [op 44 (.move (.tmp 0)) 1,
        op 45 (.move (.tmp 0)) 1,
        op 46 (.move (.tmp 8)) 1,
        op 47 (call (.func 462) #[(.global 45), (.global 46)]) 1,
        op 48 (call (.func 466) #[(.global 44), (.global 47)]) 1,
        op 43 (.move (.global 48)) 1,
        op 49 (.extract (.global 43) 0) 1,
        op 50 (.extract (.global 43) 1) 1,
        op 9 (.move (.global 49)),
        op 10 (.move (.global 50))])
      (.seq (.seq (reg [op 11 (.move (.const (I 0)))])
      (.block 4
        (.loop
          (.seq (.seq (reg [op 51 (.move (.tmp 11)) 1,
            op 52 (.move (.tmp 10)) 1,
            op 53 (bi .len #[(.global 52)] 1) 1,
            op 54 (.binOp .lss 0 (.global 51) (.global 53) 0)])
          (.cond (.tmp 54)
            .skip
            (.exit 4)))
          (.seq (.block 5
            (reg [op 57 (.move (.tmp 5)) 1,
              op 58 (.move (.tmp 10)) 1,
              op 59 (.move (.tmp 11)) 1,
              op 60 (.indexAddr 3 (.global 58) (.global 59)) 1,
              op 61 (.load 0 (.global 60)) 1,
              op 62 (.move (.tmp 7)) 1,
              op 63 (bi .len #[(.global 62)] 1) 1,
              op 64 (.indexAddr 3 (.global 57) (.global 61)) 1,
              opn (.store 1 (.global 64) (.global 63))]))
          (reg [op 55 (.move (.tmp 11)) 1,
            op 56 (.binOp .add 0 (.global 55) (.const (I 1)) 0) 1,
            op 11 (.move (.global 56))]))))))
      (reg [op 65 (.move (.tmp 7)) 1,
        op 66 (.move (.tmp 9)) 1,
        op 67 (.buildSlice 1 1 #[(0, (.const (.agg #[(sl 0 0 0 0)]))), (1, (.global 66))]) 1,
        op 68 (bi .append #[(.global 65), (.global 67)] 1) 1,
        op 7 (.move (.global 68))])))))
    (reg [op 36 (.move (.tmp 8)) 1,
      op 37 (.binOp .add 0 (.global 36) (.const (I 1)) 0) 1,
      op 8 (.move (.global 37))]))))))
(.seq (reg [op 69 (.move (.tmp 7)) 1,
  op 70 (.move (.tmp 5)) 1,
  op 2 (.move (.global 69)),
  op 3 (.move (.global 70))])
.ret))))))), [(2, 0), (3, 0)]⟩

/-- (impl.Panel).trace -/
def fn55 : AFun := ⟨1,
(.seq (reg [op 1 (.makeChan 3 (.tmp 0)),
  op 2 (.move (.const (sl 0 0 0 0))),
  op 3 (.move (.const (sl 0 0 0 0)))])
(.seq (reg [op 10 (.move (.const (sl 0 0 0 1))) 1,
  op 4 (.move (.global 10))])
(.seq (reg [op 11 (.lookup 4 (.tmp 1) (.tmp 1) false) 1,
  op 12 (call (.func 51) #[(.global 11)]) 1,
  op 13 (.mapUpdate 1 (.global 12) (.global 12) (.const (.agg #[(I 0)]))) 1,
  op 5 (.move (.global 13))])
(.seq (.seq (reg [op 14 (.move (.tmp 5)) 1,
  op 15 (bi .len #[(.global 14)] 1),
  op 16 (.move (.const (I 0)))])
(.block 0
  (.loop
    (.seq (reg [op 17 (.binOp .lss 0 (.tmp 16) (.tmp 15) 0)])
    (.seq (.cond (.tmp 17)
      .skip
      (.exit 0))
    (.seq (.block 1
      (.seq (reg [op 18 (.move (.tmp 16)) 1,
        op 6 (.move (.global 18))])
      (reg [op 19 (.move (.tmp 5)) 1,
        op 20 (.move (.tmp 6)) 1,
        op 21 (.indexAddr 3 (.global 19) (.global 20)) 1,
        opn (.store 1 (.global 21) (.const (I (-1))))])))
    (reg [op 22 (.binOp .add 0 (.tmp 16) (.const (I 1)) 0) 1,
      op 16 (.move (.global 22))])))))))
(.seq (.seq (reg [op 23 (.lookup 4 (.tmp 1) (.tmp 1) false) 1,
  op 24 (call (.func 51) #[(.global 23)]),
  op 25 (.move (.const (I 0)))])
(.block 2
  (.loop
    (.seq (reg [op 26 (.binOp .lss 0 (.tmp 25) (.tmp 24) 0)])
    (.seq (.cond (.tmp 26)
      .skip
      (.exit 2))
    (.seq (.block 3
      (.seq (reg [op 27 (.move (.tmp 25)) 1,
        op 7 (.move (.global 27))])
      (.seq (.seq (reg [op 28 (.move (.tmp 5)) 1,
        op 29 (.move (.tmp 7)) 1,
        op 30 (.indexAddr 3 (.global 28) (.global 29)) 1,
        op 31 (.load 0 (.global 30)) 1,
        op 32 (.binOp .geq 0 (.global 31) (.const (I 0)) 0)])
      (.cond (.tmp 32)
        (.exit 3)
        .skip))
      (.seq (reg [op 33 (.move (.const (sl 0 0 0 4))) 1,
        op 8 (.move (.global 33))])
      (.seq (.seq (reg [op 34 (.lookup 4 (.tmp 1) (.tmp 1) false) 1,
        op 35 (.move (.tmp 7)) 1,
        op 36 (call (.func 56) #[(.global 34), (.global 35)]) 1,
        op 9 (.move (.const (.agg #[(I 0), (I 0), (I 0), (I 0)]))),
        op 9 (.insert 4 (.tmp 9) (.tmp 9) (.global 36))])
      (.block 4
        (.loop
          (.seq (.seq (reg [op 37 (.move (.tmp 5)) 1,
            op 38 (.lookup 4 (.tmp 1) (.tmp 1) false) 1,
            op 39 (.lookup 5 (.tmp 9) (.tmp 9) false) 1,
            op 40 (call (.func 50) #[(.global 38), (.global 39)]) 1,
            op 41 (.indexAddr 3 (.global 37) (.global 40)) 1,
            op 42 (.load 0 (.global 41)) 1,
            op 43 (.binOp .lss 0 (.global 42) (.const (I 0)) 0)])
          (.cond (.tmp 43)
            .skip
            (.exit 4)))
          (.seq (.block 5
            (.seq (reg [op 50 (.move (.tmp 5)) 1,
              op 51 (.lookup 4 (.tmp 1) (.tmp 1) false) 1,
              op 52 (.lookup 5 (.tmp 9) (.tmp 9) false) 1,
              op 53 (call (.func 50) #[(.global 51), (.global 52)]) 1,
              op 54 (.move (.tmp 4)) 1,
              op 55 (bi .len #[(.global 54)] 1) 1,
              op 56 (.indexAddr 3 (.global 50) (.global 53)) 1,
              opn (.store 1 (.global 56) (.global 55))])
            (reg [op 57 (.move (.tmp 8)) 1,
              op 58 (.lookup 5 (.tmp 9) (.tmp 9) false) 1,
              op 59 (.buildSlice 4 1 #[(0, (.const (.agg #[(I 0), (I 0), (I 0), (I 0)]))), (4, (.global 58))]) 1,
              op 60 (bi .append #[(.global 57), (.global 59)] 4) 1,
              op 8 (.move (.global 60))])))
          (.seq (.seq (reg [op 61 (.lookup 5 (.tmp 9) (.tmp 9) false)])
          (reg [op 9 (.move (.const (.agg #[(I 0), (I 0), (I 0), (I 0)]))),
            op 9 (.insert 4 (.tmp 9) (.tmp 9) (.tmp 61))]))
          (reg [op 45 (.lookup 4 (.tmp 1) (.tmp 1) false) 1,
            op 46 (.lookup 5 (.tmp 9) (.tmp 9) false) 1,
            op 47 (call (.func 54) #[(.global 45), (.global 46)]) 1,
            op 44 (.move (.global 47)) 1,
            op 48 (.extract (.global 44) 0) 1,
            op 49 (.extract (.global 44) 1) 1,
            op 9 (.insert 4 (.tmp 9) (.tmp 9) (.global 48))])))))))
      (reg [op 62 (.move (.tmp 4)) 1,
        op 63 (.move (.tmp 8)) 1,
        op 64 (.buildSlice 1 1 #[(0, (.const (.agg #[(sl 0 0 0 0)]))), (1, (.global 63))]) 1,
        op 65 (bi .append #[(.global 62), (.global 64)] 1) 1,
        op 4 (.move (.global 65))]))))))
    (reg [op 66 (.binOp .add 0 (.tmp 25) (.const (I 1)) 0) 1,
      op 25 (.move (.global 66))])))))))
(.seq (reg [op 67 (.move (.tmp 4)) 1,
  op 68 (.move (.tmp 5)) 1,
  op 2 (.move (.global 67)),
  op 3 (.move (.global 68))])
.ret)))))), [(2, 0), (3, 0)]⟩

/-- spec.l05Read -/
def fn468 : AFun := ⟨1,
(.seq (reg [op 2 (.move (.const (.agg #[(I 0), (I 0), (sl 0 0 0 0)]))),
  op 3 (.move (.const (B false)))])
(.seq (reg [op 12 (.move (.tmp 0)) 1,
  op 13 (call (.func 441) #[(.global 12), (.const (U 58))]) 1,
  op 4 (.move (.global 13))])
(.seq (.seq (reg [op 14 (.move (.tmp 4)) 1,
  op 15 (bi .len #[(.global 14)] 1) 1,
  op 16 (.binOp .neq 0 (.global 15) (.const (I 2)) 0)])
(.cond (.tmp 16)
  (.seq (reg [op 17 (.build 0 #[(0, (.const (.agg #[(I 0), (I 0), (sl 0 0 0 0)])))]) 1,
    op 2 (.insert 3 (.tmp 2) (.tmp 2) (.global 17)),
    op 3 (.move (.const (B false)))])
  .ret)
  .skip))
(.seq (reg [op 18 (.move (.tmp 4)) 1,
  op 19 (.indexAddr 3 (.global 18) (.const (I 0))) 1,
  op 20 (.load 0 (.global 19)) 1,
  op 21 (call (.func 441) #[(.global 20), (.const (U 120))]) 1,
  op 5 (.move (.global 21))])
(.seq (.seq (reg [op 22 (.move (.tmp 5)) 1,
  op 23 (bi .len #[(.global 22)] 1) 1,
  op 24 (.binOp .neq 0 (.global 23) (.const (I 2)) 0)])
(.cond (.tmp 24)
  (.seq (reg [op 25 (.build 0 #[(0, (.const (.agg #[(I 0), (I 0), (sl 0 0 0 0)])))]) 1,
    op 2 (.insert 3 (.tmp 2) (.tmp 2) (.global 25)),
    op 3 (.move (.const (B false)))])
  .ret)
  .skip))
(.seq (reg [op 27 (.move (.tmp 5)) 1,
  op 28 (.indexAddr 3 (.global 27) (.const (I 0))) 1,
  op 29 (.load 0 (.global 28)) 1,
  op 30 (call (.func 439) #[(.global 29)]) 1,
  op 26 (.move (.global 30)) 1,
  op 31 (.extract (.global 26) 0) 1,
  op 32 (.extract (.global 26) 1) 1,
  op 6 (.move (.global 31)),
  op 7 (.move (.global 32))])
(.seq (reg [op 34 (.move (.tmp 5)) 1,
  op 35 (.indexAddr 3 (.global 34) (.const (I 1))) 1,
  op 36 (.load 0 (.global 35)) 1,
  op 37 (call (.func 439) #[(.global 36)]) 1,
  op 33 (.move (.global 37)) 1,
  op 38 (.extract (.global 33) 0) 1,
  op 39 (.extract (.global 33) 1) 1,
  op 8 (.move (.global 38)),
  op 9 (.move (.global 39))])
(.seq (reg [op 40 (.move (.tmp 6)) 1,
  op 41 (.move (.tmp 8)) 1,
  op 42 (.build 0 #[(0, (.const (.agg #[(I 0), (I 0), (sl 0 0 0 0)]))), (1, (.global 40)), (1001, (.global 41))]) 1,
  op 10 (.move (.const (.agg #[(I 0), (I 0), (sl 0 0 0 0)]))),
  op 10 (.insert 3 (.tmp 10) (.tmp 10) (.global 42))])
(.seq (.seq (reg [op 11 (.move (.const (I 0)))])
(.block 0
  (.loop
    (.seq (.seq (reg [op 43 (.move (.tmp 11)) 1,
      op 44 (.move (.tmp 4)) 1,
      op 45 (.indexAddr 3 (.global 44) (.const (I 1))) 1,
      op 46 (.load 0 (.global 45)) 1,
      op 47 (bi .len #[(.global 46)] 0) 1,
      op 48 (.binOp .lss 0 (.global 43) (.global 47) 0)])
    (.cond (.tmp 48)
      .skip
      (.exit 0)))
    (.seq (.block 1
      (reg [op 51 (.fieldAddr 2 (.tmp 10) 1) 1,
        op 52 (.lookup 0 (.tmp 10) (.global 51) false) 1,
        op 53 (.move (.tmp 4)) 1,
        op 54 (.indexAddr 3 (.global 53) (.const (I 1))) 1,
        op 55 (.load 0 (.global 54)) 1,
        op 56 (.move (.tmp 11)) 1,
        op 57 (.index 0 (.global 55) (.global 56)) 1,
        op 58 (call (.func 467) #[(.global 57)]) 1,
        op 59 (.buildSlice 1 1 #[(0, (.const (.agg #[(I 0)]))), (1, (.global 58))]) 1,
        op 60 (bi .append #[(.global 52), (.global 59)] 1) 1,
        op 61 (.fieldAddr 2 (.tmp 10) 1) 1,
        op 10 (.insert 1 (.tmp 10) (.global 61) (.global 60))]))
    (reg [op 49 (.move (.tmp 11)) 1,
      op 50 (.binOp .add 0 (.global 49) (.const (I 1)) 0) 1,
      op 11 (.move (.global 50))]))))))
(.seq (reg [op 62 (.lookup 4 (.tmp 10) (.tmp 10) false) 1,
  op 63 (.move (.tmp 7)) 1,
  op 64 (.move (.global 63)) 1,
  op 65 (.move (.tmp 9)) 1 (some (257, true)),
  op 66 (.pick (.global 64) (.global 65) (.const (B false))) 1,
  op 2 (.insert 3 (.tmp 2) (.tmp 2) (.global 62)),
  op 3 (.move (.global 66))])
.ret)))))))))), [(2, 1000004), (3, 0)]⟩

/-- impl.splitAt -/
def fn189 : AFun := ⟨2,
(.seq (reg [op 4 (.move (.const (sl 0 0 0 0)))])
(.seq (reg [op 8 (.move (.const (sl 0 0 0 1))) 1,
  op 5 (.move (.global 8))])
(.seq (reg [op 6 (.move (.const (I 0)))])
(.seq (.seq (reg [op 9 (.move (.tmp 0)) 1,
  op 10 (bi .len #[(.global 9)] 0),
  op 11 (.move (.const (I 0)))])
(.block 0
  (.loop
    (.seq (reg [op 12 (.binOp .lss 0 (.tmp 11) (.tmp 10) 0)])
    (.seq (.cond (.tmp 12)
      .skip
      (.exit 0))
    (.seq (.block 1
      (.seq (reg [op 13 (.move (.tmp 11)) 1,
        op 7 (.move (.global 13))])
      (.seq (reg [op 14 (.move (.tmp 0)) 1,
        op 15 (.move (.tmp 7)) 1,
        op 16 (.index 0 (.global 14) (.global 15)) 1,
        op 17 (.move (.tmp 1)) 1,
        op 18 (.binOp .eql 0 (.global 16) (.global 17) 0)])
      (.cond (.tmp 18)
        (.seq (reg [op 19 (.move (.tmp 5)) 1,
          op 20 (.move (.tmp 0)) 1,
          op 21 (.move (.tmp 6)) 1,
          op 22 (.move (.tmp 7)) 1,
          op 23 (.slice 0 (.global 20) (some (.global 21)) (some (.global 22)) none) 1,
          op 24 (.buildSlice 1 1 #[(0, (.const (.agg #[(S [])]))), (1, (.global 23))]) 1,
          op 25 (bi .append #[(.global 19), (.global 24)] 1) 1,
          op 5 (.move (.global 25))])
        (reg [op 26 (.move (.tmp 7)) 1,
          op 27 (.binOp .add 0 (.global 26) (.const (I 1)) 0) 1,
          op 6 (.move (.global 27))]))
        .skip))))
    (reg [op 28 (.binOp .add 0 (.tmp 11) (.const (I 1)) 0) 1,
      op 11 (.move (.global 28))])))))))
(.seq (reg [op 29 (.move (.tmp 5)) 1,
  op 30 (.move (.tmp 0)) 1,
  op 31 (.move (.tmp 6)) 1,
  op 32 (.slice 0 (.global 30) (some (.global 31)) none none) 1,
  op 33 (.buildSlice 1 1 #[(0, (.const (.agg #[(S [])]))), (1, (.global 32))]) 1,
  op 34 (bi .append #[(.global 29), (.global 33)] 1) 1,
  op 4 (.move (.global 34))])
.ret))))), [(4, 0)]⟩

/-- impl.ReadDecimal -/
def fn118 : AFun := ⟨1,
(.seq (reg [op 2 (.move (.const (I 0))),
  op 3 (.move (.const (B false)))])
(.seq (reg [op 7 (.move (.tmp 0)) 1,
  op 4 (.move (.global 7))])
(.seq (.seq (reg [op 8 (.move (.tmp 0)) 1,
  op 9 (bi .len #[(.global 8)] 0) 1,
  op 10 (.binOp .gtr 0 (.global 9) (.const (I 0)) 0) 1,
  op 11 (.move (.global 10)) 1,
  op 12 (.move (.tmp 0)) 1 (some (45, true)),
  op 13 (.index 0 (.global 12) (.const (I 0))) 1 (some (45, true)),
  op 14 (.binOp .eql 0 (.global 13) (.const (U 45)) 0) 1 (some (45, true)),
  op 15 (.pick (.global 11) (.global 14) (.const (B false)))])
(.cond (.tmp 15)
  (reg [op 16 (.move (.tmp 0)) 1,
    op 17 (.slice 0 (.global 16) (some (.const (I 1))) none none) 1,
    op 4 (.move (.global 17))])
  .skip))
(.seq (.seq (reg [op 18 (.move (.tmp 4)) 1,
  op 19 (bi .len #[(.global 18)] 0) 1,
  op 20 (.binOp .lss 0 (.global 19) (.const (I 1)) 0) 1,
  op 21 (.move (.global 20)) 1,
  op 22 (.move (.tmp 4)) 1 (some (85, false)),
  op 23 (bi .len #[(.global 22)] 0) 1 (some (85, false)),
  op 24 (.binOp .gtr 0 (.global 23) (.const (I 18)) 0) 1 (some (85, false)),
  op 25 (.pick (.global 21) (.const (B true)) (.global 24))])
(.cond (.tmp 25)
  (.seq (reg [op 2 (.move (.const (I 0))),
    op 3 (.move (.const (B false)))])
  .ret)
  .skip))
(.seq (reg [op 5 (.move (.const (I 0)))])
(.seq (.seq (reg [op 26 (.move (.tmp 4)) 1,
  op 27 (bi .len #[(.global 26)] 0),
  op 28 (.move (.const (I 0)))])
(.block 0
  (.loop
    (.seq (reg [op 29 (.binOp .lss 0 (.tmp 28) (.tmp 27) 0)])
    (.seq (.cond (.tmp 29)
      .skip
      (.exit 0))
    (.seq (.block 1
      (.seq (reg [op 30 (.move (.tmp 28)) 1,
        op 6 (.move (.global 30))])
      (.seq (.seq (reg [op 31 (.move (.tmp 4)) 1,
        op 32 (.move (.tmp 6)) 1,
        op 33 (.index 0 (.global 31) (.global 32)) 1,
        op 34 (.binOp .lss 0 (.global 33) (.const (U 48)) 0) 1,
        op 35 (.move (.global 34)) 1,
        op 36 (.move (.tmp 4)) 1 (some (141, false)),
        op 37 (.move (.tmp 6)) 1 (some (141, false)),
        op 38 (.index 0 (.global 36) (.global 37)) 1 (some (141, false)),
        op 39 (.binOp .gtr 0 (.global 38) (.const (U 57)) 0) 1 (some (141, false)),
        op 40 (.pick (.global 35) (.const (B true)) (.global 39))])
      (.cond (.tmp 40)
        (.seq (reg [op 2 (.move (.const (I 0))),
          op 3 (.move (.const (B false)))])
        .ret)
        .skip))
      (reg [op 41 (.move (.tmp 5)) 1,
        op 42 (.binOp .mul 0 (.const (I 10)) (.global 41) 0) 1,
        op 43 (.move (.tmp 4)) 1,
        op 44 (.move (.tmp 6)) 1,
        op 45 (.index 0 (.global 43) (.global 44)) 1,
        op 46 (.binOp .sub 0 (.global 45) (.const (U 48)) 0) 1,
        op 47 (.convert 0 3 (.global 46)) 1,
        op 48 (.binOp .add 0 (.global 42) (.global 47) 0) 1,
        op 5 (.move (.global 48))]))))
    (reg [op 49 (.binOp .add 0 (.tmp 28) (.const (I 1)) 0) 1,
      op 28 (.move (.global 49))])))))))
(.seq (.seq (reg [op 50 (.move (.tmp 4)) 1,
  op 51 (bi .len #[(.global 50)] 0) 1,
  op 52 (.move (.tmp 0)) 1,
  op 53 (bi .len #[(.global 52)] 0) 1,
  op 54 (.binOp .lss 0 (.global 51) (.global 53) 0)])
(.cond (.tmp 54)
  (reg [op 55 (.move (.tmp 5)) 1,
    op 56 (.unOp .neg 0 (.global 55)) 1,
    op 5 (.move (.global 56))])
  .skip))
(.seq (.seq (reg [op 57 (.move (.tmp 5)) 1,
  op 58 (call (.func 75) #[(.global 57)]) 1,
  op 59 (.move (.tmp 0)) 1,
  op 60 (.binOp .neq 0 (.global 58) (.global 59) 0)])
(.cond (.tmp 60)
  (.seq (reg [op 2 (.move (.const (I 0))),
    op 3 (.move (.const (B false)))])
  .ret)
  .skip))
(.seq (reg [op 61 (.move (.tmp 5)) 1,
  op 2 (.move (.global 61)),
  op 3 (.move (.const (B true)))])
.ret))))))))), [(2, 0), (3, 0)]⟩

/-- impl.markKind -/
def fn174 : AFun := ⟨1,
(.seq (reg [op 2 (.move (.const (I 0)))])
(.seq (.seq (reg [op 4 (.move (.const (I 0)))])
(.block 0
  (.loop
    (.seq (reg [op 5 (.binOp .lss 0 (.tmp 4) (.const (I 3)) 0)])
    (.seq (.cond (.tmp 5)
      .skip
      (.exit 0))
    (.seq (.block 1
      (.seq (reg [op 6 (.move (.tmp 4)) 1,
        op 3 (.move (.global 6))])
      (.seq (reg [op 7 (.move (.tmp 3)) 1,
        op 8 (.index 0 (.const (S [43, 124, 45])) (.global 7)) 1,
        op 9 (.move (.tmp 0)) 1,
        op 10 (.binOp .eql 0 (.global 8) (.global 9) 0)])
      (.cond (.tmp 10)
        (.seq (reg [op 11 (.move (.tmp 3)) 1,
          op 2 (.move (.global 11))])
        .ret)
        .skip))))
    (reg [op 12 (.binOp .add 0 (.tmp 4) (.const (I 1)) 0) 1,
      op 4 (.move (.global 12))])))))))
(.seq (reg [op 2 (.move (.const (I (-1))))])
.ret))), [(2, 0)]⟩

/-- spec.l01Small -/
def fn440 : AFun := ⟨1,
(.seq (reg [op 2 (.move (.const (B false)))])
(.seq (reg [op 3 (.move (.tmp 0)) 1,
  op 4 (.binOp .geq 0 (.global 3) (.const (U 97)) 0) 1,
  op 5 (.move (.global 4)) 1,
  op 6 (.move (.tmp 0)) 1 (some (21, true)),
  op 7 (.binOp .leq 0 (.global 6) (.const (U 122)) 0) 1 (some (21, true)),
  op 8 (.pick (.global 5) (.global 7) (.const (B false))) 1,
  op 2 (.move (.global 8))])
.ret)), [(2, 0)]⟩

/-- spec.l01Digit -/
def fn438 : AFun := ⟨1,
(.seq (reg [op 2 (.move (.const (B false)))])
(.seq (reg [op 3 (.move (.tmp 0)) 1,
  op 4 (.binOp .geq 0 (.global 3) (.const (U 48)) 0) 1,
  op 5 (.move (.global 4)) 1,
  op 6 (.move (.tmp 0)) 1 (some (21, true)),
  op 7 (.binOp .leq 0 (.global 6) (.const (U 57)) 0) 1 (some (21, true)),
  op 8 (.pick (.global 5) (.global 7) (.const (B false))) 1,
  op 2 (.move (.global 8))])
.ret)), [(2, 0)]⟩

/-- impl.findKept$1 -/
def fn160 : AFun := ⟨2,
(.seq (reg [op 2 (.makeChan 4 (.tmp 0)),
  op 3 (.move (.const (B false)))])
(.seq (reg [op 4 (.fieldAddr 0 (.tmp 2) 1) 1,
  op 5 (.lookup 0 (.tmp 2) (.global 4) false) 1,
  op 6 (.load 0 (.tmp 1)) 1,
  op 7 (.binOp .eql 0 (.global 5) (.global 6) 0) 1,
  op 3 (.move (.global 7))])
.ret)), [(3, 0)]⟩

/-- slices.BinarySearchFunc[[]impl.Kept,impl.Kept,impl.Kept] -/
def fn306 : AFun := ⟨3,
(.seq (reg [op 4 (.makeChan 4 (.tmp 1)),
  op 6 (.move (.const (I 0))),
  op 7 (.move (.const (B false)))])
(.seq (reg [op 12 (.move (.tmp 0)) 1,
  op 13 (bi .len #[(.global 12)] 1) 1,
  op 8 (.move (.global 13))])
(.seq (reg [op 14 (.move (.tmp 8)) 1,
  op 9 (.move (.const (I 0))),
  op 10 (.move (.global 14))])
(.seq (.block 0
  (.loop
    (.seq (.seq (reg [op 15 (.move (.tmp 9)) 1,
      op 16 (.move (.tmp 10)) 1,
      op 17 (.binOp .lss 0 (.global 15) (.global 16) 0)])
    (.cond (.tmp 17)
      .skip
      (.exit 0)))
    (.block 1
      (.seq (reg [op 18 (.move (.tmp 9)) 1,
        op 19 (.move (.tmp 10)) 1,
        op 20 (.binOp .add 0 (.global 18) (.global 19) 0) 1,
        op 21 (.convert 0 7 (.global 20)) 1,
        op 22 (.binOp .shr 0 (.global 21) (.const (.int .u64 1)) 0) 1,
        op 23 (.convert 0 3 (.global 22)) 1,
        op 11 (.move (.global 23))])
      (.seq (reg [op 24 (.move (.tmp 2)) 1,
        op 25 (.move (.tmp 0)) 1,
        op 26 (.move (.tmp 11)) 1,
        op 27 (.indexAddr 9 (.global 25) (.global 26)) 1,
        op 28 (.load 5 (.global 27)) 1,
        op 29 (.lookup 5 (.tmp 4) (.tmp 4) false) 1,
        op 30 (call (.global 24) #[(.global 28), (.global 29)]) 1,
        op 31 (.binOp .lss 0 (.global 30) (.const (I 0)) 0)])
      (.cond (.tmp 31)
        (reg [op 32 (.move (.tmp 11)) 1,
          op 33 (.binOp .add 0 (.global 32) (.const (I 1)) 0) 1,
          op 9 (.move (.global 33))])
        (reg [op 34 (.move (.tmp 11)) 1,
          op 10 (.move (.global 34))]))))))))
(.seq (reg [op 35 (.move (.tmp 9)) 1,
  op 36 (.move (.tmp 9)) 1,
  op 37 (.move (.tmp 8)) 1,
  op 38 (.binOp .lss 0 (.global 36) (.global 37) 0) 1,
  op 39 (.move (.global 38)) 1,
  op 40 (.move (.tmp 2)) 1 (some (157, true)),
  op 41 (.move (.tmp 0)) 1 (some (157, true)),
  op 42 (.move (.tmp 9)) 1 (some (157, true)),
  op 43 (.indexAddr 9 (.global 41) (.global 42)) 1 (some (157, true)),
  op 44 (.load 5 (.global 43)) 1 (some (157, true)),
  op 45 (.lookup 5 (.tmp 4) (.tmp 4) false) 1 (some (157, true)),
  op 46 (call (.global 40) #[(.global 44), (.global 45)]) 1 (some (157, true)),
  op 47 (.binOp .eql 0 (.global 46) (.const (I 0)) 0) 1 (some (157, true)),
  op 48 (.pick (.global 39) (.global 47) (.const (B false))) 1,
  op 6 (.move (.global 35)),
  op 7 (.move (.global 48))])
.ret))))), [(6, 0), (7, 0)]⟩

/-- impl.withKept$1 -/
def fn201 : AFun := ⟨2,
(.seq (reg [op 2 (.makeChan 4 (.tmp 0)),
  op 3 (.makeChan 4 (.tmp 1)),
  op 4 (.move (.const (I 0)))])
(.seq (reg [op 5 (.fieldAddr 0 (.tmp 2) 1) 1,
  op 6 (.lookup 0 (.tmp 2) (.global 5) false) 1,
  op 7 (.fieldAddr 0 (.tmp 3) 1) 1,
  op 8 (.lookup 0 (.tmp 3) (.global 7) false) 1,
  op 9 (call (.func 153) #[(.global 6), (.global 8)]) 1,
  op 4 (.move (.global 9))])
.ret)), [(4, 0)]⟩

/-- impl.compareTexts -/
def fn153 : AFun := ⟨2,
(.seq (reg [op 4 (.move (.const (I 0)))])
(.seq (.block 0
  (.seq (reg [op 6 (.move (.tmp 0)) 1,
    op 7 (.move (.tmp 1)) 1,
    op 8 (.binOp .lss 0 (.global 6) (.global 7) 0) 1,
    op 5 (.move (.global 8))])
  (.cond (.tmp 5)
    (.seq (reg [op 4 (.move (.const (I (-1))))])
    .ret)
    (.seq (reg [op 10 (.move (.tmp 0)) 1,
      op 11 (.move (.tmp 1)) 1,
      op 12 (.binOp .gtr 0 (.global 10) (.global 11) 0) 1,
      op 9 (.move (.global 12))])
    (.cond (.tmp 9)
      (.seq (reg [op 4 (.move (.const (I 1)))])
      .ret)
      .skip)))))
(.seq (reg [op 4 (.move (.const (I 0)))])
.ret))), [(4, 0)]⟩

/-- slices.Insert[[]impl.Kept,impl.Kept] -/
def fn318 : AFun := ⟨3, .goto 8, []⟩

/-- (impl.Panel).points -/
def fn49 : AFun := ⟨1,
(.seq (reg [op 1 (.makeChan 3 (.tmp 0)),
  op 2 (.move (.const (sl 0 0 0 0)))])
(.seq (reg [op 6 (.move (.const (sl 0 0 0 2))) 1,
  op 3 (.move (.global 6))])
(.seq (.seq (reg [op 4 (.move (.const (I 1)))])
(.block 0
  (.loop
    (.seq (.seq (reg [op 7 (.move (.tmp 4)) 1,
      op 8 (.fieldAddr 1 (.tmp 1) 1) 1,
      op 9 (.lookup 0 (.tmp 1) (.global 8) false) 1,
      op 10 (.binOp .mul 0 (.const (I 2)) (.global 9) 0) 1,
      op 11 (.binOp .lss 0 (.global 7) (.global 10) 0)])
    (.cond (.tmp 11)
      .skip
      (.exit 0)))
    (.seq (.block 1
      (.seq (reg [op 14 (.move (.tmp 4)) 1,
        op 15 (.binOp .rem 0 (.global 14) (.const (I 2)) 0) 1,
        op 16 (.binOp .add 0 (.const (I 1)) (.global 15) 0) 1,
        op 5 (.move (.global 16))])
      (.block 2
        (.loop
          (.seq (.seq (reg [op 17 (.move (.tmp 5)) 1,
            op 18 (.fieldAddr 0 (.tmp 1) 1) 1,
            op 19 (.lookup 0 (.tmp 1) (.global 18) false) 1,
            op 20 (.binOp .mul 0 (.const (I 2)) (.global 19) 0) 1,
            op 21 (.binOp .lss 0 (.global 17) (.global 20) 0)])
          (.cond (.tmp 21)
            .skip
            (.exit 2)))
          (.seq (.block 3
            (reg [op 24 (.move (.tmp 3)) 1,
              op 25 (.move (.tmp 5)) 1,
              op 26 (.move (.tmp 4)) 1,
              op 27 (.build 0 #[(0, (.const (.agg #[(I 0), (I 0)]))), (1, (.global 25)), (1001, (.global 26))]) 1,
              op 28 (.buildSlice 2 1 #[(0, (.const (.agg #[(I 0), (I 0)]))), (2, (.global 27))]) 1,
              op 29 (bi .append #[(.global 24), (.global 28)] 2) 1,
              op 3 (.move (.global 29))]))
          (reg [op 22 (.move (.tmp 5)) 1,
            op 23 (.binOp .add 0 (.global 22) (.const (I 2)) 0) 1,
            op 5 (.move (.global 23))])))))))
    (reg [op 12 (.move (.tmp 4)) 1,
      op 13 (.binOp .add 0 (.global 12) (.const (I 1)) 0) 1,
      op 4 (.move (.global 13))]))))))
(.seq (reg [op 30 (.move (.tmp 3)) 1,
  op 2 (.move (.global 30))])
.ret)))), [(2, 0)]⟩

/-- impl.mapBreak -/
def fn172 : AFun := ⟨2,
(.seq (reg [op 4 (.move (.const (I 0)))])
(.seq (.seq (reg [op 5 (.move (.tmp 1)) 1,
  op 6 (.binOp .geq 0 (.global 5) (.const (I 4)) 0) 1,
  op 7 (.move (.global 6)) 1,
  op 8 (.move (.tmp 0)) 1 (some (29, true)),
  op 9 (.binOp .neq 0 (.global 8) (.const (I 0)) 0) 1 (some (29, true)),
  op 10 (.pick (.global 7) (.global 9) (.const (B false)))])
(.cond (.tmp 10)
  (.seq (reg [op 11 (.move (.tmp 0)) 1,
    op 12 (.binOp .sub 0 (.const (I 3)) (.global 11) 0) 1,
    op 4 (.move (.global 12))])
  .ret)
  .skip))
(.seq (reg [op 13 (.move (.tmp 0)) 1,
  op 4 (.move (.global 13))])
.ret))), [(4, 0)]⟩

/-- (impl.Panel).number -/
def fn40 : AFun := ⟨2,
(.seq (reg [op 2 (.makeChan 3 (.tmp 0)),
  op 3 (.makeChan 2 (.tmp 1)),
  op 4 (.move (.const (I 0)))])
(.seq (reg [op 6 (.fieldAddr 1 (.tmp 3) 1) 1,
  op 7 (.lookup 0 (.tmp 3) (.global 6) false) 1,
  op 8 (.binOp .quo 0 (.global 7) (.const (I 2)) 0) 1,
  op 9 (.fieldAddr 0 (.tmp 2) 1) 1,
  op 10 (.lookup 0 (.tmp 2) (.global 9) false) 1,
  op 11 (.binOp .sub 0 (.global 10) (.const (I 1)) 0) 1,
  op 12 (.binOp .mul 0 (.global 8) (.global 11) 0) 1,
  op 13 (.fieldAddr 1 (.tmp 3) 1) 1,
  op 14 (.lookup 0 (.tmp 3) (.global 13) false) 1,
  op 15 (.binOp .sub 0 (.global 14) (.const (I 1)) 0) 1,
  op 16 (.binOp .quo 0 (.global 15) (.const (I 2)) 0) 1,
  op 17 (.fieldAddr 0 (.tmp 2) 1) 1,
  op 18 (.lookup 0 (.tmp 2) (.global 17) false) 1,
  op 19 (.binOp .mul 0 (.global 16) (.global 18) 0) 1,
  op 20 (.binOp .add 0 (.global 12) (.global 19) 0) 1,
  op 5 (.move (.global 20))])
(.seq (.seq (reg [op 21 (.fieldAddr 1 (.tmp 3) 1) 1,
  op 22 (.lookup 0 (.tmp 3) (.global 21) false) 1,
  op 23 (.binOp .rem 0 (.global 22) (.const (I 2)) 0) 1,
  op 24 (.binOp .eql 0 (.global 23) (.const (I 1)) 0)])
(.cond (.tmp 24)
  (.seq (reg [op 25 (.move (.tmp 5)) 1,
    op 26 (.fieldAddr 0 (.tmp 3) 1) 1,
    op 27 (.lookup 0 (.tmp 3) (.global 26) false) 1,
    op 28 (.binOp .quo 0 (.global 27) (.const (I 2)) 0) 1,
    op 29 (.binOp .add 0 (.global 25) (.global 28) 0) 1,
    op 30 (.binOp .sub 0 (.global 29) (.const (I 1)) 0) 1,
    op 4 (.move (.global 30))])
  .ret)
  .skip))
(.seq (reg [op 31 (.move (.tmp 5)) 1,
  op 32 (.fieldAddr 0 (.tmp 3) 1) 1,
  op 33 (.lookup 0 (.tmp 3) (.global 32) false) 1,
  op 34 (.binOp .quo 0 (.global 33) (.const (I 2)) 0) 1,
  op 35 (.binOp .add 0 (.global 31) (.global 34) 0) 1,
  op 4 (.move (.global 35))])
.ret)))), [(4, 0)]⟩

/-- (impl.Panel).mapPoint -/
def fn38 : AFun := ⟨3,
(.seq (reg [op 3 (.makeChan 3 (.tmp 0)),
  op 4 (.makeChan 2 (.tmp 1)),
  op 6 (.move (.const (.agg #[(I 0), (I 0)])))])
(.seq (reg [op 9 (.fieldAddr 0 (.tmp 3) 1) 1,
  op 10 (.lookup 0 (.tmp 3) (.global 9) false) 1,
  op 11 (.fieldAddr 1 (.tmp 3) 1) 1,
  op 12 (.lookup 0 (.tmp 3) (.global 11) false) 1,
  op 7 (.move (.global 10)),
  op 8 (.move (.global 12))])
(.seq (.seq (reg [op 13 (.move (.tmp 2)) 1,
  op 14 (.binOp .geq 0 (.global 13) (.const (I 4)) 0)])
(.cond (.tmp 14)
  (reg [op 15 (.fieldAddr 1 (.tmp 4) 1) 1,
    op 16 (.lookup 0 (.tmp 4) (.global 15) false) 1,
    op 17 (.fieldAddr 0 (.tmp 4) 1) 1,
    op 18 (.lookup 0 (.tmp 4) (.global 17) false) 1,
    op 19 (.move (.tmp 8)) 1,
    op 20 (.move (.tmp 7)) 1,
    op 21 (.fieldAddr 0 (.tmp 4) 1) 1,
    op 4 (.insert 1 (.tmp 4) (.global 21) (.global 16)),
    op 22 (.fieldAddr 1 (.tmp 4) 1) 1,
    op 4 (.insert 1 (.tmp 4) (.global 22) (.global 18)),
    op 7 (.move (.global 19)),
    op 8 (.move (.global 20))])
  .skip))
(.seq (.seq (reg [op 23 (.move (.tmp 2)) 1,
  op 24 (.binOp .and 0 (.global 23) (.const (I 1)) 0) 1,
  op 25 (.binOp .eql 0 (.global 24) (.const (I 1)) 0)])
(.cond (.tmp 25)
  (reg [op 26 (.move (.tmp 7)) 1,
    op 27 (.binOp .mul 0 (.const (I 2)) (.global 26) 0) 1,
    op 28 (.fieldAddr 0 (.tmp 4) 1) 1,
    op 29 (.lookup 0 (.tmp 4) (.global 28) false) 1,
    op 30 (.binOp .sub 0 (.global 27) (.global 29) 0) 1,
    op 31 (.fieldAddr 0 (.tmp 4) 1) 1,
    op 4 (.insert 1 (.tmp 4) (.global 31) (.global 30))])
  .skip))
(.seq (.seq (reg [op 32 (.move (.tmp 2)) 1,
  op 33 (.binOp .shr 0 (.global 32) (.const (.int .u64 1)) 0) 1,
  op 34 (.binOp .and 0 (.global 33) (.const (I 1)) 0) 1,
  op 35 (.binOp .eql 0 (.global 34) (.const (I 1)) 0)])
(.cond (.tmp 35)
  (reg [op 36 (.move (.tmp 8)) 1,
    op 37 (.binOp .mul 0 (.const (I 2)) (.global 36) 0) 1,
    op 38 (.fieldAddr 1 (.tmp 4) 1) 1,
    op 39 (.lookup 0 (.tmp 4) (.global 38) false) 1,
    op 40 (.binOp .sub 0 (.global 37) (.global 39) 0) 1,
    op 41 (.fieldAddr 1 (.tmp 4) 1) 1,
    op 4 (.insert 1 (.tmp 4) (.global 41) (.global 40))])
  .skip))
(.seq (reg [op 42 (.lookup 3 (.tmp 4) (.tmp 4) false) 1,
  op 6 (.insert 2 (.tmp 6) (.tmp 6) (.global 42))])
.ret)))))), [(6, 1000003)]⟩

/-- impl.compare -/
def fn152 : AFun := ⟨2,
(.seq (reg [op 4 (.move (.const (I 0)))])
(.seq (.block 0
  (.seq (reg [op 6 (.move (.tmp 0)) 1,
    op 7 (.move (.tmp 1)) 1,
    op 8 (.binOp .lss 0 (.global 6) (.global 7) 0) 1,
    op 5 (.move (.global 8))])
  (.cond (.tmp 5)
    (.seq (reg [op 4 (.move (.const (I (-1))))])
    .ret)
    (.seq (reg [op 10 (.move (.tmp 0)) 1,
      op 11 (.move (.tmp 1)) 1,
      op 12 (.binOp .gtr 0 (.global 10) (.global 11) 0) 1,
      op 9 (.move (.global 12))])
    (.cond (.tmp 9)
      (.seq (reg [op 4 (.move (.const (I 1)))])
      .ret)
      .skip)))))
(.seq (reg [op 4 (.move (.const (I 0)))])
.ret))), [(4, 0)]⟩

/-- slices.Compare[[]int64,int64] -/
def fn309 : AFun := ⟨2,
(.seq (reg [op 4 (.move (.const (I 0)))])
(.seq (.seq (reg [op 9 (.move (.tmp 0)),
  op 10 (bi .len #[(.tmp 9)] 1),
  op 11 (.move (.const (I 0)))])
(.block 0
  (.loop
    (.seq (reg [op 12 (.binOp .lss 0 (.tmp 11) (.tmp 10) 0)])
    (.seq (.cond (.tmp 12)
      .skip
      (.exit 0))
    (.seq (.block 1
      (.seq (reg [op 13 (.move (.tmp 11)) 1,
        op 14 (.indexAddr 3 (.tmp 9) (.tmp 11)) 1,
        op 15 (.load 0 (.global 14)) 1,
        op 5 (.move (.global 13)),
        op 6 (.move (.global 15))])
      (.seq (.seq (reg [op 16 (.move (.tmp 5)) 1,
        op 17 (.move (.tmp 1)) 1,
        op 18 (bi .len #[(.global 17)] 1) 1,
        op 19 (.binOp .geq 0 (.global 16) (.global 18) 0)])
      (.cond (.tmp 19)
        (.seq (reg [op 4 (.move (.const (I 1)))])
        .ret)
        .skip))
      (.seq (reg [op 20 (.move (.tmp 1)) 1,
        op 21 (.move (.tmp 5)) 1,
        op 22 (.indexAddr 3 (.global 20) (.global 21)) 1,
        op 23 (.load 0 (.global 22)) 1,
        op 7 (.move (.global 23))])
      (.seq (reg [op 24 (.move (.tmp 6)) 1,
        op 25 (.move (.tmp 7)) 1,
        op 26 (call (.func 59) #[(.global 24), (.global 25)]) 1,
        op 8 (.move (.global 26))])
      (.seq (reg [op 27 (.move (.tmp 8)) 1,
        op 28 (.binOp .neq 0 (.global 27) (.const (I 0)) 0)])
      (.cond (.tmp 28)
        (.seq (reg [op 29 (.move (.tmp 8)) 1,
          op 4 (.move (.global 29))])
        .ret)
        .skip)))))))
    (reg [op 30 (.binOp .add 0 (.tmp 11) (.const (I 1)) 0) 1,
      op 11 (.move (.global 30))])))))))
(.seq (.seq (reg [op 31 (.move (.tmp 0)) 1,
  op 32 (bi .len #[(.global 31)] 1) 1,
  op 33 (.move (.tmp 1)) 1,
  op 34 (bi .len #[(.global 33)] 1) 1,
  op 35 (.binOp .lss 0 (.global 32) (.global 34) 0)])
(.cond (.tmp 35)
  (.seq (reg [op 4 (.move (.const (I (-1))))])
  .ret)
  .skip))
(.seq (reg [op 4 (.move (.const (I 0)))])
.ret)))), [(4, 0)]⟩

/-- spec.l00Same -/
def fn436 : AFun := ⟨2,
(.seq (reg [op 4 (.move (.const (B false)))])
(.seq (.seq (reg [op 6 (.move (.tmp 0)) 1,
  op 7 (bi .len #[(.global 6)] 1) 1,
  op 8 (.move (.tmp 1)) 1,
  op 9 (bi .len #[(.global 8)] 1) 1,
  op 10 (.binOp .neq 0 (.global 7) (.global 9) 0)])
(.cond (.tmp 10)
  (.seq (reg [op 4 (.move (.const (B false)))])
  .ret)
  .skip))
(.seq (.seq (reg [op 5 (.move (.const (I 0)))])
(.block 0
  (.loop
    (.seq (.seq (reg [op 11 (.move (.tmp 5)) 1,
      op 12 (.move (.tmp 0)) 1,
      op 13 (bi .len #[(.global 12)] 1) 1,
      op 14 (.binOp .lss 0 (.global 11) (.global 13) 0)])
    (.cond (.tmp 14)
      .skip
      (.exit 0)))
    (.seq (.block 1
      (.seq (reg [op 17 (.move (.tmp 0)) 1,
        op 18 (.move (.tmp 5)) 1,
        op 19 (.indexAddr 3 (.global 17) (.global 18)) 1,
        op 20 (.load 0 (.global 19)) 1,
        op 21 (.move (.tmp 1)) 1,
        op 22 (.move (.tmp 5)) 1,
        op 23 (.indexAddr 3 (.global 21) (.global 22)) 1,
        op 24 (.load 0 (.global 23)) 1,
        op 25 (.binOp .neq 0 (.global 20) (.global 24) 0)])
      (.cond (.tmp 25)
        (.seq (reg [op 4 (.move (.const (B false)))])
        .ret)
        .skip)))
    (reg [op 15 (.move (.tmp 5)) 1,
      op 16 (.binOp .add 0 (.global 15) (.const (I 1)) 0) 1,
      op 5 (.move (.global 16))]))))))
(.seq (reg [op 4 (.move (.const (B true)))])
.ret)))), [(4, 0)]⟩

/-- impl.inRange -/
def fn164 : AFun := ⟨3,
(.seq (reg [op 6 (.move (.const (B false)))])
(.seq (reg [op 7 (.move (.tmp 0)) 1,
  op 8 (.move (.tmp 1)) 1,
  op 9 (.binOp .geq 0 (.global 7) (.global 8) 0) 1,
  op 10 (.move (.global 9)) 1,
  op 11 (.move (.tmp 0)) 1 (some (41, true)),
  op 12 (.move (.tmp 2)) 1 (some (41, true)),
  op 13 (.binOp .leq 0 (.global 11) (.global 12) 0) 1 (some (41, true)),
  op 14 (.pick (.global 10) (.global 13) (.const (B false))) 1,
  op 6 (.move (.global 14))])
.ret)), [(6, 0)]⟩

/-- spec.l02New -/
def fn450 : AFun := ⟨2,
(.seq (reg [op 4 (.move (.const (.agg #[(I 0), (I 0), (sl 0 0 0 0)])))])
(.seq (reg [op 5 (.move (.tmp 0)) 1,
  op 6 (.move (.tmp 1)) 1,
  op 7 (.move (.tmp 0)) 1,
  op 8 (.move (.tmp 1)) 1,
  op 9 (call (.func 448) #[(.global 7), (.global 8)]) 1,
  op 10 (.mapUpdate 1 (.global 9) (.global 9) (.const (.agg #[(I 0)]))) 1,
  op 11 (.build 0 #[(0, (.const (.agg #[(I 0), (I 0), (sl 0 0 0 0)]))), (1, (.global 5)), (1001, (.global 6)), (2001, (.global 10))]) 1,
  op 4 (.insert 3 (.tmp 4) (.tmp 4) (.global 11))])
.ret)), [(4, 1000004)]⟩

/-- spec.l06Point -/
def fn479 : AFun := ⟨4,
(.seq (reg [op 6 (.makeChan 2 (.tmp 2)),
  op 8 (.move (.const (.agg #[(I 0), (I 0)])))])
(.seq (reg [op 10 (.lookup 3 (.tmp 6) (.tmp 6) false) 1,
  op 9 (.move (.const (.agg #[(I 0), (I 0)]))),
  op 9 (.insert 2 (.tmp 9) (.tmp 9) (.global 10))])
(.seq (.seq (reg [op 11 (.move (.tmp 3)) 1,
  op 12 (.binOp .and 0 (.global 11) (.const (I 4)) 0) 1,
  op 13 (.binOp .neq 0 (.global 12) (.const (I 0)) 0)])
(.cond (.tmp 13)
  (.seq (reg [op 14 (.fieldAddr 1 (.tmp 6) 1) 1,
    op 15 (.lookup 0 (.tmp 6) (.global 14) false) 1,
    op 16 (.fieldAddr 0 (.tmp 6) 1) 1,
    op 17 (.lookup 0 (.tmp 6) (.global 16) false) 1,
    op 18 (.build 0 #[(0, (.const (.agg #[(I 0), (I 0)]))), (1, (.global 15)), (1001, (.global 17))]) 1,
    op 9 (.insert 2 (.tmp 9) (.tmp 9) (.global 18))])
  (reg [op 19 (.move (.tmp 1)) 1,
    op 20 (.move (.tmp 0)) 1,
    op 0 (.move (.global 19)),
    op 1 (.move (.global 20))]))
  .skip))
(.seq (.seq (reg [op 21 (.move (.tmp 3)) 1,
  op 22 (.binOp .and 0 (.global 21) (.const (I 1)) 0) 1,
  op 23 (.binOp .neq 0 (.global 22) (.const (I 0)) 0)])
(.cond (.tmp 23)
  (reg [op 24 (.move (.tmp 0)) 1,
    op 25 (.binOp .mul 0 (.const (I 2)) (.global 24) 0) 1,
    op 26 (.fieldAddr 0 (.tmp 9) 1) 1,
    op 27 (.lookup 0 (.tmp 9) (.global 26) false) 1,
    op 28 (.binOp .sub 0 (.global 25) (.global 27) 0) 1,
    op 29 (.fieldAddr 0 (.tmp 9) 1) 1,
    op 9 (.insert 1 (.tmp 9) (.global 29) (.global 28))])
  .skip))
(.seq (.seq (reg [op 30 (.move (.tmp 3)) 1,
  op 31 (.binOp .and 0 (.global 30) (.const (I 2)) 0) 1,
  op 32 (.binOp .neq 0 (.global 31) (.const (I 0)) 0)])
(.cond (.tmp 32)
  (reg [op 33 (.move (.tmp 1)) 1,
    op 34 (.binOp .mul 0 (.const (I 2)) (.global 33) 0) 1,
    op 35 (.fieldAddr 1 (.tmp 9) 1) 1,
    op 36 (.lookup 0 (.tmp 9) (.global 35) false) 1,
    op 37 (.binOp .sub 0 (.global 34) (.global 36) 0) 1,
    op 38 (.fieldAddr 1 (.tmp 9) 1) 1,
    op 9 (.insert 1 (.tmp 9) (.global 38) (.global 37))])
  .skip))
(.seq (reg [op 39 (.lookup 3 (.tmp 9) (.tmp 9) false) 1,
  op 8 (.insert 2 (.tmp 8) (.tmp 8) (.global 39))])
.ret)))))), [(8, 1000003)]⟩

/-- spec.l02Point -/
def fn454 : AFun := ⟨2,
(.seq (reg [op 4 (.move (.const (.agg #[(I 0), (I 0)])))])
(.seq (reg [op 5 (.move (.const (I 1)))])
(.seq (.block 0
  (.loop
    (.seq (.seq (reg [op 6 (.move (.tmp 5)) 1,
      op 7 (.binOp .add 0 (.global 6) (.const (I 1)) 0) 1,
      op 8 (.move (.tmp 0)) 1,
      op 9 (.nilCheck (.global 8)) 1,
      op 10 (.fieldAddr 1 (.global 9) 0) 1,
      op 11 (.load 0 (.global 10)) 1,
      op 12 (.binOp .mul 0 (.const (I 2)) (.global 11) 0) 1,
      op 13 (.binOp .lss 0 (.global 7) (.global 12) 0) 1,
      op 14 (.move (.global 13)) 1,
      op 15 (.move (.tmp 0)) 1 (some (57, true)),
      op 16 (.move (.tmp 5)) 1 (some (57, true)),
      op 17 (.binOp .add 0 (.global 16) (.const (I 1)) 0) 1 (some (57, true)),
      op 18 (call (.func 455) #[(.global 15), (.global 17)]) 1 (some (57, true)),
      op 19 (.move (.tmp 1)) 1 (some (57, true)),
      op 20 (.binOp .leq 0 (.global 18) (.global 19) 0) 1 (some (57, true)),
      op 21 (.pick (.global 14) (.global 20) (.const (B false)))])
    (.cond (.tmp 21)
      .skip
      (.exit 0)))
    (.block 1
      (reg [op 22 (.move (.tmp 5)) 1,
        op 23 (.binOp .add 0 (.global 22) (.const (I 1)) 0) 1,
        op 5 (.move (.global 23))])))))
(.seq (reg [op 24 (.move (.tmp 1)) 1,
  op 25 (.move (.tmp 0)) 1,
  op 26 (.move (.tmp 5)) 1,
  op 27 (call (.func 455) #[(.global 25), (.global 26)]) 1,
  op 28 (.binOp .sub 0 (.global 24) (.global 27) 0) 1,
  op 29 (.binOp .mul 0 (.const (I 2)) (.global 28) 0) 1,
  op 30 (.binOp .add 0 (.global 29) (.const (I 1)) 0) 1,
  op 31 (.move (.tmp 5)) 1,
  op 32 (.binOp .rem 0 (.global 31) (.const (I 2)) 0) 1,
  op 33 (.binOp .add 0 (.global 30) (.global 32) 0) 1,
  op 34 (.move (.tmp 5)) 1,
  op 35 (.build 0 #[(0, (.const (.agg #[(I 0), (I 0)]))), (1, (.global 33)), (1001, (.global 34))]) 1,
  op 4 (.insert 2 (.tmp 4) (.tmp 4) (.global 35))])
.ret)))), [(4, 1000003)]⟩

/-- spec.l06Kind -/
def fn475 : AFun := ⟨2,
(.seq (reg [op 4 (.move (.const (I 0)))])
(.seq (.seq (reg [op 5 (.move (.tmp 1)) 1,
  op 6 (.binOp .and 0 (.global 5) (.const (I 4)) 0) 1,
  op 7 (.binOp .neq 0 (.global 6) (.const (I 0)) 0) 1,
  op 8 (.move (.global 7)) 1,
  op 9 (.move (.tmp 0)) 1 (some (33, true)),
  op 10 (.binOp .neq 0 (.global 9) (.const (I 0)) 0) 1 (some (33, true)),
  op 11 (.pick (.global 8) (.global 10) (.const (B false)))])
(.cond (.tmp 11)
  (.seq (reg [op 12 (.move (.tmp 0)) 1,
    op 13 (.binOp .sub 0 (.const (I 3)) (.global 12) 0) 1,
    op 4 (.move (.global 13))])
  .ret)
  .skip))
(.seq (reg [op 14 (.move (.tmp 0)) 1,
  op 4 (.move (.global 14))])
.ret))), [(4, 0)]⟩

/-- spec.l02Number -/
def fn451 : AFun := ⟨2,
(.seq (reg [op 3 (.makeChan 2 (.tmp 1)),
  op 4 (.move (.const (I 0)))])
(.seq (reg [op 5 (.move (.tmp 0)) 1,
  op 6 (.fieldAddr 1 (.tmp 3) 1) 1,
  op 7 (.lookup 0 (.tmp 3) (.global 6) false) 1,
  op 8 (call (.func 455) #[(.global 5), (.global 7)]) 1,
  op 9 (.fieldAddr 0 (.tmp 3) 1) 1,
  op 10 (.lookup 0 (.tmp 3) (.global 9) false) 1,
  op 11 (.binOp .sub 0 (.global 10) (.const (I 1)) 0) 1,
  op 12 (.binOp .quo 0 (.global 11) (.const (I 2)) 0) 1,
  op 13 (.binOp .add 0 (.global 8) (.global 12) 0) 1,
  op 4 (.move (.global 13))])
.ret)), [(4, 0)]⟩

/-- spec.l06Numbers -/
def fn478 : AFun := ⟨2,
(.seq (reg [op 4 (.move (.const (I 0)))])
(.seq (.seq (reg [op 5 (.move (.const (I 0)))])
(.block 0
  (.loop
    (.seq (.seq (reg [op 6 (.move (.tmp 5)) 1,
      op 7 (.move (.tmp 0)) 1,
      op 8 (bi .len #[(.global 7)] 1) 1,
      op 9 (.binOp .lss 0 (.global 6) (.global 8) 0) 1,
      op 10 (.move (.global 9)) 1,
      op 11 (.move (.tmp 5)) 1 (some (41, true)),
      op 12 (.move (.tmp 1)) 1 (some (41, true)),
      op 13 (bi .len #[(.global 12)] 1) 1 (some (41, true)),
      op 14 (.binOp .lss 0 (.global 11) (.global 13) 0) 1 (some (41, true)),
      op 15 (.pick (.global 10) (.global 14) (.const (B false)))])
    (.cond (.tmp 15)
      .skip
      (.exit 0)))
    (.seq (.block 1
      (.seq (.seq (reg [op 18 (.move (.tmp 0)) 1,
        op 19 (.move (.tmp 5)) 1,
        op 20 (.indexAddr 3 (.global 18) (.global 19)) 1,
        op 21 (.load 0 (.global 20)) 1,
        op 22 (.move (.tmp 1)) 1,
        op 23 (.move (.tmp 5)) 1,
        op 24 (.indexAddr 3 (.global 22) (.global 23)) 1,
        op 25 (.load 0 (.global 24)) 1,
        op 26 (.binOp .lss 0 (.global 21) (.global 25) 0)])
      (.cond (.tmp 26)
        (.seq (reg [op 4 (.move (.const (I (-1))))])
        .ret)
        .skip))
      (.seq (reg [op 27 (.move (.tmp 0)) 1,
        op 28 (.move (.tmp 5)) 1,
        op 29 (.indexAddr 3 (.global 27) (.global 28)) 1,
        op 30 (.load 0 (.global 29)) 1,
        op 31 (.move (.tmp 1)) 1,
        op 32 (.move (.tmp 5)) 1,
        op 33 (.indexAddr 3 (.global 31) (.global 32)) 1,
        op 34 (.load 0 (.global 33)) 1,
        op 35 (.binOp .gtr 0 (.global 30) (.global 34) 0)])
      (.cond (.tmp 35)
        (.seq (reg [op 4 (.move (.const (I 1)))])
        .ret)
        .skip))))
    (reg [op 16 (.move (.tmp 5)) 1,
      op 17 (.binOp .add 0 (.global 16) (.const (I 1)) 0) 1,
      op 5 (.move (.global 17))]))))))
(.seq (.seq (reg [op 36 (.move (.tmp 0)) 1,
  op 37 (bi .len #[(.global 36)] 1) 1,
  op 38 (.move (.tmp 1)) 1,
  op 39 (bi .len #[(.global 38)] 1) 1,
  op 40 (.binOp .lss 0 (.global 37) (.global 39) 0)])
(.cond (.tmp 40)
  (.seq (reg [op 4 (.move (.const (I (-1))))])
  .ret)
  .skip))
(.seq (.seq (reg [op 41 (.move (.tmp 0)) 1,
  op 42 (bi .len #[(.global 41)] 1) 1,
  op 43 (.move (.tmp 1)) 1,
  op 44 (bi .len #[(.global 43)] 1) 1,
  op 45 (.binOp .gtr 0 (.global 42) (.global 44) 0)])
(.cond (.tmp 45)
  (.seq (reg [op 4 (.move (.const (I 1)))])
  .ret)
  .skip))
(.seq (reg [op 4 (.move (.const (I 0)))])
.ret))))), [(4, 0)]⟩

/-- spec.l01Dec -/
def fn437 : AFun := ⟨1,
(.seq (reg [op 2 (.move (.const (S [])))])
(.seq (reg [op 6 (.move (.const (sl 0 0 0 1))) 1,
  op 3 (.move (.global 6))])
(.seq (.seq (reg [op 7 (.move (.tmp 0)) 1,
  op 4 (.move (.global 7))])
(.block 0
  (.loop
    (.seq (.seq (reg [op 8 (.move (.tmp 4)) 1,
      op 9 (.binOp .neq 0 (.global 8) (.const (I 0)) 0)])
    (.cond (.tmp 9)
      .skip
      (.exit 0)))
    (.seq (.block 1
      (.seq (reg [op 12 (.move (.tmp 4)) 1,
        op 13 (.binOp .rem 0 (.global 12) (.const (I 10)) 0) 1,
        op 5 (.move (.global 13))])
      (.seq (.seq (reg [op 14 (.move (.tmp 5)) 1,
        op 15 (.binOp .lss 0 (.global 14) (.const (I 0)) 0)])
      (.cond (.tmp 15)
        (reg [op 16 (.move (.tmp 5)) 1,
          op 17 (.unOp .neg 0 (.global 16)) 1,
          op 5 (.move (.global 17))])
        .skip))
      (reg [op 18 (.move (.tmp 5)) 1,
        op 19 (.binOp .add 0 (.const (I 48)) (.global 18) 0) 1,
        op 20 (.convert 0 4 (.global 19)) 1,
        op 21 (.buildSlice 1 1 #[(0, (.const (.agg #[(U 0)]))), (1, (.global 20))]) 1,
        op 22 (.move (.tmp 3)) 1,
        op 23 (bi .append #[(.global 21), (.global 22)] 1) 1,
        op 3 (.move (.global 23))]))))
    (reg [op 10 (.move (.tmp 4)) 1,
      op 11 (.binOp .quo 0 (.global 10) (.const (I 10)) 0) 1,
      op 4 (.move (.global 11))]))))))
(.seq (.seq (reg [op 24 (.move (.tmp 3)) 1,
  op 25 (bi .len #[(.global 24)] 1) 1,
  op 26 (.binOp .eql 0 (.global 25) (.const (I 0)) 0)])
(.cond (.tmp 26)
  (.seq (reg [op 2 (.move (.const (S [48])))])
  .ret)
  .skip))
(.seq (.seq (reg [op 27 (.move (.tmp 0)) 1,
  op 28 (.binOp .lss 0 (.global 27) (.const (I 0)) 0)])
(.cond (.tmp 28)
  (.seq (reg [op 29 (.move (.tmp 3)) 1,
    op 30 (.convert 0 21 (.global 29)) 1,
    op 31 (.binOp .add 0 (.const (S [45])) (.global 30) 0) 1,
    op 2 (.move (.global 31))])
  .ret)
  .skip))
(.seq (reg [op 32 (.move (.tmp 3)) 1,
  op 33 (.convert 0 21 (.global 32)) 1,
  op 2 (.move (.global 33))])
.ret)))))), [(2, 0)]⟩

/-- spec.l05Sign -/
def fn470 : AFun := ⟨1,
(.seq (reg [op 2 (.move (.const (U 0)))])
(.seq (.seq (reg [op 3 (.move (.tmp 0))])
(.block 0
  (.seq (reg [op 5 (.binOp .eql 0 (.tmp 3) (.const (I 1)) 0) 1,
    op 4 (.move (.global 5))])
  (.cond (.tmp 4)
    (.seq (reg [op 2 (.move (.const (U 124)))])
    .ret)
    (.seq (reg [op 7 (.binOp .eql 0 (.tmp 3) (.const (I 2)) 0) 1,
      op 6 (.move (.global 7))])
    (.cond (.tmp 6)
      (.seq (reg [op 2 (.move (.const (U 45)))])
      .ret)
      .skip))))))
(.seq (reg [op 2 (.move (.const (U 43)))])
.ret))), [(2, 0)]⟩

/-- impl.Decimal -/
def fn75 : AFun := ⟨1,
(.seq (reg [op 2 (.move (.const (S [])))])
(.seq (.seq (reg [op 6 (.move (.tmp 0)) 1,
  op 7 (.binOp .eql 0 (.global 6) (.const (I 0)) 0)])
(.cond (.tmp 7)
  (.seq (reg [op 2 (.move (.const (S [48])))])
  .ret)
  .skip))
(.seq (reg [op 8 (.build 0 #[(0, (.const (.agg #[(U 0), (U 0), (U 0), (U 0), (U 0), (U 0), (U 0), (U 0), (U 0), (U 0), (U 0), (U 0), (U 0), (U 0), (U 0), (U 0), (U 0), (U 0), (U 0), (U 0)])))]) 1,
  op 3 (.box 20 (.const (.agg #[(U 0), (U 0), (U 0), (U 0), (U 0), (U 0), (U 0), (U 0), (U 0), (U 0), (U 0), (U 0), (U 0), (U 0), (U 0), (U 0), (U 0), (U 0), (U 0), (U 0)]))),
  opn (.store 20 (.tmp 3) (.global 8))])
(.seq (reg [op 4 (.move (.const (I 20)))])
(.seq (reg [op 9 (.move (.tmp 0)) 1,
  op 10 (.convert 0 7 (.global 9)) 1,
  op 5 (.move (.global 10))])
(.seq (.seq (reg [op 11 (.move (.tmp 0)) 1,
  op 12 (.binOp .lss 0 (.global 11) (.const (I 0)) 0)])
(.cond (.tmp 12)
  (reg [op 13 (.move (.tmp 5)) 1,
    op 14 (.unOp .neg 0 (.global 13)) 1,
    op 5 (.move (.global 14))])
  .skip))
(.seq (.block 0
  (.loop
    (.seq (.seq (reg [op 15 (.move (.tmp 5)) 1,
      op 16 (.binOp .gtr 0 (.global 15) (.const (.int .u64 0)) 0)])
    (.cond (.tmp 16)
      .skip
      (.exit 0)))
    (.block 1
      (.seq (reg [op 17 (.move (.tmp 4)) 1,
        op 18 (.binOp .sub 0 (.global 17) (.const (I 1)) 0) 1,
        op 4 (.move (.global 18))])
      (.seq (reg [op 19 (.move (.tmp 4)) 1,
        op 20 (.move (.tmp 5)) 1,
        op 21 (.binOp .rem 0 (.global 20) (.const (.int .u64 10)) 0) 1,
        op 22 (.binOp .add 0 (.const (.int .u64 48)) (.global 21) 0) 1,
        op 23 (.convert 0 4 (.global 22)) 1,
        op 24 (.indexAddr 1020001 (.tmp 3) (.global 19)) 1,
        opn (.store 1 (.global 24) (.global 23))])
      (reg [op 25 (.move (.tmp 5)) 1,
        op 26 (.binOp .quo 0 (.global 25) (.const (.int .u64 10)) 0) 1,
        op 5 (.move (.global 26))])))))))
(.seq (.seq (reg [op 27 (.move (.tmp 0)) 1,
  op 28 (.binOp .lss 0 (.global 27) (.const (I 0)) 0)])
(.cond (.tmp 28)
  (.seq (reg [op 29 (.move (.tmp 4)) 1,
    op 30 (.binOp .sub 0 (.global 29) (.const (I 1)) 0) 1,
    op 4 (.move (.global 30))])
  (reg [op 31 (.move (.tmp 4)) 1,
    op 32 (.indexAddr 1020001 (.tmp 3) (.global 31)) 1,
    opn (.store 1 (.global 32) (.const (U 45)))]))
  .skip))
(.seq (reg [op 33 (.move (.tmp 4)) 1,
  op 34 (.slice 1020001 (.tmp 3) (some (.global 33)) none none) 1,
  op 35 (.convert 0 21 (.global 34)) 1,
  op 2 (.move (.global 35))])
.ret))))))))), [(2, 0)]⟩

/-- spec.l04Trace -/
def fn466 : AFun := ⟨2,
(.seq (reg [op 3 (.makeChan 4 (.tmp 1)),
  op 4 (.move (.const (sl 0 0 0 0))),
  op 5 (.move (.const (sl 0 0 0 0)))])
(.seq (reg [op 9 (.move (.const (sl 0 0 0 2))) 1,
  op 6 (.move (.global 9))])
(.seq (reg [op 10 (.move (.const (sl 0 0 0 1))) 1,
  op 7 (.move (.global 10))])
(.seq (.seq (reg [op 11 (.lookup 5 (.tmp 3) (.tmp 3) false) 1,
  op 8 (.move (.const (.agg #[(I 0), (I 0), (I 0), (I 0)]))),
  op 8 (.insert 4 (.tmp 8) (.tmp 8) (.global 11))])
(.block 0
  (.loop
    (.seq (.seq (reg [op 12 (.move (.tmp 6)) 1,
      op 13 (bi .len #[(.global 12)] 1) 1,
      op 14 (.binOp .eql 0 (.global 13) (.const (I 0)) 0) 1,
      op 15 (.move (.global 14)) 1,
      op 16 (.lookup 5 (.tmp 8) (.tmp 8) false) 1 (some (61, false)),
      op 17 (.lookup 5 (.tmp 3) (.tmp 3) false) 1 (some (61, false)),
      op 18 (.binOp .neq 6 (.global 16) (.global 17) 0) 1 (some (61, false)),
      op 19 (.pick (.global 15) (.const (B true)) (.global 18))])
    (.cond (.tmp 19)
      .skip
      (.exit 0)))
    (.seq (.block 1
      (.seq (reg [op 23 (.move (.tmp 6)) 1,
        op 24 (.fieldAddr 0 (.tmp 8) 1) 1,
        op 25 (.lookup 3 (.tmp 8) (.global 24) false) 1,
        op 26 (.buildSlice 2 1 #[(0, (.const (.agg #[(I 0), (I 0)]))), (2, (.global 25))]) 1,
        op 27 (bi .append #[(.global 23), (.global 26)] 2) 1,
        op 6 (.move (.global 27))])
      (reg [op 28 (.move (.tmp 7)) 1,
        op 29 (.move (.tmp 0)) 1,
        op 30 (.lookup 5 (.tmp 8) (.tmp 8) false) 1,
        op 31 (call (.func 460) #[(.global 29), (.global 30)]) 1,
        op 32 (.buildSlice 1 1 #[(0, (.const (.agg #[(I 0)]))), (1, (.global 31))]) 1,
        op 33 (bi .append #[(.global 28), (.global 32)] 1) 1,
        op 7 (.move (.global 33))])))
    (.seq (.seq (reg [op 34 (.lookup 5 (.tmp 8) (.tmp 8) false)])
    (reg [op 8 (.move (.const (.agg #[(I 0), (I 0), (I 0), (I 0)]))),
      op 8 (.insert 4 (.tmp 8) (.tmp 8) (.tmp 34))]))
    (reg [op 20 (.move (.tmp 0)) 1,
      op 21 (.lookup 5 (.tmp 8) (.tmp 8) false) 1,
      op 22 (call (.func 461) #[(.global 20), (.global 21)]) 1,
      op 8 (.insert 4 (.tmp 8) (.tmp 8) (.global 22))])))))))
(.seq (reg [op 35 (.move (.tmp 6)) 1,
  op 36 (.move (.tmp 7)) 1,
  op 4 (.move (.global 35)),
  op 5 (.move (.global 36))])
.ret))))), [(4, 0), (5, 0)]⟩

/-- spec.l03Walker -/
def fn462 : AFun := ⟨2,
(.seq (reg [op 4 (.move (.const (.agg #[(I 0), (I 0), (I 0), (I 0)])))])
(.seq (reg [op 8 (.move (.tmp 1)) 1,
  op 9 (.move (.tmp 0)) 1,
  op 10 (.nilCheck (.global 9)) 1,
  op 11 (.fieldAddr 1 (.global 10) 0) 1,
  op 12 (.load 0 (.global 11)) 1,
  op 13 (.binOp .mul 0 (.const (I 2)) (.global 12) 0) 1,
  op 14 (.binOp .quo 0 (.global 8) (.global 13) 0) 1,
  op 5 (.move (.global 14))])
(.seq (reg [op 15 (.move (.tmp 1)) 1,
  op 16 (.move (.tmp 0)) 1,
  op 17 (.nilCheck (.global 16)) 1,
  op 18 (.fieldAddr 1 (.global 17) 0) 1,
  op 19 (.load 0 (.global 18)) 1,
  op 20 (.binOp .mul 0 (.const (I 2)) (.global 19) 0) 1,
  op 21 (.binOp .rem 0 (.global 15) (.global 20) 0) 1,
  op 6 (.move (.global 21))])
(.seq (.seq (reg [op 22 (.move (.tmp 5)) 1,
  op 23 (.binOp .rem 0 (.global 22) (.const (I 2)) 0) 1,
  op 24 (.binOp .eql 0 (.global 23) (.const (I 0)) 0)])
(.cond (.tmp 24)
  (.seq (reg [op 25 (.move (.tmp 5)) 1,
    op 26 (.move (.tmp 6)) 1,
    op 27 (.binOp .quo 0 (.global 26) (.const (I 2)) 0) 1,
    op 28 (.binOp .mul 0 (.global 27) (.const (I 2)) 0) 1,
    op 29 (.binOp .add 0 (.global 28) (.const (I 1)) 0) 1,
    op 30 (.build 0 #[(0, (.const (.agg #[(I 0), (I 0)]))), (1, (.global 25)), (1001, (.global 29))]) 1,
    op 31 (.move (.tmp 6)) 1,
    op 32 (.binOp .rem 0 (.global 31) (.const (I 2)) 0) 1,
    op 33 (.binOp .mul 0 (.const (I 2)) (.global 32) 0) 1,
    op 34 (.binOp .sub 0 (.global 33) (.const (I 1)) 0) 1,
    op 35 (.build 0 #[(0, (.const (.agg #[(I 0), (I 0), (I 0), (I 0)]))), (2, (.global 30)), (2001, (.const (I 1))), (3001, (.global 34))]) 1,
    op 4 (.insert 4 (.tmp 4) (.tmp 4) (.global 35))])
  .ret)
  .skip))
(.seq (reg [op 36 (.move (.tmp 5)) 1,
  op 37 (.move (.tmp 6)) 1,
  op 38 (.binOp .add 0 (.global 37) (.const (I 1)) 0) 1,
  op 39 (.binOp .quo 0 (.global 38) (.const (I 2)) 0) 1,
  op 40 (.binOp .mul 0 (.global 39) (.const (I 2)) 0) 1,
  op 41 (.build 0 #[(0, (.const (.agg #[(I 0), (I 0)]))), (1, (.global 36)), (1001, (.global 40))]) 1,
  op 42 (.build 0 #[(0, (.const (.agg #[(I 0), (I 0), (I 0), (I 0)]))), (2, (.global 41)), (2001, (.const (I 1))), (3001, (.const (I 1)))]) 1,
  op 7 (.move (.const (.agg #[(I 0), (I 0), (I 0), (I 0)]))),
  op 7 (.insert 4 (.tmp 7) (.tmp 7) (.global 42))])
(.seq (.seq (reg [op 43 (.move (.tmp 6)) 1,
  op 44 (.binOp .rem 0 (.global 43) (.const (I 2)) 0) 1,
  op 45 (.binOp .eql 0 (.global 44) (.const (I 1)) 0)])
(.cond (.tmp 45)
  (reg [op 46 (.fieldAddr 3 (.tmp 7) 1) 1,
    op 7 (.insert 1 (.tmp 7) (.global 46) (.const (I (-1))))])
  .skip))
(.seq (reg [op 47 (.lookup 5 (.tmp 7) (.tmp 7) false) 1,
  op 4 (.insert 4 (.tmp 4) (.tmp 4) (.global 47))])
.ret))))))), [(4, 1000005)]⟩

/-- (impl.Panel).segments -/
def fn51 : AFun := ⟨1,
(.seq (reg [op 1 (.makeChan 3 (.tmp 0)),
  op 2 (.move (.const (I 0)))])
(.seq (reg [op 3 (.fieldAddr 0 (.tmp 1) 1) 1,
  op 4 (.lookup 0 (.tmp 1) (.global 3) false) 1,
  op 5 (.binOp .mul 0 (.const (I 4)) (.global 4) 0) 1,
  op 6 (.fieldAddr 1 (.tmp 1) 1) 1,
  op 7 (.lookup 0 (.tmp 1) (.global 6) false) 1,
  op 8 (.binOp .mul 0 (.global 5) (.global 7) 0) 1,
  op 2 (.move (.global 8))])
.ret)), [(2, 0)]⟩

/-- (impl.Panel).walker -/
def fn56 : AFun := ⟨2,
(.seq (reg [op 2 (.makeChan 3 (.tmp 0)),
  op 4 (.move (.const (.agg #[(I 0), (I 0), (I 0), (I 0)])))])
(.seq (reg [op 7 (.move (.tmp 1)) 1,
  op 8 (.fieldAddr 1 (.tmp 2) 1) 1,
  op 9 (.lookup 0 (.tmp 2) (.global 8) false) 1,
  op 10 (.binOp .mul 0 (.const (I 2)) (.global 9) 0) 1,
  op 11 (.binOp .quo 0 (.global 7) (.global 10) 0) 1,
  op 12 (.move (.tmp 1)) 1,
  op 13 (.fieldAddr 1 (.tmp 2) 1) 1,
  op 14 (.lookup 0 (.tmp 2) (.global 13) false) 1,
  op 15 (.binOp .mul 0 (.const (I 2)) (.global 14) 0) 1,
  op 16 (.binOp .rem 0 (.global 12) (.global 15) 0) 1,
  op 5 (.move (.global 11)),
  op 6 (.move (.global 16))])
(.seq (.seq (reg [op 17 (.move (.tmp 5)) 1,
  op 18 (.move (.tmp 6)) 1,
  op 19 (.binOp .add 0 (.global 17) (.global 18) 0) 1,
  op 20 (.binOp .rem 0 (.global 19) (.const (I 2)) 0) 1,
  op 21 (.binOp .eql 0 (.global 20) (.const (I 1)) 0)])
(.cond (.tmp 21)
  (.seq (reg [op 22 (.move (.tmp 5)) 1,
    op 23 (.move (.tmp 6)) 1,
    op 24 (.build 0 #[(0, (.const (.agg #[(I 0), (I 0)]))), (1, (.global 22)), (1001, (.global 23))]) 1,
    op 25 (.build 0 #[(0, (.const (.agg #[(I 0), (I 0), (I 0), (I 0)]))), (2, (.global 24)), (2001, (.const (I 1))), (3001, (.const (I 1)))]) 1,
    op 4 (.insert 4 (.tmp 4) (.tmp 4) (.global 25))])
  .ret)
  .skip))
(.seq (reg [op 26 (.move (.tmp 5)) 1,
  op 27 (.move (.tmp 6)) 1,
  op 28 (.binOp .add 0 (.global 27) (.const (I 1)) 0) 1,
  op 29 (.build 0 #[(0, (.const (.agg #[(I 0), (I 0)]))), (1, (.global 26)), (1001, (.global 28))]) 1,
  op 30 (.build 0 #[(0, (.const (.agg #[(I 0), (I 0), (I 0), (I 0)]))), (2, (.global 29)), (2001, (.const (I 1))), (3001, (.const (I (-1))))]) 1,
  op 4 (.insert 4 (.tmp 4) (.tmp 4) (.global 30))])
.ret)))), [(4, 1000005)]⟩

/-- (impl.Panel).segment -/
def fn50 : AFun := ⟨2,
(.seq (reg [op 2 (.makeChan 3 (.tmp 0)),
  op 3 (.makeChan 4 (.tmp 1)),
  op 4 (.move (.const (I 0)))])
(.seq (reg [op 6 (.lookup 5 (.tmp 3) (.tmp 3) false) 1,
  op 7 (call (.func 58) #[(.global 6)]) 1,
  op 5 (.move (.const (.agg #[(I 0), (I 0)]))),
  op 5 (.insert 2 (.tmp 5) (.tmp 5) (.global 7))])
(.seq (reg [op 8 (.fieldAddr 0 (.tmp 3) 1) 1,
  op 9 (.fieldAddr 0 (.global 8) 1) 1,
  op 10 (.lookup 0 (.tmp 3) (.global 9) false) 1,
  op 11 (.fieldAddr 0 (.tmp 5) 1) 1,
  op 12 (.lookup 0 (.tmp 5) (.global 11) false) 1,
  op 13 (bi .min #[(.global 10), (.global 12)] 0) 1,
  op 14 (.binOp .mul 0 (.global 13) (.const (I 2)) 0) 1,
  op 15 (.fieldAddr 1 (.tmp 2) 1) 1,
  op 16 (.lookup 0 (.tmp 2) (.global 15) false) 1,
  op 17 (.binOp .mul 0 (.global 14) (.global 16) 0) 1,
  op 18 (.fieldAddr 0 (.tmp 3) 1) 1,
  op 19 (.fieldAddr 1 (.global 18) 1) 1,
  op 20 (.lookup 0 (.tmp 3) (.global 19) false) 1,
  op 21 (.fieldAddr 1 (.tmp 5) 1) 1,
  op 22 (.lookup 0 (.tmp 5) (.global 21) false) 1,
  op 23 (bi .min #[(.global 20), (.global 22)] 0) 1,
  op 24 (.binOp .add 0 (.global 17) (.global 23) 0) 1,
  op 4 (.move (.global 24))])
.ret))), [(4, 0)]⟩

/-- (impl.Panel).step -/
def fn54 : AFun := ⟨2,
(.seq (reg [op 2 (.makeChan 3 (.tmp 0)),
  op 3 (.makeChan 4 (.tmp 1)),
  op 4 (.move (.const (.agg #[(I 0), (I 0), (I 0), (I 0)]))),
  op 5 (.move (.const (B false)))])
(.seq (reg [op 9 (.lookup 5 (.tmp 3) (.tmp 3) false) 1,
  op 10 (call (.func 58) #[(.global 9)]) 1,
  op 6 (.move (.const (.agg #[(I 0), (I 0)]))),
  op 6 (.insert 2 (.tmp 6) (.tmp 6) (.global 10))])
(.seq (reg [op 11 (.lookup 3 (.tmp 6) (.tmp 6) false) 1,
  op 12 (.fieldAddr 2 (.tmp 3) 1) 1,
  op 13 (.lookup 0 (.tmp 3) (.global 12) false) 1,
  op 14 (.fieldAddr 3 (.tmp 3) 1) 1,
  op 15 (.lookup 0 (.tmp 3) (.global 14) false) 1,
  op 16 (.build 0 #[(0, (.const (.agg #[(I 0), (I 0), (I 0), (I 0)]))), (2, (.global 11)), (2001, (.global 13)), (3001, (.global 15))]) 1,
  op 7 (.move (.const (.agg #[(I 0), (I 0), (I 0), (I 0)]))),
  op 7 (.insert 4 (.tmp 7) (.tmp 7) (.global 16))])
(.seq (reg [op 8 (.move (.const (I 0)))])
(.seq (.seq (reg [op 17 (.lookup 4 (.tmp 2) (.tmp 2) false) 1,
  op 18 (.lookup 3 (.tmp 6) (.tmp 6) false) 1,
  op 19 (call (.func 34) #[(.global 17), (.global 18)]) 1,
  op 20 (.unOp .not 0 (.global 19))])
(.cond (.tmp 20)
  (reg [op 21 (.fieldAddr 2 (.tmp 2) 1) 1,
    op 22 (.lookup 0 (.tmp 2) (.global 21) false) 1,
    op 23 (.lookup 4 (.tmp 2) (.tmp 2) false) 1,
    op 24 (.lookup 3 (.tmp 6) (.tmp 6) false) 1,
    op 25 (call (.func 40) #[(.global 23), (.global 24)]) 1,
    op 26 (.indexAddr 3 (.global 22) (.global 25)) 1,
    op 27 (.load 0 (.global 26)) 1,
    op 8 (.move (.global 27))])
  .skip))
(.seq (.seq (reg [op 28 (.fieldAddr 0 (.tmp 6) 1) 1,
  op 29 (.lookup 0 (.tmp 6) (.global 28) false) 1,
  op 30 (.binOp .eql 0 (.global 29) (.const (I 0)) 0) 1,
  op 31 (.move (.global 30)) 1,
  op 32 (.fieldAddr 0 (.tmp 6) 1) 1 (some (125, false)),
  op 33 (.lookup 0 (.tmp 6) (.global 32) false) 1 (some (125, false)),
  op 34 (.fieldAddr 0 (.tmp 2) 1) 1 (some (125, false)),
  op 35 (.lookup 0 (.tmp 2) (.global 34) false) 1 (some (125, false)),
  op 36 (.binOp .mul 0 (.const (I 2)) (.global 35) 0) 1 (some (125, false)),
  op 37 (.binOp .eql 0 (.global 33) (.global 36) 0) 1 (some (125, false)),
  op 38 (.pick (.global 31) (.const (B true)) (.global 37)) 1,
  op 39 (.move (.global 38)) 1,
  op 40 (.move (.tmp 8)) 1 (some (157, false)),
  op 41 (.binOp .eql 0 (.global 40) (.const (I 1)) 0) 1 (some (157, false)),
  op 42 (.pick (.global 39) (.const (B true)) (.global 41))])
(.cond (.tmp 42)
  (reg [op 43 (.fieldAddr 2 (.tmp 7) 1) 1,
    op 44 (.lookup 0 (.tmp 7) (.global 43) false) 1,
    op 45 (.unOp .neg 0 (.global 44)) 1,
    op 46 (.fieldAddr 2 (.tmp 7) 1) 1,
    op 7 (.insert 1 (.tmp 7) (.global 46) (.global 45))])
  .skip))
(.seq (.seq (reg [op 47 (.fieldAddr 1 (.tmp 6) 1) 1,
  op 48 (.lookup 0 (.tmp 6) (.global 47) false) 1,
  op 49 (.binOp .eql 0 (.global 48) (.const (I 0)) 0) 1,
  op 50 (.move (.global 49)) 1,
  op 51 (.fieldAddr 1 (.tmp 6) 1) 1 (some (201, false)),
  op 52 (.lookup 0 (.tmp 6) (.global 51) false) 1 (some (201, false)),
  op 53 (.fieldAddr 1 (.tmp 2) 1) 1 (some (201, false)),
  op 54 (.lookup 0 (.tmp 2) (.global 53) false) 1 (some (201, false)),
  op 55 (.binOp .mul 0 (.const (I 2)) (.global 54) 0) 1 (some (201, false)),
  op 56 (.binOp .eql 0 (.global 52) (.global 55) 0) 1 (some (201, false)),
  op 57 (.pick (.global 50) (.const (B true)) (.global 56)) 1,
  op 58 (.move (.global 57)) 1,
  op 59 (.move (.tmp 8)) 1 (some (233, false)),
  op 60 (.binOp .eql 0 (.global 59) (.const (I 2)) 0) 1 (some (233, false)),
  op 61 (.pick (.global 58) (.const (B true)) (.global 60))])
(.cond (.tmp 61)
  (reg [op 62 (.fieldAddr 3 (.tmp 7) 1) 1,
    op 63 (.lookup 0 (.tmp 7) (.global 62) false) 1,
    op 64 (.unOp .neg 0 (.global 63)) 1,
    op 65 (.fieldAddr 3 (.tmp 7) 1) 1,
    op 7 (.insert 1 (.tmp 7) (.global 65) (.global 64))])
  .skip))
(.seq (reg [op 66 (.lookup 5 (.tmp 7) (.tmp 7) false) 1,
  op 67 (.fieldAddr 2 (.tmp 7) 1) 1,
  op 68 (.lookup 0 (.tmp 7) (.global 67) false) 1,
  op 69 (.fieldAddr 2 (.tmp 3) 1) 1,
  op 70 (.lookup 0 (.tmp 3) (.global 69) false) 1,
  op 71 (.binOp .neq 0 (.global 68) (.global 70) 0) 1,
  op 72 (.move (.global 71)) 1,
  op 73 (.fieldAddr 3 (.tmp 7) 1) 1 (some (289, false)),
  op 74 (.lookup 0 (.tmp 7) (.global 73) false) 1 (some (289, false)),
  op 75 (.fieldAddr 3 (.tmp 3) 1) 1 (some (289, false)),
  op 76 (.lookup 0 (.tmp 3) (.global 75) false) 1 (some (289, false)),
  op 77 (.binOp .neq 0 (.global 74) (.global 76) 0) 1 (some (289, false)),
  op 78 (.pick (.global 72) (.const (B true)) (.global 77)) 1,
  op 4 (.insert 4 (.tmp 4) (.tmp 4) (.global 66)),
  op 5 (.move (.global 78))])
.ret)))))))), [(4, 1000005), (5, 0)]⟩

/-- spec.l01Number -/
def fn439 : AFun := ⟨1,
(.seq (reg [op 2 (.move (.const (I 0))),
  op 3 (.move (.const (B false)))])
(.seq (reg [op 7 (.move (.tmp 0)) 1,
  op 4 (.move (.global 7))])
(.seq (.seq (reg [op 8 (.move (.tmp 4)) 1,
  op 9 (.binOp .neq 0 (.global 8) (.const (S [])) 0) 1,
  op 10 (.move (.global 9)) 1,
  op 11 (.move (.tmp 4)) 1 (some (41, true)),
  op 12 (.index 0 (.global 11) (.const (I 0))) 1 (some (41, true)),
  op 13 (.binOp .eql 0 (.global 12) (.const (U 45)) 0) 1 (some (41, true)),
  op 14 (.pick (.global 10) (.global 13) (.const (B false)))])
(.cond (.tmp 14)
  (reg [op 15 (.move (.tmp 4)) 1,
    op 16 (.slice 0 (.global 15) (some (.const (I 1))) none none) 1,
    op 4 (.move (.global 16))])
  .skip))
(.seq (.seq (reg [op 17 (.move (.tmp 4)) 1,
  op 18 (bi .len #[(.global 17)] 0) 1,
  op 19 (.binOp .lss 0 (.global 18) (.const (I 1)) 0) 1,
  op 20 (.move (.global 19)) 1,
  op 21 (.move (.tmp 4)) 1 (some (81, false)),
  op 22 (bi .len #[(.global 21)] 0) 1 (some (81, false)),
  op 23 (.binOp .gtr 0 (.global 22) (.const (I 18)) 0) 1 (some (81, false)),
  op 24 (.pick (.global 20) (.const (B true)) (.global 23))])
(.cond (.tmp 24)
  (.seq (reg [op 2 (.move (.const (I 0))),
    op 3 (.move (.const (B false)))])
  .ret)
  .skip))
(.seq (reg [op 5 (.move (.const (I 0)))])
(.seq (.seq (reg [op 6 (.move (.const (I 0)))])
(.block 0
  (.loop
    (.seq (.seq (reg [op 25 (.move (.tmp 6)) 1,
      op 26 (.move (.tmp 4)) 1,
      op 27 (bi .len #[(.global 26)] 0) 1,
      op 28 (.binOp .lss 0 (.global 25) (.global 27) 0)])
    (.cond (.tmp 28)
      .skip
      (.exit 0)))
    (.seq (.block 1
      (.seq (.seq (reg [op 31 (.move (.tmp 4)) 1,
        op 32 (.move (.tmp 6)) 1,
        op 33 (.index 0 (.global 31) (.global 32)) 1,
        op 34 (call (.func 438) #[(.global 33)]) 1,
        op 35 (.unOp .not 0 (.global 34))])
      (.cond (.tmp 35)
        (.seq (reg [op 2 (.move (.const (I 0))),
          op 3 (.move (.const (B false)))])
        .ret)
        .skip))
      (reg [op 36 (.move (.tmp 5)) 1,
        op 37 (.binOp .mul 0 (.const (I 10)) (.global 36) 0) 1,
        op 38 (.move (.tmp 4)) 1,
        op 39 (.move (.tmp 6)) 1,
        op 40 (.index 0 (.global 38) (.global 39)) 1,
        op 41 (.binOp .sub 0 (.global 40) (.const (U 48)) 0) 1,
        op 42 (.convert 0 3 (.global 41)) 1,
        op 43 (.binOp .add 0 (.global 37) (.global 42) 0) 1,
        op 5 (.move (.global 43))])))
    (reg [op 29 (.move (.tmp 6)) 1,
      op 30 (.binOp .add 0 (.global 29) (.const (I 1)) 0) 1,
      op 6 (.move (.global 30))]))))))
(.seq (.seq (reg [op 44 (.move (.tmp 4)) 1,
  op 45 (bi .len #[(.global 44)] 0) 1,
  op 46 (.move (.tmp 0)) 1,
  op 47 (bi .len #[(.global 46)] 0) 1,
  op 48 (.binOp .lss 0 (.global 45) (.global 47) 0)])
(.cond (.tmp 48)
  (reg [op 49 (.move (.tmp 5)) 1,
    op 50 (.unOp .neg 0 (.global 49)) 1,
    op 5 (.move (.global 50))])
  .skip))
(.seq (.seq (reg [op 51 (.move (.tmp 5)) 1,
  op 52 (call (.func 437) #[(.global 51)]) 1,
  op 53 (.move (.tmp 0)) 1,
  op 54 (.binOp .neq 0 (.global 52) (.global 53) 0)])
(.cond (.tmp 54)
  (.seq (reg [op 2 (.move (.const (I 0))),
    op 3 (.move (.const (B false)))])
  .ret)
  .skip))
(.seq (reg [op 55 (.move (.tmp 5)) 1,
  op 2 (.move (.global 55)),
  op 3 (.move (.const (B true)))])
.ret))))))))), [(2, 0), (3, 0)]⟩

/-- spec.l05Kind -/
def fn467 : AFun := ⟨1,
(.seq (reg [op 2 (.move (.const (I 0)))])
(.seq (.seq (reg [op 3 (.move (.tmp 0))])
(.block 0
  (.seq (reg [op 5 (.binOp .eql 0 (.tmp 3) (.const (U 43)) 0) 1,
    op 4 (.move (.global 5))])
  (.cond (.tmp 4)
    (.seq (reg [op 2 (.move (.const (I 0)))])
    .ret)
    (.seq (reg [op 7 (.binOp .eql 0 (.tmp 3) (.const (U 124)) 0) 1,
      op 6 (.move (.global 7))])
    (.cond (.tmp 6)
      (.seq (reg [op 2 (.move (.const (I 1)))])
      .ret)
      (.seq (reg [op 9 (.binOp .eql 0 (.tmp 3) (.const (U 45)) 0) 1,
        op 8 (.move (.global 9))])
      (.cond (.tmp 8)
        (.seq (reg [op 2 (.move (.const (I 2)))])
        .ret)
        .skip))))))))
(.seq (reg [op 2 (.move (.const (I (-1))))])
.ret))), [(2, 0)]⟩

/-- slices.rotateRight[impl.Kept] -/
def fn326 : AFun := ⟨2,
(reg [op 4 (.move (.tmp 0)) 1,
  op 5 (.move (.tmp 0)) 1,
  op 6 (bi .len #[(.global 5)] 1) 1,
  op 7 (.move (.tmp 1)) 1,
  op 8 (.binOp .sub 0 (.global 6) (.global 7) 0) 1,
  op 9 (call (.func 324) #[(.global 4), (.global 8)]) 1]), []⟩

/-- cmp.Compare[int64] -/
def fn59 : AFun := ⟨2,
(.seq (reg [op 4 (.move (.const (I 0)))])
(.seq (reg [op 7 (.move (.tmp 0)) 1,
  op 8 (call (.func 60) #[(.global 7)]) 1,
  op 5 (.move (.global 8))])
(.seq (reg [op 9 (.move (.tmp 1)) 1,
  op 10 (call (.func 60) #[(.global 9)]) 1,
  op 6 (.move (.global 10))])
(.seq (.seq (reg [op 11 (.move (.tmp 5))])
(.cond (.tmp 11)
  (.seq (.seq (reg [op 12 (.move (.tmp 6))])
  (.cond (.tmp 12)
    (.seq (reg [op 4 (.move (.const (I 0)))])
    .ret)
    .skip))
  (.seq (reg [op 4 (.move (.const (I (-1))))])
  .ret))
  .skip))
(.seq (.seq (reg [op 13 (.move (.tmp 6))])
(.cond (.tmp 13)
  (.seq (reg [op 4 (.move (.const (I 1)))])
  .ret)
  .skip))
(.seq (.seq (reg [op 14 (.move (.tmp 0)) 1,
  op 15 (.move (.tmp 1)) 1,
  op 16 (.binOp .lss 0 (.global 14) (.global 15) 0)])
(.cond (.tmp 16)
  (.seq (reg [op 4 (.move (.const (I (-1))))])
  .ret)
  .skip))
(.seq (.seq (reg [op 17 (.move (.tmp 0)) 1,
  op 18 (.move (.tmp 1)) 1,
  op 19 (.binOp .gtr 0 (.global 17) (.global 18) 0)])
(.cond (.tmp 19)
  (.seq (reg [op 4 (.move (.const (I 1)))])
  .ret)
  .skip))
(.seq (reg [op 4 (.move (.const (I 0)))])
.ret)))))))), [(4, 0)]⟩

/-- spec.l02Row -/
def fn455 : AFun := ⟨2,
(.seq (reg [op 4 (.move (.const (I 0)))])
(.seq (reg [op 5 (.move (.const (I 0)))])
(.seq (.seq (reg [op 6 (.move (.const (I 1)))])
(.block 0
  (.loop
    (.seq (.seq (reg [op 7 (.move (.tmp 6)) 1,
      op 8 (.move (.tmp 1)) 1,
      op 9 (.binOp .lss 0 (.global 7) (.global 8) 0)])
    (.cond (.tmp 9)
      .skip
      (.exit 0)))
    (.seq (.block 1
      (.seq (reg [op 12 (.move (.tmp 5)) 1,
        op 13 (.move (.tmp 0)) 1,
        op 14 (.nilCheck (.global 13)) 1,
        op 15 (.fieldAddr 0 (.global 14) 0) 1,
        op 16 (.load 0 (.global 15)) 1,
        op 17 (.binOp .add 0 (.global 12) (.global 16) 0) 1,
        op 5 (.move (.global 17))])
      (.seq (reg [op 18 (.move (.tmp 6)) 1,
        op 19 (.binOp .rem 0 (.global 18) (.const (I 2)) 0) 1,
        op 20 (.binOp .eql 0 (.global 19) (.const (I 1)) 0)])
      (.cond (.tmp 20)
        (reg [op 21 (.move (.tmp 5)) 1,
          op 22 (.binOp .sub 0 (.global 21) (.const (I 1)) 0) 1,
          op 5 (.move (.global 22))])
        .skip))))
    (reg [op 10 (.move (.tmp 6)) 1,
      op 11 (.binOp .add 0 (.global 10) (.const (I 1)) 0) 1,
      op 6 (.move (.global 11))]))))))
(.seq (reg [op 23 (.move (.tmp 5)) 1,
  op 4 (.move (.global 23))])
.ret)))), [(4, 0)]⟩

/-- spec.l03Step -/
def fn461 : AFun := ⟨2,
(.seq (reg [op 3 (.makeChan 4 (.tmp 1)),
  op 4 (.move (.const (.agg #[(I 0), (I 0), (I 0), (I 0)])))])
(.seq (reg [op 7 (.lookup 5 (.tmp 3) (.tmp 3) false) 1,
  op 8 (call (.func 459) #[(.global 7)]) 1,
  op 5 (.move (.const (.agg #[(I 0), (I 0)]))),
  op 5 (.insert 2 (.tmp 5) (.tmp 5) (.global 8))])
(.seq (reg [op 9 (.lookup 3 (.tmp 5) (.tmp 5) false) 1,
  op 10 (.fieldAddr 2 (.tmp 3) 1) 1,
  op 11 (.lookup 0 (.tmp 3) (.global 10) false) 1,
  op 12 (.fieldAddr 3 (.tmp 3) 1) 1,
  op 13 (.lookup 0 (.tmp 3) (.global 12) false) 1,
  op 14 (.build 0 #[(0, (.const (.agg #[(I 0), (I 0), (I 0), (I 0)]))), (2, (.global 9)), (2001, (.global 11)), (3001, (.global 13))]) 1,
  op 6 (.move (.const (.agg #[(I 0), (I 0), (I 0), (I 0)]))),
  op 6 (.insert 4 (.tmp 6) (.tmp 6) (.global 14))])
(.seq (.seq (reg [op 15 (.fieldAddr 0 (.tmp 5) 1) 1,
  op 16 (.lookup 0 (.tmp 5) (.global 15) false) 1,
  op 17 (.binOp .eql 0 (.global 16) (.const (I 0)) 0) 1,
  op 18 (.move (.global 17)) 1,
  op 19 (.fieldAddr 0 (.tmp 5) 1) 1 (some (73, false)),
  op 20 (.lookup 0 (.tmp 5) (.global 19) false) 1 (some (73, false)),
  op 21 (.move (.tmp 0)) 1 (some (73, false)),
  op 22 (.nilCheck (.global 21)) 1 (some (73, false)),
  op 23 (.fieldAddr 0 (.global 22) 0) 1 (some (73, false)),
  op 24 (.load 0 (.global 23)) 1 (some (73, false)),
  op 25 (.binOp .mul 0 (.const (I 2)) (.global 24) 0) 1 (some (73, false)),
  op 26 (.binOp .eql 0 (.global 20) (.global 25) 0) 1 (some (73, false)),
  op 27 (.pick (.global 18) (.const (B true)) (.global 26))])
(.cond (.tmp 27)
  (reg [op 28 (.fieldAddr 2 (.tmp 6) 1) 1,
    op 29 (.lookup 0 (.tmp 6) (.global 28) false) 1,
    op 30 (.unOp .neg 0 (.global 29)) 1,
    op 31 (.fieldAddr 2 (.tmp 6) 1) 1,
    op 6 (.insert 1 (.tmp 6) (.global 31) (.global 30))])
  .skip))
(.seq (.seq (reg [op 32 (.fieldAddr 1 (.tmp 5) 1) 1,
  op 33 (.lookup 0 (.tmp 5) (.global 32) false) 1,
  op 34 (.binOp .eql 0 (.global 33) (.const (I 0)) 0) 1,
  op 35 (.move (.global 34)) 1,
  op 36 (.fieldAddr 1 (.tmp 5) 1) 1 (some (141, false)),
  op 37 (.lookup 0 (.tmp 5) (.global 36) false) 1 (some (141, false)),
  op 38 (.move (.tmp 0)) 1 (some (141, false)),
  op 39 (.nilCheck (.global 38)) 1 (some (141, false)),
  op 40 (.fieldAddr 1 (.global 39) 0) 1 (some (141, false)),
  op 41 (.load 0 (.global 40)) 1 (some (141, false)),
  op 42 (.binOp .mul 0 (.const (I 2)) (.global 41) 0) 1 (some (141, false)),
  op 43 (.binOp .eql 0 (.global 37) (.global 42) 0) 1 (some (141, false)),
  op 44 (.pick (.global 35) (.const (B true)) (.global 43))])
(.cond (.tmp 44)
  (reg [op 45 (.fieldAddr 3 (.tmp 6) 1) 1,
    op 46 (.lookup 0 (.tmp 6) (.global 45) false) 1,
    op 47 (.unOp .neg 0 (.global 46)) 1,
    op 48 (.fieldAddr 3 (.tmp 6) 1) 1,
    op 6 (.insert 1 (.tmp 6) (.global 48) (.global 47))])
  .skip))
(.seq (.seq (reg [op 49 (.move (.tmp 0)) 1,
  op 50 (.lookup 3 (.tmp 5) (.tmp 5) false) 1,
  op 51 (call (.func 446) #[(.global 49), (.global 50)]) 1,
  op 52 (.unOp .not 0 (.global 51))])
(.cond (.tmp 52)
  (.seq (reg [op 53 (.move (.tmp 0)) 1,
    op 54 (.nilCheck (.global 53)) 1,
    op 55 (.fieldAddr 2 (.global 54) 0) 1,
    op 56 (.load 0 (.global 55)) 1,
    op 57 (.move (.tmp 0)) 1,
    op 58 (.lookup 3 (.tmp 5) (.tmp 5) false) 1,
    op 59 (call (.func 451) #[(.global 57), (.global 58)]) 3,
    op 60 (.indexAddr 3 (.global 56) (.global 59)) 1,
    op 61 (.load 0 (.global 60))])
  (.block 0
    (.seq (reg [op 63 (.binOp .eql 0 (.tmp 61) (.const (I 1)) 0) 1,
      op 62 (.move (.global 63))])
    (.cond (.tmp 62)
      (reg [op 64 (.fieldAddr 2 (.tmp 6) 1) 1,
        op 65 (.lookup 0 (.tmp 6) (.global 64) false) 1,
        op 66 (.unOp .neg 0 (.global 65)) 1,
        op 67 (.fieldAddr 2 (.tmp 6) 1) 1,
        op 6 (.insert 1 (.tmp 6) (.global 67) (.global 66))])
      (.seq (reg [op 69 (.binOp .eql 0 (.tmp 61) (.const (I 2)) 0) 1,
        op 68 (.move (.global 69))])
      (.cond (.tmp 68)
        (reg [op 70 (.fieldAddr 3 (.tmp 6) 1) 1,
          op 71 (.lookup 0 (.tmp 6) (.global 70) false) 1,
          op 72 (.unOp .neg 0 (.global 71)) 1,
          op 73 (.fieldAddr 3 (.tmp 6) 1) 1,
          op 6 (.insert 1 (.tmp 6) (.global 73) (.global 72))])
        .skip))))))
  .skip))
(.seq (reg [op 74 (.lookup 5 (.tmp 6) (.tmp 6) false) 1,
  op 4 (.insert 4 (.tmp 4) (.tmp 4) (.global 74))])
.ret))))))), [(4, 1000005)]⟩

/-- spec.l03Segment -/
def fn460 : AFun := ⟨2,
(.seq (reg [op 3 (.makeChan 4 (.tmp 1)),
  op 4 (.move (.const (I 0)))])
(.seq (reg [op 9 (.lookup 5 (.tmp 3) (.tmp 3) false) 1,
  op 10 (call (.func 458) #[(.global 9)]) 1,
  op 8 (.move (.global 10)) 1,
  op 11 (.extract (.global 8) 0) 1,
  op 12 (.extract (.global 8) 1) 1,
  op 5 (.move (.const (.agg #[(I 0), (I 0)]))),
  op 5 (.insert 2 (.tmp 5) (.tmp 5) (.global 11)),
  op 6 (.move (.global 12))])
(.seq (reg [op 13 (.fieldAddr 0 (.tmp 5) 1) 1,
  op 14 (.lookup 0 (.tmp 5) (.global 13) false) 1,
  op 15 (.binOp .mul 0 (.global 14) (.const (I 2)) 0) 1,
  op 16 (.move (.tmp 0)) 1,
  op 17 (.nilCheck (.global 16)) 1,
  op 18 (.fieldAddr 1 (.global 17) 0) 1,
  op 19 (.load 0 (.global 18)) 1,
  op 20 (.binOp .mul 0 (.global 15) (.global 19) 0) 1,
  op 21 (.fieldAddr 1 (.tmp 5) 1) 1,
  op 22 (.lookup 0 (.tmp 5) (.global 21) false) 1,
  op 23 (.binOp .add 0 (.global 20) (.global 22) 0) 1,
  op 24 (.binOp .sub 0 (.global 23) (.const (I 1)) 0) 1,
  op 7 (.move (.global 24))])
(.seq (.seq (reg [op 25 (.move (.tmp 6)) 1,
  op 26 (.fieldAddr 1 (.tmp 5) 1) 1,
  op 27 (.lookup 0 (.tmp 5) (.global 26) false) 1,
  op 28 (.binOp .gtr 0 (.global 25) (.global 27) 0)])
(.cond (.tmp 28)
  (reg [op 29 (.move (.tmp 7)) 1,
    op 30 (.binOp .add 0 (.global 29) (.const (I 1)) 0) 1,
    op 7 (.move (.global 30))])
  .skip))
(.seq (reg [op 31 (.move (.tmp 7)) 1,
  op 4 (.move (.global 31))])
.ret))))), [(4, 0)]⟩

/-- (impl.Walker).next -/
def fn58 : AFun := ⟨1,
(.seq (reg [op 1 (.makeChan 4 (.tmp 0)),
  op 2 (.move (.const (.agg #[(I 0), (I 0)])))])
(.seq (reg [op 3 (.fieldAddr 0 (.tmp 1) 1) 1,
  op 4 (.fieldAddr 0 (.global 3) 1) 1,
  op 5 (.lookup 0 (.tmp 1) (.global 4) false) 1,
  op 6 (.fieldAddr 2 (.tmp 1) 1) 1,
  op 7 (.lookup 0 (.tmp 1) (.global 6) false) 1,
  op 8 (.binOp .add 0 (.global 5) (.global 7) 0) 1,
  op 9 (.fieldAddr 0 (.tmp 1) 1) 1,
  op 10 (.fieldAddr 1 (.global 9) 1) 1,
  op 11 (.lookup 0 (.tmp 1) (.global 10) false) 1,
  op 12 (.fieldAddr 3 (.tmp 1) 1) 1,
  op 13 (.lookup 0 (.tmp 1) (.global 12) false) 1,
  op 14 (.binOp .add 0 (.global 11) (.global 13) 0) 1,
  op 15 (.build 0 #[(0, (.const (.agg #[(I 0), (I 0)]))), (1, (.global 8)), (1001, (.global 14))]) 1,
  op 2 (.insert 2 (.tmp 2) (.tmp 2) (.global 15))])
.ret)), [(2, 1000003)]⟩

/-- (impl.Panel).isBorder -/
def fn34 : AFun := ⟨2,
(.seq (reg [op 2 (.makeChan 3 (.tmp 0)),
  op 3 (.makeChan 2 (.tmp 1)),
  op 4 (.move (.const (B false)))])
(.seq (reg [op 5 (.fieldAddr 0 (.tmp 3) 1) 1,
  op 6 (.lookup 0 (.tmp 3) (.global 5) false) 1,
  op 7 (.binOp .eql 0 (.global 6) (.const (I 0)) 0) 1,
  op 8 (.move (.global 7)) 1,
  op 9 (.fieldAddr 0 (.tmp 3) 1) 1 (some (33, false)),
  op 10 (.lookup 0 (.tmp 3) (.global 9) false) 1 (some (33, false)),
  op 11 (.fieldAddr 0 (.tmp 2) 1) 1 (some (33, false)),
  op 12 (.lookup 0 (.tmp 2) (.global 11) false) 1 (some (33, false)),
  op 13 (.binOp .mul 0 (.const (I 2)) (.global 12) 0) 1 (some (33, false)),
  op 14 (.binOp .eql 0 (.global 10) (.global 13) 0) 1 (some (33, false)),
  op 15 (.pick (.global 8) (.const (B true)) (.global 14)) 1,
  op 16 (.move (.global 15)) 1,
  op 17 (.fieldAddr 1 (.tmp 3) 1) 1 (some (65, false)),
  op 18 (.lookup 0 (.tmp 3) (.global 17) false) 1 (some (65, false)),
  op 19 (.binOp .eql 0 (.global 18) (.const (I 0)) 0) 1 (some (65, false)),
  op 20 (.pick (.global 16) (.const (B true)) (.global 19)) 1,
  op 21 (.move (.global 20)) 1,
  op 22 (.fieldAddr 1 (.tmp 3) 1) 1 (some (85, false)),
  op 23 (.lookup 0 (.tmp 3) (.global 22) false) 1 (some (85, false)),
  op 24 (.fieldAddr 1 (.tmp 2) 1) 1 (some (85, false)),
  op 25 (.lookup 0 (.tmp 2) (.global 24) false) 1 (some (85, false)),
  op 26 (.binOp .mul 0 (.const (I 2)) (.global 25) 0) 1 (some (85, false)),
  op 27 (.binOp .eql 0 (.global 23) (.global 26) 0) 1 (some (85, false)),
  op 28 (.pick (.global 21) (.const (B true)) (.global 27)) 1,
  op 4 (.move (.global 28))])
.ret)), [(4, 0)]⟩

/-- slices.rotateLeft[impl.Kept] -/
def fn324 : AFun := ⟨2,
(.seq (reg [op 4 (.move (.tmp 0)) 1,
  op 5 (.move (.tmp 1)) 1,
  op 6 (.slice 9 (.global 4) none (some (.global 5)) none) 1,
  op 7 (call (.func 320) #[(.global 6)]) 1])
(.seq (reg [op 8 (.move (.tmp 0)) 1,
  op 9 (.move (.tmp 1)) 1,
  op 10 (.slice 9 (.global 8) (some (.global 9)) none none) 1,
  op 11 (call (.func 320) #[(.global 10)]) 1])
(reg [op 12 (.move (.tmp 0)) 1,
  op 13 (call (.func 320) #[(.global 12)]) 1]))), []⟩

/-- cmp.isNaN[int64] -/
def fn60 : AFun := ⟨1,
(.seq (reg [op 2 (.move (.const (B false)))])
(.seq (reg [op 3 (.move (.tmp 0)) 1,
  op 4 (.move (.tmp 0)) 1,
  op 5 (.binOp .neq 0 (.global 3) (.global 4) 0) 1,
  op 2 (.move (.global 5))])
.ret)), [(2, 0)]⟩

/-- spec.l03Next -/
def fn459 : AFun := ⟨1,
(.seq (reg [op 1 (.makeChan 4 (.tmp 0)),
  op 2 (.move (.const (.agg #[(I 0), (I 0)])))])
(.seq (reg [op 3 (.fieldAddr 0 (.tmp 1) 1) 1,
  op 4 (.fieldAddr 0 (.global 3) 1) 1,
  op 5 (.lookup 0 (.tmp 1) (.global 4) false) 1,
  op 6 (.fieldAddr 2 (.tmp 1) 1) 1,
  op 7 (.lookup 0 (.tmp 1) (.global 6) false) 1,
  op 8 (.binOp .add 0 (.global 5) (.global 7) 0) 1,
  op 9 (.fieldAddr 0 (.tmp 1) 1) 1,
  op 10 (.fieldAddr 1 (.global 9) 1) 1,
  op 11 (.lookup 0 (.tmp 1) (.global 10) false) 1,
  op 12 (.fieldAddr 3 (.tmp 1) 1) 1,
  op 13 (.lookup 0 (.tmp 1) (.global 12) false) 1,
  op 14 (.binOp .add 0 (.global 11) (.global 13) 0) 1,
  op 15 (.build 0 #[(0, (.const (.agg #[(I 0), (I 0)]))), (1, (.global 8)), (1001, (.global 14))]) 1,
  op 2 (.insert 2 (.tmp 2) (.tmp 2) (.global 15))])
.ret)), [(2, 1000003)]⟩

/-- spec.l02Edge -/
def fn446 : AFun := ⟨2,
(.seq (reg [op 3 (.makeChan 2 (.tmp 1)),
  op 4 (.move (.const (B false)))])
(.seq (reg [op 5 (.fieldAddr 0 (.tmp 3) 1) 1,
  op 6 (.lookup 0 (.tmp 3) (.global 5) false) 1,
  op 7 (.binOp .eql 0 (.global 6) (.const (I 0)) 0) 1,
  op 8 (.move (.global 7)) 1,
  op 9 (.fieldAddr 1 (.tmp 3) 1) 1 (some (33, false)),
  op 10 (.lookup 0 (.tmp 3) (.global 9) false) 1 (some (33, false)),
  op 11 (.binOp .eql 0 (.global 10) (.const (I 0)) 0) 1 (some (33, false)),
  op 12 (.pick (.global 8) (.const (B true)) (.global 11)) 1,
  op 13 (.move (.global 12)) 1,
  op 14 (.fieldAddr 0 (.tmp 3) 1) 1 (some (53, false)),
  op 15 (.lookup 0 (.tmp 3) (.global 14) false) 1 (some (53, false)),
  op 16 (.move (.tmp 0)) 1 (some (53, false)),
  op 17 (.nilCheck (.global 16)) 1 (some (53, false)),
  op 18 (.fieldAddr 0 (.global 17) 0) 1 (some (53, false)),
  op 19 (.load 0 (.global 18)) 1 (some (53, false)),
  op 20 (.binOp .mul 0 (.const (I 2)) (.global 19) 0) 1 (some (53, false)),
  op 21 (.binOp .eql 0 (.global 15) (.global 20) 0) 1 (some (53, false)),
  op 22 (.pick (.global 13) (.const (B true)) (.global 21)) 1,
  op 23 (.move (.global 22)) 1,
  op 24 (.fieldAddr 1 (.tmp 3) 1) 1 (some (93, false)),
  op 25 (.lookup 0 (.tmp 3) (.global 24) false) 1 (some (93, false)),
  op 26 (.move (.tmp 0)) 1 (some (93, false)),
  op 27 (.nilCheck (.global 26)) 1 (some (93, false)),
  op 28 (.fieldAddr 1 (.global 27) 0) 1 (some (93, false)),
  op 29 (.load 0 (.global 28)) 1 (some (93, false)),
  op 30 (.binOp .mul 0 (.const (I 2)) (.global 29) 0) 1 (some (93, false)),
  op 31 (.binOp .eql 0 (.global 25) (.global 30) 0) 1 (some (93, false)),
  op 32 (.pick (.global 23) (.const (B true)) (.global 31)) 1,
  op 4 (.move (.global 32))])
.ret)), [(4, 0)]⟩

/-- spec.l03Left -/
def fn458 : AFun := ⟨1,
(.seq (reg [op 1 (.makeChan 4 (.tmp 0)),
  op 2 (.move (.const (.agg #[(I 0), (I 0)]))),
  op 3 (.move (.const (I 0)))])
(.seq (reg [op 5 (.lookup 5 (.tmp 1) (.tmp 1) false) 1,
  op 6 (call (.func 459) #[(.global 5)]) 1,
  op 4 (.move (.const (.agg #[(I 0), (I 0)]))),
  op 4 (.insert 2 (.tmp 4) (.tmp 4) (.global 6))])
(.seq (.seq (reg [op 7 (.fieldAddr 2 (.tmp 1) 1) 1,
  op 8 (.lookup 0 (.tmp 1) (.global 7) false) 1,
  op 9 (.binOp .eql 0 (.global 8) (.const (I 1)) 0)])
(.cond (.tmp 9)
  (.seq (reg [op 10 (.fieldAddr 0 (.tmp 1) 1) 1,
    op 11 (.lookup 3 (.tmp 1) (.global 10) false) 1,
    op 12 (.fieldAddr 1 (.tmp 4) 1) 1,
    op 13 (.lookup 0 (.tmp 4) (.global 12) false) 1,
    op 2 (.insert 2 (.tmp 2) (.tmp 2) (.global 11)),
    op 3 (.move (.global 13))])
  .ret)
  .skip))
(.seq (reg [op 14 (.lookup 3 (.tmp 4) (.tmp 4) false) 1,
  op 15 (.fieldAddr 0 (.tmp 1) 1) 1,
  op 16 (.fieldAddr 1 (.global 15) 1) 1,
  op 17 (.lookup 0 (.tmp 1) (.global 16) false) 1,
  op 2 (.insert 2 (.tmp 2) (.tmp 2) (.global 14)),
  op 3 (.move (.global 17))])
.ret)))), [(2, 1000003), (3, 0)]⟩

/-- slices.Reverse[[]impl.Kept,impl.Kept] -/
def fn320 : AFun := ⟨1,
(.seq (reg [op 4 (.move (.tmp 0)) 1,
  op 5 (bi .len #[(.global 4)] 1) 1,
  op 6 (.binOp .sub 0 (.global 5) (.const (I 1)) 0) 1,
  op 2 (.move (.const (I 0))),
  op 3 (.move (.global 6))])
(.block 0
  (.loop
    (.seq (.seq (reg [op 7 (.move (.tmp 2)) 1,
      op 8 (.move (.tmp 3)) 1,
      op 9 (.binOp .lss 0 (.global 7) (.global 8) 0)])
    (.cond (.tmp 9)
      .skip
      (.exit 0)))
    (.seq (.block 1
      (reg [op 14 (.move (.tmp 0)) 1,
        op 15 (.move (.tmp 2)) 1,
        op 16 (.move (.tmp 0)) 1,
        op 17 (.move (.tmp 3)) 1,
        op 18 (.move (.tmp 0)) 1,
        op 19 (.move (.tmp 3)) 1,
        op 20 (.indexAddr 9 (.global 18) (.global 19)) 1,
        op 21 (.load 5 (.global 20)) 1,
        op 22 (.move (.tmp 0)) 1,
        op 23 (.move (.tmp 2)) 1,
        op 24 (.indexAddr 9 (.global 22) (.global 23)) 1,
        op 25 (.load 5 (.global 24)) 1,
        op 26 (.indexAddr 9 (.global 14) (.global 15)) 1,
        opn (.store 4 (.global 26) (.global 21)),
        op 27 (.indexAddr 9 (.global 16) (.global 17)) 1,
        opn (.store 4 (.global 27) (.global 25))]))
    (reg [op 10 (.move (.tmp 2)) 1,
      op 11 (.binOp .add 0 (.global 10) (.const (I 1)) 0) 1,
      op 12 (.move (.tmp 3)) 1,
      op 13 (.binOp .sub 0 (.global 12) (.const (I 1)) 0) 1,
      op 2 (.move (.global 11)),
      op 3 (.move (.global 13))])))))), []⟩

def tab : Tab := [(243, fn243), (249, fn249), (226, fn226), (229, fn229), (222, fn222), (221, fn221), (238, fn238), (246, fn246), (223, fn223), (236, fn236), (205, fn205), (224, fn224), (422, fn422), (132, fn132), (264, fn264), (285, fn285), (278, fn278), (294, fn294), (428, fn428), (302, fn302), (139, fn139), (295, fn295), (392, fn392), (303, fn303), (99, fn99), (265, fn265), (397, fn397), (106, fn106), (386, fn386), (94, fn94), (385, fn385), (93, fn93), (286, fn286), (279, fn279), (415, fn415), (124, fn124), (425, fn425), (135, fn135), (387, fn387), (95, fn95), (268, fn268), (288, fn288), (281, fn281), (412, fn412), (121, fn121), (329, fn329), (61, fn61), (390, fn390), (97, fn97), (543, fn543), (177, fn177), (147, fn147), (263, fn263), (289, fn289), (282, fn282), (275, fn275), (293, fn293), (541, fn541), (301, fn301), (90, fn90), (140, fn140), (130, fn130), (161, fn161), (290, fn290), (452, fn452), (476, fn476), (539, fn539), (297, fn297), (259, fn259), (569, fn569), (180, fn180), (191, fn191), (545, fn545), (169, fn169), (538, fn538), (453, fn453), (168, fn168), (150, fn150), (542, fn542), (311, fn311), (149, fn149), (566, fn566), (570, fn570), (194, fn194), (465, fn465), (154, fn154), (441, fn441), (413, fn413), (170, fn170), (183, fn183), (122, fn122), (383, fn383), (544, fn544), (159, fn159), (200, fn200), (166, fn166), (173, fn173), (70, fn70), (456, fn456), (198, fn198), (196, fn196), (314, fn314), (315, fn315), (162, fn162), (457, fn457), (448, fn448), (432, fn432), (477, fn477), (474, fn474), (571, fn571), (568, fn568), (64, fn64), (472, fn472), (182, fn182), (435, fn435), (308, fn308), (573, fn573), (572, fn572), (574, fn574), (181, fn181), (195, fn195), (463, fn463), (55, fn55), (468, fn468), (189, fn189), (118, fn118), (174, fn174), (440, fn440), (438, fn438), (160, fn160), (306, fn306), (201, fn201), (153, fn153), (318, fn318), (49, fn49), (172, fn172), (40, fn40), (38, fn38), (152, fn152), (309, fn309), (436, fn436), (164, fn164), (450, fn450), (479, fn479), (454, fn454), (475, fn475), (451, fn451), (478, fn478), (437, fn437), (470, fn470), (75, fn75), (466, fn466), (462, fn462), (51, fn51), (56, fn56), (50, fn50), (54, fn54), (439, fn439), (467, fn467), (326, fn326), (59, fn59), (455, fn455), (461, fn461), (460, fn460), (58, fn58), (34, fn34), (324, fn324), (60, fn60), (459, fn459), (446, fn446), (458, fn458), (320, fn320)]
def Gam : Nat → Option AFun := look tab
theorem g243 : Gam 243 = some fn243 := rfl
theorem g249 : Gam 249 = some fn249 := rfl
theorem g226 : Gam 226 = some fn226 := rfl
theorem g229 : Gam 229 = some fn229 := rfl
theorem g222 : Gam 222 = some fn222 := rfl
theorem g221 : Gam 221 = some fn221 := rfl
theorem g238 : Gam 238 = some fn238 := rfl
theorem g246 : Gam 246 = some fn246 := rfl
theorem g223 : Gam 223 = some fn223 := rfl
theorem g236 : Gam 236 = some fn236 := rfl
theorem g205 : Gam 205 = some fn205 := rfl
theorem g224 : Gam 224 = some fn224 := rfl
theorem g422 : Gam 422 = some fn422 := rfl
theorem g132 : Gam 132 = some fn132 := rfl
theorem g264 : Gam 264 = some fn264 := rfl
theorem g285 : Gam 285 = some fn285 := rfl
theorem g278 : Gam 278 = some fn278 := rfl
theorem g294 : Gam 294 = some fn294 := rfl
theorem g428 : Gam 428 = some fn428 := rfl
theorem g302 : Gam 302 = some fn302 := rfl
theorem g139 : Gam 139 = some fn139 := rfl
theorem g295 : Gam 295 = some fn295 := rfl
theorem g392 : Gam 392 = some fn392 := rfl
theorem g303 : Gam 303 = some fn303 := rfl
theorem g99 : Gam 99 = some fn99 := rfl
theorem g265 : Gam 265 = some fn265 := rfl
theorem g397 : Gam 397 = some fn397 := rfl
theorem g106 : Gam 106 = some fn106 := rfl
theorem g386 : Gam 386 = some fn386 := rfl
theorem g94 : Gam 94 = some fn94 := rfl
theorem g385 : Gam 385 = some fn385 := rfl
theorem g93 : Gam 93 = some fn93 := rfl
theorem g286 : Gam 286 = some fn286 := rfl
theorem g279 : Gam 279 = some fn279 := rfl
theorem g415 : Gam 415 = some fn415 := rfl
theorem g124 : Gam 124 = some fn124 := rfl
theorem g425 : Gam 425 = some fn425 := rfl
theorem g135 : Gam 135 = some fn135 := rfl
theorem g387 : Gam 387 = some fn387 := rfl
theorem g95 : Gam 95 = some fn95 := rfl
theorem g268 : Gam 268 = some fn268 := rfl
theorem g288 : Gam 288 = some fn288 := rfl
theorem g281 : Gam 281 = some fn281 := rfl
theorem g412 : Gam 412 = some fn412 := rfl
theorem g121 : Gam 121 = some fn121 := rfl
theorem g329 : Gam 329 = some fn329 := rfl
theorem g61 : Gam 61 = some fn61 := rfl
theorem g390 : Gam 390 = some fn390 := rfl
theorem g97 : Gam 97 = some fn97 := rfl
theorem g543 : Gam 543 = some fn543 := rfl
theorem g177 : Gam 177 = some fn177 := rfl
theorem g147 : Gam 147 = some fn147 := rfl
theorem g263 : Gam 263 = some fn263 := rfl
theorem g289 : Gam 289 = some fn289 := rfl
theorem g282 : Gam 282 = some fn282 := rfl
theorem g275 : Gam 275 = some fn275 := rfl
theorem g293 : Gam 293 = some fn293 := rfl
theorem g541 : Gam 541 = some fn541 := rfl
theorem g301 : Gam 301 = some fn301 := rfl
theorem g90 : Gam 90 = some fn90 := rfl
theorem g140 : Gam 140 = some fn140 := rfl
theorem g130 : Gam 130 = some fn130 := rfl
theorem g161 : Gam 161 = some fn161 := rfl
theorem g290 : Gam 290 = some fn290 := rfl
theorem g452 : Gam 452 = some fn452 := rfl
theorem g476 : Gam 476 = some fn476 := rfl
theorem g539 : Gam 539 = some fn539 := rfl
theorem g297 : Gam 297 = some fn297 := rfl
theorem g259 : Gam 259 = some fn259 := rfl
theorem g569 : Gam 569 = some fn569 := rfl
theorem g180 : Gam 180 = some fn180 := rfl
theorem g191 : Gam 191 = some fn191 := rfl
theorem g545 : Gam 545 = some fn545 := rfl
theorem g169 : Gam 169 = some fn169 := rfl
theorem g538 : Gam 538 = some fn538 := rfl
theorem g453 : Gam 453 = some fn453 := rfl
theorem g168 : Gam 168 = some fn168 := rfl
theorem g150 : Gam 150 = some fn150 := rfl
theorem g542 : Gam 542 = some fn542 := rfl
theorem g311 : Gam 311 = some fn311 := rfl
theorem g149 : Gam 149 = some fn149 := rfl
theorem g566 : Gam 566 = some fn566 := rfl
theorem g570 : Gam 570 = some fn570 := rfl
theorem g194 : Gam 194 = some fn194 := rfl
theorem g465 : Gam 465 = some fn465 := rfl
theorem g154 : Gam 154 = some fn154 := rfl
theorem g441 : Gam 441 = some fn441 := rfl
theorem g413 : Gam 413 = some fn413 := rfl
theorem g170 : Gam 170 = some fn170 := rfl
theorem g183 : Gam 183 = some fn183 := rfl
theorem g122 : Gam 122 = some fn122 := rfl
theorem g383 : Gam 383 = some fn383 := rfl
theorem g544 : Gam 544 = some fn544 := rfl
theorem g159 : Gam 159 = some fn159 := rfl
theorem g200 : Gam 200 = some fn200 := rfl
theorem g166 : Gam 166 = some fn166 := rfl
theorem g173 : Gam 173 = some fn173 := rfl
theorem g70 : Gam 70 = some fn70 := rfl
theorem g456 : Gam 456 = some fn456 := rfl
theorem g198 : Gam 198 = some fn198 := rfl
theorem g196 : Gam 196 = some fn196 := rfl
theorem g314 : Gam 314 = some fn314 := rfl
theorem g315 : Gam 315 = some fn315 := rfl
theorem g162 : Gam 162 = some fn162 := rfl
theorem g457 : Gam 457 = some fn457 := rfl
theorem g448 : Gam 448 = some fn448 := rfl
theorem g432 : Gam 432 = some fn432 := rfl
theorem g477 : Gam 477 = some fn477 := rfl
theorem g474 : Gam 474 = some fn474 := rfl
theorem g571 : Gam 571 = some fn571 := rfl
theorem g568 : Gam 568 = some fn568 := rfl
theorem g64 : Gam 64 = some fn64 := rfl
theorem g472 : Gam 472 = some fn472 := rfl
theorem g182 : Gam 182 = some fn182 := rfl
theorem g435 : Gam 435 = some fn435 := rfl
theorem g308 : Gam 308 = some fn308 := rfl
theorem g573 : Gam 573 = some fn573 := rfl
theorem g572 : Gam 572 = some fn572 := rfl
theorem g574 : Gam 574 = some fn574 := rfl
theorem g181 : Gam 181 = some fn181 := rfl
theorem g195 : Gam 195 = some fn195 := rfl
theorem g463 : Gam 463 = some fn463 := rfl
theorem g55 : Gam 55 = some fn55 := rfl
theorem g468 : Gam 468 = some fn468 := rfl
theorem g189 : Gam 189 = some fn189 := rfl
theorem g118 : Gam 118 = some fn118 := rfl
theorem g174 : Gam 174 = some fn174 := rfl
theorem g440 : Gam 440 = some fn440 := rfl
theorem g438 : Gam 438 = some fn438 := rfl
theorem g160 : Gam 160 = some fn160 := rfl
theorem g306 : Gam 306 = some fn306 := rfl
theorem g201 : Gam 201 = some fn201 := rfl
theorem g153 : Gam 153 = some fn153 := rfl
theorem g318 : Gam 318 = some fn318 := rfl
theorem g49 : Gam 49 = some fn49 := rfl
theorem g172 : Gam 172 = some fn172 := rfl
theorem g40 : Gam 40 = some fn40 := rfl
theorem g38 : Gam 38 = some fn38 := rfl
theorem g152 : Gam 152 = some fn152 := rfl
theorem g309 : Gam 309 = some fn309 := rfl
theorem g436 : Gam 436 = some fn436 := rfl
theorem g164 : Gam 164 = some fn164 := rfl
theorem g450 : Gam 450 = some fn450 := rfl
theorem g479 : Gam 479 = some fn479 := rfl
theorem g454 : Gam 454 = some fn454 := rfl
theorem g475 : Gam 475 = some fn475 := rfl
theorem g451 : Gam 451 = some fn451 := rfl
theorem g478 : Gam 478 = some fn478 := rfl
theorem g437 : Gam 437 = some fn437 := rfl
theorem g470 : Gam 470 = some fn470 := rfl
theorem g75 : Gam 75 = some fn75 := rfl
theorem g466 : Gam 466 = some fn466 := rfl
theorem g462 : Gam 462 = some fn462 := rfl
theorem g51 : Gam 51 = some fn51 := rfl
theorem g56 : Gam 56 = some fn56 := rfl
theorem g50 : Gam 50 = some fn50 := rfl
theorem g54 : Gam 54 = some fn54 := rfl
theorem g439 : Gam 439 = some fn439 := rfl
theorem g467 : Gam 467 = some fn467 := rfl
theorem g326 : Gam 326 = some fn326 := rfl
theorem g59 : Gam 59 = some fn59 := rfl
theorem g455 : Gam 455 = some fn455 := rfl
theorem g461 : Gam 461 = some fn461 := rfl
theorem g460 : Gam 460 = some fn460 := rfl
theorem g58 : Gam 58 = some fn58 := rfl
theorem g34 : Gam 34 = some fn34 := rfl
theorem g324 : Gam 324 = some fn324 := rfl
theorem g60 : Gam 60 = some fn60 := rfl
theorem g459 : Gam 459 = some fn459 := rfl
theorem g446 : Gam 446 = some fn446 := rfl
theorem g458 : Gam 458 = some fn458 := rfl
theorem g320 : Gam 320 = some fn320 := rfl
end Am
