/- The functions that are reached, in their normal form; written by a program. -/
import Derived.Test.YtaifanhmihbilaaAmRules
set_option linter.unusedVariables false
set_option maxRecDepth 100000
namespace Am
open Go
/-- laws.FnExactHexText -/
def fn217 : AFun := ⟨1,
(.seq (reg [op 2 (.move (.const (B false)))])
(.seq (.seq (reg [op 5 (.move (.tmp 0)) 1,
  op 6 (bi .len #[(.global 5)] 0) 1,
  op 7 (.binOp .gtr 0 (.global 6) (.const (I 1048576)) 0)])
(.cond (.tmp 7)
  (.seq (reg [op 2 (.move (.const (B true)))])
  .ret)
  .skip))
(.seq (reg [op 8 (.move (.tmp 0)) 1,
  op 9 (call (.func 380) #[(.global 8)]) 1,
  op 3 (.move (.global 9))])
(.seq (reg [op 10 (.move (.tmp 0)) 1,
  op 11 (call (.func 87) #[(.global 10)]) 1,
  op 4 (.move (.global 11))])
(.seq (.seq (reg [op 12 (.move (.tmp 4)) 1,
  op 13 (.move (.tmp 3)) 1,
  op 14 (.binOp .neq 0 (.global 12) (.global 13) 0)])
(.cond (.tmp 14)
  (.seq (reg [op 2 (.move (.const (B false)))])
  .ret)
  .skip))
(.seq (reg [op 2 (.move (.const (B true)))])
.ret)))))), [(2, 0)]⟩

/-- laws.FnExactChecksumOf -/
def fn207 : AFun := ⟨1,
(.seq (reg [op 2 (.move (.const (B false)))])
(.seq (.seq (reg [op 5 (.move (.tmp 0)) 1,
  op 6 (bi .len #[(.global 5)] 0) 1,
  op 7 (.binOp .gtr 0 (.global 6) (.const (I 1048576)) 0)])
(.cond (.tmp 7)
  (.seq (reg [op 2 (.move (.const (B true)))])
  .ret)
  .skip))
(.seq (reg [op 8 (.move (.tmp 0)) 1,
  op 9 (call (.func 333) #[(.global 8)]) 1,
  op 3 (.move (.global 9))])
(.seq (reg [op 10 (.move (.tmp 0)) 1,
  op 11 (call (.func 64) #[(.global 10)]) 1,
  op 4 (.move (.global 11))])
(.seq (.seq (reg [op 12 (.move (.tmp 4)) 1,
  op 13 (.move (.tmp 3)) 1,
  op 14 (.binOp .neq 0 (.global 12) (.global 13) 0)])
(.cond (.tmp 14)
  (.seq (reg [op 2 (.move (.const (B false)))])
  .ret)
  .skip))
(.seq (reg [op 2 (.move (.const (B true)))])
.ret)))))), [(2, 0)]⟩

/-- laws.FnExactPackedSize -/
def fn231 : AFun := ⟨2,
(.seq (reg [op 4 (.move (.const (B false)))])
(.seq (reg [op 10 (.move (.tmp 0)) 1,
  op 11 (.move (.tmp 1)) 1,
  op 12 (call (.func 399) #[(.global 10), (.global 11)]) 1,
  op 9 (.move (.global 12)) 1,
  op 13 (.extract (.global 9) 0) 1,
  op 14 (.extract (.global 9) 1) 1,
  op 5 (.move (.global 13)),
  op 6 (.move (.global 14))])
(.seq (reg [op 16 (.move (.tmp 0)) 1,
  op 17 (.move (.tmp 1)) 1,
  op 18 (call (.func 108) #[(.global 16), (.global 17)]) 1,
  op 15 (.move (.global 18)) 1,
  op 19 (.extract (.global 15) 0) 1,
  op 20 (.extract (.global 15) 1) 1,
  op 7 (.move (.global 19)),
  op 8 (.move (.global 20))])
(.seq (.seq (reg [op 21 (.move (.tmp 7)) 1,
  op 22 (.move (.tmp 5)) 1,
  op 23 (.binOp .neq 0 (.global 21) (.global 22) 0) 1,
  op 24 (.move (.global 23)) 1,
  op 25 (.move (.tmp 8)) 1 (some (49, false)),
  op 26 (.move (.tmp 6)) 1 (some (49, false)),
  op 27 (.binOp .neq 0 (.global 25) (.global 26) 0) 1 (some (49, false)),
  op 28 (.pick (.global 24) (.const (B true)) (.global 27))])
(.cond (.tmp 28)
  (.seq (reg [op 4 (.move (.const (B false)))])
  .ret)
  .skip))
(.seq (reg [op 4 (.move (.const (B true)))])
.ret))))), [(4, 0)]⟩

/-- laws.FnExactDeskWords -/
def fn212 : AFun := ⟨0,
(.seq (reg [op 0 (.move (.const (B false)))])
(.seq (reg [op 6 (call (.func 345) #[]) 1,
  op 1 (.move (.global 6))])
(.seq (reg [op 7 (call (.func 78) #[]) 1,
  op 2 (.move (.global 7))])
(.seq (.seq (reg [op 8 (.move (.tmp 2)) 1,
  op 9 (.move (.tmp 1)) 1,
  op 10 (call (.func 268) #[(.global 8), (.global 9)]) 1,
  op 11 (.unOp .not 0 (.global 10))])
(.cond (.tmp 11)
  (.seq (reg [op 0 (.move (.const (B false)))])
  .ret)
  .skip))
(.seq (reg [op 3 (.move (.const (I 1)))])
(.seq (reg [op 12 (.move (.tmp 2)) 1,
  op 13 (.move (.tmp 3)) 1,
  op 14 (call (.func 288) #[(.global 12), (.global 13)]) 1,
  op 3 (.move (.global 14))])
(.seq (reg [op 4 (.move (.const (I 1)))])
(.seq (reg [op 15 (.move (.tmp 2)) 1,
  op 16 (.move (.tmp 4)) 1,
  op 17 (call (.func 281) #[(.global 15), (.global 16)]) 1,
  op 4 (.move (.global 17))])
(.seq (.seq (reg [op 18 (.move (.tmp 4)) 1,
  op 19 (.binOp .lss 0 (.global 18) (.const (I 0)) 0)])
(.cond (.tmp 19)
  (.seq (reg [op 0 (.move (.const (B false)))])
  .ret)
  .skip))
(.seq (.seq (reg [op 20 (.move (.tmp 4)) 1,
  op 21 (.move (.tmp 3)) 1,
  op 22 (.binOp .neq 0 (.global 20) (.global 21) 0)])
(.cond (.tmp 22)
  (.seq (reg [op 0 (.move (.const (B false)))])
  .ret)
  .skip))
(.seq (reg [op 23 (call (.func 78) #[]) 1,
  op 5 (.move (.global 23))])
(.seq (.seq (reg [op 24 (.move (.tmp 5)) 1,
  op 25 (.move (.tmp 1)) 1,
  op 26 (call (.func 268) #[(.global 24), (.global 25)]) 1,
  op 27 (.unOp .not 0 (.global 26))])
(.cond (.tmp 27)
  (.seq (reg [op 0 (.move (.const (B false)))])
  .ret)
  .skip))
(.seq (reg [op 4 (.move (.const (I 1)))])
(.seq (reg [op 28 (.move (.tmp 2)) 1,
  op 29 (.move (.tmp 4)) 1,
  op 30 (call (.func 281) #[(.global 28), (.global 29)]) 1,
  op 4 (.move (.global 30))])
(.seq (.seq (reg [op 31 (.move (.tmp 4)) 1,
  op 32 (.binOp .lss 0 (.global 31) (.const (I 0)) 0)])
(.cond (.tmp 32)
  (.seq (reg [op 0 (.move (.const (B false)))])
  .ret)
  .skip))
(.seq (.seq (reg [op 33 (.move (.tmp 4)) 1,
  op 34 (.move (.tmp 3)) 1,
  op 35 (.binOp .neq 0 (.global 33) (.global 34) 0)])
(.cond (.tmp 35)
  (.seq (reg [op 0 (.move (.const (B false)))])
  .ret)
  .skip))
(.seq (reg [op 0 (.move (.const (B true)))])
.ret))))))))))))))))), [(0, 0)]⟩

/-- laws.FnExactReadHex -/
def fn235 : AFun := ⟨1,
(.seq (reg [op 2 (.move (.const (B false)))])
(.seq (.seq (reg [op 7 (.move (.tmp 0)) 1,
  op 8 (bi .len #[(.global 7)] 0) 1,
  op 9 (.binOp .gtr 0 (.global 8) (.const (I 1048576)) 0)])
(.cond (.tmp 9)
  (.seq (reg [op 2 (.move (.const (B true)))])
  .ret)
  .skip))
(.seq (reg [op 11 (.move (.tmp 0)) 1,
  op 12 (call (.func 411) #[(.global 11)]) 1,
  op 10 (.move (.global 12)) 1,
  op 13 (.extract (.global 10) 0) 1,
  op 14 (.extract (.global 10) 1) 1,
  op 3 (.move (.global 13)),
  op 4 (.move (.global 14))])
(.seq (reg [op 16 (.move (.tmp 0)) 1,
  op 17 (call (.func 120) #[(.global 16)]) 1,
  op 15 (.move (.global 17)) 1,
  op 18 (.extract (.global 15) 0) 1,
  op 19 (.extract (.global 15) 1) 1,
  op 5 (.move (.global 18)),
  op 6 (.move (.global 19))])
(.seq (.seq (reg [op 20 (.move (.tmp 5)) 1,
  op 21 (.move (.tmp 3)) 1,
  op 22 (.binOp .neq 0 (.global 20) (.global 21) 0) 1,
  op 23 (.move (.global 22)) 1,
  op 24 (.move (.tmp 6)) 1 (some (47, false)),
  op 25 (.move (.tmp 4)) 1 (some (47, false)),
  op 26 (.binOp .neq 1 (.global 24) (.global 25) 0) 1 (some (47, false)),
  op 27 (.pick (.global 23) (.const (B true)) (.global 26))])
(.cond (.tmp 27)
  (.seq (reg [op 2 (.move (.const (B false)))])
  .ret)
  .skip))
(.seq (reg [op 2 (.move (.const (B true)))])
.ret)))))), [(2, 0)]⟩

/-- laws.FnExactInverseDiff -/
def fn219 : AFun := ⟨1,
(.seq (reg [op 2 (.move (.const (B false)))])
(.seq (reg [op 3 (.move (.const (I 1048576)))])
(.seq (reg [op 11 (.move (.tmp 0)) 1,
  op 12 (.move (.tmp 3)) 1,
  op 13 (call (.func 296) #[(.global 11), (.global 12)]) 1,
  op 3 (.move (.global 13))])
(.seq (.seq (reg [op 14 (.move (.tmp 3)) 1,
  op 15 (.binOp .lss 0 (.global 14) (.const (I 0)) 0)])
(.cond (.tmp 15)
  (.seq (reg [op 2 (.move (.const (B true)))])
  .ret)
  .skip))
(.seq (reg [op 16 (.move (.tmp 0)) 1,
  op 17 (call (.func 305) #[(.global 16)]) 1,
  op 18 (call (.func 382) #[(.global 17)]) 1,
  op 4 (.move (.global 18))])
(.seq (reg [op 19 (.move (.tmp 0)) 1,
  op 20 (call (.func 305) #[(.global 19)]) 1,
  op 5 (.move (.global 20))])
(.seq (reg [op 21 (.move (.tmp 5)) 1,
  op 22 (call (.func 89) #[(.global 21)]) 1,
  op 6 (.move (.global 22))])
(.seq (.seq (reg [op 23 (.move (.tmp 6)) 1,
  op 24 (.move (.tmp 4)) 1,
  op 25 (call (.func 267) #[(.global 23), (.global 24)]) 1,
  op 26 (.unOp .not 0 (.global 25))])
(.cond (.tmp 26)
  (.seq (reg [op 2 (.move (.const (B false)))])
  .ret)
  .skip))
(.seq (.seq (reg [op 27 (.move (.tmp 5)) 1,
  op 28 (.move (.tmp 0)) 1,
  op 29 (call (.func 305) #[(.global 28)]) 1,
  op 30 (call (.func 267) #[(.global 27), (.global 29)]) 1,
  op 31 (.unOp .not 0 (.global 30))])
(.cond (.tmp 31)
  (.seq (reg [op 2 (.move (.const (B false)))])
  .ret)
  .skip))
(.seq (reg [op 7 (.move (.const (I 1)))])
(.seq (reg [op 32 (.move (.tmp 5)) 1,
  op 33 (.move (.tmp 7)) 1,
  op 34 (call (.func 287) #[(.global 32), (.global 33)]) 1,
  op 7 (.move (.global 34))])
(.seq (.seq (reg [op 35 (.move (.tmp 7)) 1,
  op 36 (.binOp .lss 0 (.global 35) (.const (I 0)) 0) 1,
  op 37 (.move (.global 36)) 1,
  op 38 (.move (.tmp 6)) 1 (some (75, false)),
  op 39 (.move (.tmp 4)) 1 (some (75, false)),
  op 40 (call (.func 267) #[(.global 38), (.global 39)]) 1 (some (75, false)),
  op 41 (.unOp .not 0 (.global 40)) 1 (some (75, false)),
  op 42 (.pick (.global 37) (.const (B true)) (.global 41))])
(.cond (.tmp 42)
  (.seq (reg [op 2 (.move (.const (B false)))])
  .ret)
  .skip))
(.seq (reg [op 8 (.move (.const (I 1)))])
(.seq (reg [op 43 (.move (.tmp 6)) 1,
  op 44 (.move (.tmp 8)) 1,
  op 45 (call (.func 287) #[(.global 43), (.global 44)]) 1,
  op 8 (.move (.global 45))])
(.seq (reg [op 9 (.move (.const (I 1)))])
(.seq (reg [op 46 (.move (.tmp 6)) 1,
  op 47 (.move (.tmp 9)) 1,
  op 48 (call (.func 280) #[(.global 46), (.global 47)]) 1,
  op 9 (.move (.global 48))])
(.seq (.seq (reg [op 49 (.move (.tmp 9)) 1,
  op 50 (.binOp .lss 0 (.global 49) (.const (I 0)) 0)])
(.cond (.tmp 50)
  (.seq (reg [op 2 (.move (.const (B false)))])
  .ret)
  .skip))
(.seq (.seq (reg [op 51 (.move (.tmp 9)) 1,
  op 52 (.move (.tmp 8)) 1,
  op 53 (.binOp .neq 0 (.global 51) (.global 52) 0)])
(.cond (.tmp 53)
  (.seq (reg [op 2 (.move (.const (B false)))])
  .ret)
  .skip))
(.seq (reg [op 54 (.move (.tmp 0)) 1,
  op 55 (call (.func 305) #[(.global 54)]) 1,
  op 56 (call (.func 89) #[(.global 55)]) 1,
  op 10 (.move (.global 56))])
(.seq (.seq (reg [op 57 (.move (.tmp 10)) 1,
  op 58 (.move (.tmp 4)) 1,
  op 59 (call (.func 267) #[(.global 57), (.global 58)]) 1,
  op 60 (.unOp .not 0 (.global 59))])
(.cond (.tmp 60)
  (.seq (reg [op 2 (.move (.const (B false)))])
  .ret)
  .skip))
(.seq (reg [op 9 (.move (.const (I 1)))])
(.seq (reg [op 61 (.move (.tmp 6)) 1,
  op 62 (.move (.tmp 9)) 1,
  op 63 (call (.func 280) #[(.global 61), (.global 62)]) 1,
  op 9 (.move (.global 63))])
(.seq (.seq (reg [op 64 (.move (.tmp 9)) 1,
  op 65 (.binOp .lss 0 (.global 64) (.const (I 0)) 0)])
(.cond (.tmp 65)
  (.seq (reg [op 2 (.move (.const (B false)))])
  .ret)
  .skip))
(.seq (.seq (reg [op 66 (.move (.tmp 9)) 1,
  op 67 (.move (.tmp 8)) 1,
  op 68 (.binOp .neq 0 (.global 66) (.global 67) 0)])
(.cond (.tmp 68)
  (.seq (reg [op 2 (.move (.const (B false)))])
  .ret)
  .skip))
(.seq (reg [op 2 (.move (.const (B true)))])
.ret))))))))))))))))))))))))), [(2, 0)]⟩

/-- spec.HexText -/
def fn380 : AFun := ⟨1,
(.seq (reg [op 2 (.move (.const (S [])))])
(.seq (reg [op 3 (.move (.const (S [48, 49, 50, 51, 52, 53, 54, 55, 56, 57, 97, 98, 99, 100, 101, 102])))])
(.seq (reg [op 6 (.move (.const (sl 0 0 0 1))) 1,
  op 4 (.move (.global 6))])
(.seq (.seq (reg [op 5 (.move (.const (I 0)))])
(.block 0
  (.loop
    (.seq (.seq (reg [op 7 (.move (.tmp 5)) 1,
      op 8 (.move (.tmp 0)) 1,
      op 9 (bi .len #[(.global 8)] 0) 1,
      op 10 (.binOp .lss 0 (.global 7) (.global 9) 0)])
    (.cond (.tmp 10)
      .skip
      (.exit 0)))
    (.seq (.block 1
      (reg [op 13 (.move (.tmp 4)) 1,
        op 14 (.move (.tmp 3)) 1,
        op 15 (.move (.tmp 0)) 1,
        op 16 (.move (.tmp 5)) 1,
        op 17 (.index 0 (.global 15) (.global 16)) 1,
        op 18 (.binOp .quo 0 (.global 17) (.const (U 16)) 0) 1,
        op 19 (.index 0 (.global 14) (.global 18)) 1,
        op 20 (.move (.tmp 3)) 1,
        op 21 (.move (.tmp 0)) 1,
        op 22 (.move (.tmp 5)) 1,
        op 23 (.index 0 (.global 21) (.global 22)) 1,
        op 24 (.binOp .rem 0 (.global 23) (.const (U 16)) 0) 1,
        op 25 (.index 0 (.global 20) (.global 24)) 1,
        op 26 (.buildSlice 1 2 #[(0, (.const (.agg #[(U 0), (U 0)]))), (1, (.global 19)), (1001, (.global 25))]) 1,
        op 27 (bi .append #[(.global 13), (.global 26)] 1) 1,
        op 4 (.move (.global 27))]))
    (reg [op 11 (.move (.tmp 5)) 1,
      op 12 (.binOp .add 0 (.global 11) (.const (I 1)) 0) 1,
      op 5 (.move (.global 12))]))))))
(.seq (reg [op 28 (.move (.tmp 4)) 1,
  op 29 (.convert 0 21 (.global 28)) 1,
  op 2 (.move (.global 29))])
.ret))))), [(2, 0)]⟩

/-- impl.HexText -/
def fn87 : AFun := ⟨1,
(.seq (reg [op 2 (.move (.const (S [])))])
(.seq (reg [op 5 (.move (.const (sl 0 0 0 1))) 1,
  op 3 (.move (.global 5))])
(.seq (.seq (reg [op 6 (.move (.tmp 0)) 1,
  op 7 (bi .len #[(.global 6)] 0),
  op 8 (.move (.const (I 0)))])
(.block 0
  (.loop
    (.seq (reg [op 9 (.binOp .lss 0 (.tmp 8) (.tmp 7) 0)])
    (.seq (.cond (.tmp 9)
      .skip
      (.exit 0))
    (.seq (.block 1
      (.seq (reg [op 10 (.move (.tmp 8)) 1,
        op 4 (.move (.global 10))])
      (reg [op 11 (.move (.tmp 3)) 1,
        op 12 (.move (.tmp 0)) 1,
        op 13 (.move (.tmp 4)) 1,
        op 14 (.index 0 (.global 12) (.global 13)) 1,
        op 15 (.binOp .quo 0 (.global 14) (.const (U 16)) 0) 1,
        op 16 (.index 0 (.const (S [48, 49, 50, 51, 52, 53, 54, 55, 56, 57, 97, 98, 99, 100, 101, 102])) (.global 15)) 1,
        op 17 (.move (.tmp 0)) 1,
        op 18 (.move (.tmp 4)) 1,
        op 19 (.index 0 (.global 17) (.global 18)) 1,
        op 20 (.binOp .rem 0 (.global 19) (.const (U 16)) 0) 1,
        op 21 (.index 0 (.const (S [48, 49, 50, 51, 52, 53, 54, 55, 56, 57, 97, 98, 99, 100, 101, 102])) (.global 20)) 1,
        op 22 (.buildSlice 1 2 #[(0, (.const (.agg #[(U 0), (U 0)]))), (1, (.global 16)), (1001, (.global 21))]) 1,
        op 23 (bi .append #[(.global 11), (.global 22)] 1) 1,
        op 3 (.move (.global 23))])))
    (reg [op 24 (.binOp .add 0 (.tmp 8) (.const (I 1)) 0) 1,
      op 8 (.move (.global 24))])))))))
(.seq (reg [op 25 (.move (.tmp 3)) 1,
  op 26 (.convert 0 21 (.global 25)) 1,
  op 2 (.move (.global 26))])
.ret)))), [(2, 0)]⟩

/-- spec.ChecksumOf -/
def fn333 : AFun := ⟨1,
(.seq (reg [op 2 (.move (.const (I 0)))])
(.seq (reg [op 3 (.move (.tmp 0)) 1,
  op 4 (call (.func 573) #[(.global 3)]) 1,
  op 2 (.move (.global 4))])
.ret)), [(2, 0)]⟩

/-- impl.ChecksumOf -/
def fn64 : AFun := ⟨1,
(.seq (reg [op 2 (.move (.const (I 0)))])
(.seq (reg [op 3 (.move (.const (I 1))),
  op 4 (.move (.const (I 0)))])
(.seq (.seq (reg [op 6 (.move (.tmp 0)) 1,
  op 7 (bi .len #[(.global 6)] 0),
  op 8 (.move (.const (I 0)))])
(.block 0
  (.loop
    (.seq (reg [op 9 (.binOp .lss 0 (.tmp 8) (.tmp 7) 0)])
    (.seq (.cond (.tmp 9)
      .skip
      (.exit 0))
    (.seq (.block 1
      (.seq (reg [op 10 (.move (.tmp 8)) 1,
        op 5 (.move (.global 10))])
      (.seq (reg [op 11 (.move (.tmp 3)) 1,
        op 12 (.move (.tmp 0)) 1,
        op 13 (.move (.tmp 5)) 1,
        op 14 (.index 0 (.global 12) (.global 13)) 1,
        op 15 (.convert 0 3 (.global 14)) 1,
        op 16 (.binOp .add 0 (.global 11) (.global 15) 0) 1,
        op 17 (.binOp .rem 0 (.global 16) (.const (I 251)) 0) 1,
        op 3 (.move (.global 17))])
      (reg [op 18 (.move (.tmp 4)) 1,
        op 19 (.move (.tmp 3)) 1,
        op 20 (.binOp .add 0 (.global 18) (.global 19) 0) 1,
        op 21 (.binOp .rem 0 (.global 20) (.const (I 251)) 0) 1,
        op 4 (.move (.global 21))]))))
    (reg [op 22 (.binOp .add 0 (.tmp 8) (.const (I 1)) 0) 1,
      op 8 (.move (.global 22))])))))))
(.seq (reg [op 23 (.move (.tmp 4)) 1,
  op 24 (.binOp .mul 0 (.const (I 256)) (.global 23) 0) 1,
  op 25 (.move (.tmp 3)) 1,
  op 26 (.binOp .add 0 (.global 24) (.global 25) 0) 1,
  op 2 (.move (.global 26))])
.ret)))), [(2, 0)]⟩

/-- spec.PackedSize -/
def fn399 : AFun := ⟨2,
(.seq (reg [op 4 (.move (.const (I 0))),
  op 5 (.move (.const (I 0)))])
(.seq (.seq (reg [op 6 (.move (.tmp 0)) 1,
  op 7 (call (.func 457) #[(.global 6)]) 1,
  op 8 (.unOp .not 0 (.global 7)) 1,
  op 9 (.move (.global 8)) 1,
  op 10 (.move (.tmp 1)) 1 (some (19, false)),
  op 11 (call (.func 457) #[(.global 10)]) 1 (some (19, false)),
  op 12 (.unOp .not 0 (.global 11)) 1 (some (19, false)),
  op 13 (.pick (.global 9) (.const (B true)) (.global 12))])
(.cond (.tmp 13)
  (.seq (reg [op 4 (.move (.const (I 0))),
    op 5 (.move (.const (I 2)))])
  .ret)
  .skip))
(.seq (reg [op 14 (.move (.tmp 0)) 1,
  op 15 (.move (.tmp 1)) 1,
  op 16 (call (.func 572) #[(.global 14), (.global 15)]) 1,
  op 4 (.move (.global 16)),
  op 5 (.move (.const (I 0)))])
.ret))), [(4, 0), (5, 0)]⟩

/-- impl.PackedSize -/
def fn108 : AFun := ⟨2,
(.seq (reg [op 4 (.move (.const (I 0))),
  op 5 (.move (.const (I 0)))])
(.seq (.seq (reg [op 6 (.move (.tmp 0)) 1,
  op 7 (.move (.tmp 1)) 1,
  op 8 (call (.func 198) #[(.global 6), (.global 7)]) 1,
  op 9 (.unOp .not 0 (.global 8))])
(.cond (.tmp 9)
  (.seq (reg [op 4 (.move (.const (I 0))),
    op 5 (.move (.const (I 2)))])
  .ret)
  .skip))
(.seq (reg [op 10 (.move (.tmp 0)) 1,
  op 11 (.move (.tmp 1)) 1,
  op 12 (call (.func 181) #[(.global 10), (.global 11)]) 1,
  op 4 (.move (.global 12)),
  op 5 (.move (.const (I 0)))])
.ret))), [(4, 0), (5, 0)]⟩

/-- spec.DeskWords -/
def fn345 : AFun := ⟨0,
(.seq (reg [op 0 (.move (.const (sl 0 0 0 0)))])
(.seq (reg [op 1 (call (.func 581) #[]) 1,
  op 0 (.move (.global 1))])
.ret)), [(0, 0)]⟩

/-- impl.DeskWords -/
def fn78 : AFun := ⟨0,
(.seq (reg [op 0 (.move (.const (sl 0 0 0 0)))])
(.seq (reg [op 1 (.buildSlice 1 18 #[(0, (.const (.agg #[(S []), (S []), (S []), (S []), (S []), (S []), (S []), (S []), (S []), (S []), (S []), (S []), (S []), (S []), (S []), (S []), (S []), (S [])]))), (1, (.const (S [97, 108, 111, 110, 103]))), (1001, (.const (S [98, 114, 97, 99, 107, 101, 116]))), (2001, (.const (S [99, 111, 100, 101]))), (3001, (.const (S [99, 111, 108, 117, 109, 110]))), (4001, (.const (S [99, 111, 117, 110, 116]))), (5001, (.const (S [108, 101, 110, 103, 116, 104, 115]))), (6001, (.const (S [108, 105, 110, 107]))), (7001, (.const (S [110, 101, 119]))), (8001, (.const (S [112, 97, 115, 115, 101, 115]))), (9001, (.const (S [112, 105, 99, 116, 117, 114, 101]))), (10001, (.const (S [114, 101, 97, 100]))), (11001, (.const (S [114, 101, 100, 111]))), (12001, (.const (S [115, 101, 97, 114, 99, 104]))), (13001, (.const (S [115, 101, 116]))), (14001, (.const (S [115, 104, 111, 119]))), (15001, (.const (S [115, 113, 117, 97, 115, 104]))), (16001, (.const (S [117, 110, 100, 111]))), (17001, (.const (S [119, 114, 105, 116, 104, 101])))]) 1,
  op 0 (.move (.global 1))])
.ret)), [(0, 0)]⟩

/-- laws.eqStringS -/
def fn268 : AFun := ⟨2,
(.seq (reg [op 4 (.move (.const (B false)))])
(.seq (.seq (reg [op 6 (.move (.tmp 0)) 1,
  op 7 (bi .len #[(.global 6)] 1) 1,
  op 8 (.move (.tmp 1)) 1,
  op 9 (bi .len #[(.global 8)] 1) 1,
  op 10 (.binOp .neq 0 (.global 7) (.global 9) 0)])
(.cond (.tmp 10)
  (.seq (reg [op 4 (.move (.const (B false)))])
  .ret)
  .skip))
(.seq (.seq (reg [op 5 (.move (.const (I 0)))])
(.block 0
  (.loop
    (.seq (.seq (reg [op 11 (.move (.tmp 5)) 1,
      op 12 (.move (.tmp 0)) 1,
      op 13 (bi .len #[(.global 12)] 1) 1,
      op 14 (.binOp .lss 0 (.global 11) (.global 13) 0)])
    (.cond (.tmp 14)
      .skip
      (.exit 0)))
    (.seq (.block 1
      (.seq (reg [op 17 (.move (.tmp 0)) 1,
        op 18 (.move (.tmp 5)) 1,
        op 19 (.indexAddr 3 (.global 17) (.global 18)) 1,
        op 20 (.load 0 (.global 19)) 1,
        op 21 (.move (.tmp 1)) 1,
        op 22 (.move (.tmp 5)) 1,
        op 23 (.indexAddr 3 (.global 21) (.global 22)) 1,
        op 24 (.load 0 (.global 23)) 1,
        op 25 (.binOp .neq 0 (.global 20) (.global 24) 0)])
      (.cond (.tmp 25)
        (.seq (reg [op 4 (.move (.const (B false)))])
        .ret)
        .skip)))
    (reg [op 15 (.move (.tmp 5)) 1,
      op 16 (.binOp .add 0 (.global 15) (.const (I 1)) 0) 1,
      op 5 (.move (.global 16))]))))))
(.seq (reg [op 4 (.move (.const (B true)))])
.ret)))), [(4, 0)]⟩

/-- laws.markStringS -/
def fn288 : AFun := ⟨2,
(.seq (reg [op 4 (.move (.const (I 0)))])
(.seq (.seq (reg [op 5 (.move (.const (I 0)))])
(.block 0
  (.loop
    (.seq (.seq (reg [op 6 (.move (.tmp 5)) 1,
      op 7 (.move (.tmp 0)) 1,
      op 8 (bi .len #[(.global 7)] 1) 1,
      op 9 (.binOp .lss 0 (.global 6) (.global 8) 0)])
    (.cond (.tmp 9)
      .skip
      (.exit 0)))
    (.seq (.block 1
      (.seq (reg [op 12 (.move (.tmp 0)) 1,
        op 13 (.move (.tmp 5)) 1,
        op 14 (.move (.tmp 1)) 1,
        op 15 (call (.func 289) #[(.global 14)]) 1,
        op 16 (.indexAddr 3 (.global 12) (.global 13)) 1,
        opn (.store 1 (.global 16) (.global 15))])
      (reg [op 17 (.move (.tmp 1)) 1,
        op 18 (.binOp .add 0 (.global 17) (.const (I 1)) 0) 1,
        op 1 (.move (.global 18))])))
    (reg [op 10 (.move (.tmp 5)) 1,
      op 11 (.binOp .add 0 (.global 10) (.const (I 1)) 0) 1,
      op 5 (.move (.global 11))]))))))
(.seq (reg [op 19 (.move (.tmp 1)) 1,
  op 4 (.move (.global 19))])
.ret))), [(4, 0)]⟩

/-- laws.heldStringS -/
def fn281 : AFun := ⟨2,
(.seq (reg [op 4 (.move (.const (I 0)))])
(.seq (.seq (reg [op 5 (.move (.const (I 0)))])
(.block 0
  (.loop
    (.seq (.seq (reg [op 6 (.move (.tmp 5)) 1,
      op 7 (.move (.tmp 0)) 1,
      op 8 (bi .len #[(.global 7)] 1) 1,
      op 9 (.binOp .lss 0 (.global 6) (.global 8) 0)])
    (.cond (.tmp 9)
      .skip
      (.exit 0)))
    (.seq (.block 1
      (.seq (.seq (reg [op 12 (.move (.tmp 0)) 1,
        op 13 (.move (.tmp 5)) 1,
        op 14 (.indexAddr 3 (.global 12) (.global 13)) 1,
        op 15 (.load 0 (.global 14)) 1,
        op 16 (.move (.tmp 1)) 1,
        op 17 (call (.func 289) #[(.global 16)]) 3,
        op 18 (.binOp .neq 0 (.global 15) (.global 17) 0)])
      (.cond (.tmp 18)
        (.seq (reg [op 4 (.move (.const (I (-1))))])
        .ret)
        .skip))
      (reg [op 19 (.move (.tmp 1)) 1,
        op 20 (.binOp .add 0 (.global 19) (.const (I 1)) 0) 1,
        op 1 (.move (.global 20))])))
    (reg [op 10 (.move (.tmp 5)) 1,
      op 11 (.binOp .add 0 (.global 10) (.const (I 1)) 0) 1,
      op 5 (.move (.global 11))]))))))
(.seq (reg [op 21 (.move (.tmp 1)) 1,
  op 4 (.move (.global 21))])
.ret))), [(4, 0)]⟩

/-- spec.ReadHex -/
def fn411 : AFun := ⟨1,
(.seq (reg [op 2 (.move (.const (S []))),
  op 3 (.move (.const (B false)))])
(.seq (.seq (reg [op 8 (.move (.tmp 0)) 1,
  op 9 (bi .len #[(.global 8)] 0) 1,
  op 10 (.binOp .rem 0 (.global 9) (.const (I 2)) 0) 1,
  op 11 (.binOp .eql 0 (.global 10) (.const (I 1)) 0)])
(.cond (.tmp 11)
  (.seq (reg [op 2 (.move (.const (S []))),
    op 3 (.move (.const (B false)))])
  .ret)
  .skip))
(.seq (reg [op 12 (.move (.const (sl 0 0 0 1))) 1,
  op 4 (.move (.global 12))])
(.seq (.seq (reg [op 5 (.move (.const (I 0)))])
(.block 0
  (.loop
    (.seq (.seq (reg [op 13 (.move (.tmp 5)) 1,
      op 14 (.move (.tmp 0)) 1,
      op 15 (bi .len #[(.global 14)] 0) 1,
      op 16 (.binOp .lss 0 (.global 13) (.global 15) 0)])
    (.cond (.tmp 16)
      .skip
      (.exit 0)))
    (.seq (.block 1
      (.seq (reg [op 19 (.move (.tmp 0)) 1,
        op 20 (.move (.tmp 5)) 1,
        op 21 (.index 0 (.global 19) (.global 20)) 1,
        op 22 (call (.func 567) #[(.global 21)]) 1,
        op 6 (.move (.global 22))])
      (.seq (reg [op 23 (.move (.tmp 0)) 1,
        op 24 (.move (.tmp 5)) 1,
        op 25 (.binOp .add 0 (.global 24) (.const (I 1)) 0) 1,
        op 26 (.index 0 (.global 23) (.global 25)) 1,
        op 27 (call (.func 567) #[(.global 26)]) 1,
        op 7 (.move (.global 27))])
      (.seq (.seq (reg [op 28 (.move (.tmp 6)) 1,
        op 29 (.binOp .lss 0 (.global 28) (.const (I 0)) 0) 1,
        op 30 (.move (.global 29)) 1,
        op 31 (.move (.tmp 7)) 1 (some (61, false)),
        op 32 (.binOp .lss 0 (.global 31) (.const (I 0)) 0) 1 (some (61, false)),
        op 33 (.pick (.global 30) (.const (B true)) (.global 32))])
      (.cond (.tmp 33)
        (.seq (reg [op 2 (.move (.const (S []))),
          op 3 (.move (.const (B false)))])
        .ret)
        .skip))
      (reg [op 34 (.move (.tmp 4)) 1,
        op 35 (.move (.tmp 6)) 1,
        op 36 (.binOp .mul 0 (.const (I 16)) (.global 35) 0) 1,
        op 37 (.move (.tmp 7)) 1,
        op 38 (.binOp .add 0 (.global 36) (.global 37) 0) 1,
        op 39 (.convert 0 4 (.global 38)) 1,
        op 40 (.buildSlice 1 1 #[(0, (.const (.agg #[(U 0)]))), (1, (.global 39))]) 1,
        op 41 (bi .append #[(.global 34), (.global 40)] 1) 1,
        op 4 (.move (.global 41))])))))
    (reg [op 17 (.move (.tmp 5)) 1,
      op 18 (.binOp .add 0 (.global 17) (.const (I 2)) 0) 1,
      op 5 (.move (.global 18))]))))))
(.seq (reg [op 42 (.move (.tmp 4)) 1,
  op 43 (.convert 0 21 (.global 42)) 1,
  op 2 (.move (.global 43)),
  op 3 (.move (.const (B true)))])
.ret))))), [(2, 0), (3, 0)]⟩

/-- impl.ReadHex -/
def fn120 : AFun := ⟨1,
(.seq (reg [op 2 (.move (.const (S []))),
  op 3 (.move (.const (B false)))])
(.seq (.seq (reg [op 8 (.move (.tmp 0)) 1,
  op 9 (bi .len #[(.global 8)] 0) 1,
  op 10 (.binOp .rem 0 (.global 9) (.const (I 2)) 0) 1,
  op 11 (.binOp .neq 0 (.global 10) (.const (I 0)) 0)])
(.cond (.tmp 11)
  (.seq (reg [op 2 (.move (.const (S []))),
    op 3 (.move (.const (B false)))])
  .ret)
  .skip))
(.seq (reg [op 12 (.move (.const (sl 0 0 0 1))) 1,
  op 4 (.move (.global 12))])
(.seq (.seq (reg [op 5 (.move (.const (I 0)))])
(.block 0
  (.loop
    (.seq (.seq (reg [op 13 (.move (.tmp 5)) 1,
      op 14 (.move (.tmp 0)) 1,
      op 15 (bi .len #[(.global 14)] 0) 1,
      op 16 (.binOp .lss 0 (.global 13) (.global 15) 0)])
    (.cond (.tmp 16)
      .skip
      (.exit 0)))
    (.seq (.block 1
      (.seq (reg [op 19 (.move (.tmp 0)) 1,
        op 20 (.move (.tmp 5)) 1,
        op 21 (.index 0 (.global 19) (.global 20)) 1,
        op 22 (call (.func 183) #[(.const (S [48, 49, 50, 51, 52, 53, 54, 55, 56, 57, 97, 98, 99, 100, 101, 102])), (.global 21), (.const (I 0))]) 1,
        op 23 (.move (.tmp 0)) 1,
        op 24 (.move (.tmp 5)) 1,
        op 25 (.binOp .add 0 (.global 24) (.const (I 1)) 0) 1,
        op 26 (.index 0 (.global 23) (.global 25)) 1,
        op 27 (call (.func 183) #[(.const (S [48, 49, 50, 51, 52, 53, 54, 55, 56, 57, 97, 98, 99, 100, 101, 102])), (.global 26), (.const (I 0))]) 1,
        op 6 (.move (.global 22)),
        op 7 (.move (.global 27))])
      (.seq (.seq (reg [op 28 (.move (.tmp 6)) 1,
        op 29 (.binOp .lss 0 (.global 28) (.const (I 0)) 0) 1,
        op 30 (.move (.global 29)) 1,
        op 31 (.move (.tmp 7)) 1 (some (61, false)),
        op 32 (.binOp .lss 0 (.global 31) (.const (I 0)) 0) 1 (some (61, false)),
        op 33 (.pick (.global 30) (.const (B true)) (.global 32))])
      (.cond (.tmp 33)
        (.seq (reg [op 2 (.move (.const (S []))),
          op 3 (.move (.const (B false)))])
        .ret)
        .skip))
      (reg [op 34 (.move (.tmp 4)) 1,
        op 35 (.move (.tmp 6)) 1,
        op 36 (.binOp .mul 0 (.const (I 16)) (.global 35) 0) 1,
        op 37 (.move (.tmp 7)) 1,
        op 38 (.binOp .add 0 (.global 36) (.global 37) 0) 1,
        op 39 (.convert 0 4 (.global 38)) 1,
        op 40 (.buildSlice 1 1 #[(0, (.const (.agg #[(U 0)]))), (1, (.global 39))]) 1,
        op 41 (bi .append #[(.global 34), (.global 40)] 1) 1,
        op 4 (.move (.global 41))]))))
    (reg [op 17 (.move (.tmp 5)) 1,
      op 18 (.binOp .add 0 (.global 17) (.const (I 2)) 0) 1,
      op 5 (.move (.global 18))]))))))
(.seq (reg [op 42 (.move (.tmp 4)) 1,
  op 43 (.convert 0 21 (.global 42)) 1,
  op 2 (.move (.global 43)),
  op 3 (.move (.const (B true)))])
.ret))))), [(2, 0), (3, 0)]⟩

/-- laws.szPanelChangeS -/
def fn296 : AFun := ⟨2,
(.seq (reg [op 4 (.move (.const (I 0)))])
(.seq (reg [op 5 (.move (.tmp 1)) 1,
  op 6 (.move (.tmp 0)) 1,
  op 7 (bi .len #[(.global 6)] 1) 1,
  op 8 (.binOp .sub 0 (.global 5) (.global 7) 0) 1,
  op 1 (.move (.global 8))])
(.seq (.seq (reg [op 9 (.move (.tmp 1)) 1,
  op 10 (.binOp .lss 0 (.global 9) (.const (I 0)) 0)])
(.cond (.tmp 10)
  (.seq (reg [op 4 (.move (.const (I (-1))))])
  .ret)
  .skip))
(.seq (reg [op 11 (.move (.tmp 1)) 1,
  op 4 (.move (.global 11))])
.ret)))), [(4, 0)]⟩

/-- spec.InverseDiff -/
def fn382 : AFun := ⟨1,
(.seq (reg [op 2 (.move (.const (sl 0 0 0 0)))])
(.seq (reg [op 5 (.move (.const (sl 0 0 0 3))) 1,
  op 3 (.move (.global 5))])
(.seq (.seq (reg [op 6 (.move (.tmp 0)) 1,
  op 7 (bi .len #[(.global 6)] 1) 1,
  op 8 (.binOp .sub 0 (.global 7) (.const (I 1)) 0) 1,
  op 4 (.move (.global 8))])
(.block 0
  (.loop
    (.seq (.seq (reg [op 9 (.move (.tmp 4)) 1,
      op 10 (.binOp .geq 0 (.global 9) (.const (I 0)) 0)])
    (.cond (.tmp 10)
      .skip
      (.exit 0)))
    (.seq (.block 1
      (reg [op 13 (.move (.tmp 3)) 1,
        op 14 (.move (.tmp 0)) 1,
        op 15 (.move (.tmp 4)) 1,
        op 16 (.indexAddr 7 (.global 14) (.global 15)) 1,
        op 17 (.fieldAddr 0 (.global 16) 0) 1,
        op 18 (.load 0 (.global 17)) 1,
        op 19 (.move (.tmp 0)) 1,
        op 20 (.move (.tmp 4)) 1,
        op 21 (.indexAddr 7 (.global 19) (.global 20)) 1,
        op 22 (.fieldAddr 2 (.global 21) 0) 1,
        op 23 (.load 0 (.global 22)) 1,
        op 24 (.move (.tmp 0)) 1,
        op 25 (.move (.tmp 4)) 1,
        op 26 (.indexAddr 7 (.global 24) (.global 25)) 1,
        op 27 (.fieldAddr 1 (.global 26) 0) 1,
        op 28 (.load 0 (.global 27)) 1,
        op 29 (.build 0 #[(0, (.const (.agg #[(I 0), (I 0), (I 0)]))), (1, (.global 18)), (1001, (.global 23)), (2001, (.global 28))]) 1,
        op 30 (.buildSlice 3 1 #[(0, (.const (.agg #[(I 0), (I 0), (I 0)]))), (3, (.global 29))]) 1,
        op 31 (bi .append #[(.global 13), (.global 30)] 3) 1,
        op 3 (.move (.global 31))]))
    (reg [op 11 (.move (.tmp 4)) 1,
      op 12 (.binOp .sub 0 (.global 11) (.const (I 1)) 0) 1,
      op 4 (.move (.global 12))]))))))
(.seq (reg [op 32 (.move (.tmp 3)) 1,
  op 2 (.move (.global 32))])
.ret)))), [(2, 0)]⟩

/-- laws.toPanelChangeS -/
def fn305 : AFun := ⟨1,
(.seq (reg [op 2 (.move (.const (sl 0 0 0 0)))])
(.seq (reg [op 5 (.move (.tmp 0)) 1,
  op 6 (bi .len #[(.global 5)] 1) 1,
  op 7 (.mapUpdate 3 (.global 6) (.global 6) (.const (.agg #[(I 0), (I 0), (I 0)]))) 1,
  op 3 (.move (.global 7))])
(.seq (.seq (reg [op 4 (.move (.const (I 0)))])
(.block 0
  (.loop
    (.seq (.seq (reg [op 8 (.move (.tmp 4)) 1,
      op 9 (.move (.tmp 0)) 1,
      op 10 (bi .len #[(.global 9)] 1) 1,
      op 11 (.binOp .lss 0 (.global 8) (.global 10) 0)])
    (.cond (.tmp 11)
      .skip
      (.exit 0)))
    (.seq (.block 1
      (reg [op 14 (.move (.tmp 3)) 1,
        op 15 (.move (.tmp 4)) 1,
        op 16 (.move (.tmp 0)) 1,
        op 17 (.move (.tmp 4)) 1,
        op 18 (.indexAddr 7 (.global 16) (.global 17)) 1,
        op 19 (.load 4 (.global 18)) 1,
        op 20 (call (.func 304) #[(.global 19)]) 1,
        op 21 (.indexAddr 7 (.global 14) (.global 15)) 1,
        opn (.store 3 (.global 21) (.global 20))]))
    (reg [op 12 (.move (.tmp 4)) 1,
      op 13 (.binOp .add 0 (.global 12) (.const (I 1)) 0) 1,
      op 4 (.move (.global 13))]))))))
(.seq (reg [op 22 (.move (.tmp 3)) 1,
  op 2 (.move (.global 22))])
.ret)))), [(2, 0)]⟩

/-- impl.InverseDiff -/
def fn89 : AFun := ⟨1,
(.seq (reg [op 2 (.move (.const (sl 0 0 0 0)))])
(.seq (reg [op 5 (.move (.const (sl 0 0 0 3))) 1,
  op 3 (.move (.global 5))])
(.seq (.seq (reg [op 6 (.move (.tmp 0)) 1,
  op 7 (bi .len #[(.global 6)] 1) 1,
  op 8 (.binOp .sub 0 (.global 7) (.const (I 1)) 0) 1,
  op 4 (.move (.global 8))])
(.block 0
  (.loop
    (.seq (.seq (reg [op 9 (.move (.tmp 4)) 1,
      op 10 (.binOp .geq 0 (.global 9) (.const (I 0)) 0)])
    (.cond (.tmp 10)
      .skip
      (.exit 0)))
    (.seq (.block 1
      (reg [op 13 (.move (.tmp 3)) 1,
        op 14 (.move (.tmp 0)) 1,
        op 15 (.move (.tmp 4)) 1,
        op 16 (.indexAddr 7 (.global 14) (.global 15)) 1,
        op 17 (.fieldAddr 0 (.global 16) 0) 1,
        op 18 (.load 0 (.global 17)) 1,
        op 19 (.move (.tmp 0)) 1,
        op 20 (.move (.tmp 4)) 1,
        op 21 (.indexAddr 7 (.global 19) (.global 20)) 1,
        op 22 (.fieldAddr 2 (.global 21) 0) 1,
        op 23 (.load 0 (.global 22)) 1,
        op 24 (.move (.tmp 0)) 1,
        op 25 (.move (.tmp 4)) 1,
        op 26 (.indexAddr 7 (.global 24) (.global 25)) 1,
        op 27 (.fieldAddr 1 (.global 26) 0) 1,
        op 28 (.load 0 (.global 27)) 1,
        op 29 (.build 0 #[(0, (.const (.agg #[(I 0), (I 0), (I 0)]))), (1, (.global 18)), (1001, (.global 23)), (2001, (.global 28))]) 1,
        op 30 (.buildSlice 3 1 #[(0, (.const (.agg #[(I 0), (I 0), (I 0)]))), (3, (.global 29))]) 1,
        op 31 (bi .append #[(.global 13), (.global 30)] 3) 1,
        op 3 (.move (.global 31))]))
    (reg [op 11 (.move (.tmp 4)) 1,
      op 12 (.binOp .sub 0 (.global 11) (.const (I 1)) 0) 1,
      op 4 (.move (.global 12))]))))))
(.seq (reg [op 32 (.move (.tmp 3)) 1,
  op 2 (.move (.global 32))])
.ret)))), [(2, 0)]⟩

/-- laws.eqPanelChangeS -/
def fn267 : AFun := ⟨2,
(.seq (reg [op 4 (.move (.const (B false)))])
(.seq (.seq (reg [op 6 (.move (.tmp 0)) 1,
  op 7 (bi .len #[(.global 6)] 1) 1,
  op 8 (.move (.tmp 1)) 1,
  op 9 (bi .len #[(.global 8)] 1) 1,
  op 10 (.binOp .neq 0 (.global 7) (.global 9) 0)])
(.cond (.tmp 10)
  (.seq (reg [op 4 (.move (.const (B false)))])
  .ret)
  .skip))
(.seq (.seq (reg [op 5 (.move (.const (I 0)))])
(.block 0
  (.loop
    (.seq (.seq (reg [op 11 (.move (.tmp 5)) 1,
      op 12 (.move (.tmp 0)) 1,
      op 13 (bi .len #[(.global 12)] 1) 1,
      op 14 (.binOp .lss 0 (.global 11) (.global 13) 0)])
    (.cond (.tmp 14)
      .skip
      (.exit 0)))
    (.seq (.block 1
      (.seq (reg [op 17 (.move (.tmp 0)) 1,
        op 18 (.move (.tmp 5)) 1,
        op 19 (.indexAddr 7 (.global 17) (.global 18)) 1,
        op 20 (.load 4 (.global 19)) 1,
        op 21 (.move (.tmp 1)) 1,
        op 22 (.move (.tmp 5)) 1,
        op 23 (.indexAddr 7 (.global 21) (.global 22)) 1,
        op 24 (.load 4 (.global 23)) 1,
        op 25 (call (.func 266) #[(.global 20), (.global 24)]) 1,
        op 26 (.unOp .not 0 (.global 25))])
      (.cond (.tmp 26)
        (.seq (reg [op 4 (.move (.const (B false)))])
        .ret)
        .skip)))
    (reg [op 15 (.move (.tmp 5)) 1,
      op 16 (.binOp .add 0 (.global 15) (.const (I 1)) 0) 1,
      op 5 (.move (.global 16))]))))))
(.seq (reg [op 4 (.move (.const (B true)))])
.ret)))), [(4, 0)]⟩

/-- laws.markPanelChangeS -/
def fn287 : AFun := ⟨2,
(.seq (reg [op 4 (.move (.const (I 0)))])
(.seq (.seq (reg [op 5 (.move (.const (I 0)))])
(.block 0
  (.loop
    (.seq (.seq (reg [op 6 (.move (.tmp 5)) 1,
      op 7 (.move (.tmp 0)) 1,
      op 8 (bi .len #[(.global 7)] 1) 1,
      op 9 (.binOp .lss 0 (.global 6) (.global 8) 0)])
    (.cond (.tmp 9)
      .skip
      (.exit 0)))
    (.seq (.block 1
      (.seq (reg [op 12 (.move (.tmp 0)) 1,
        op 13 (.move (.tmp 5)) 1,
        op 14 (.move (.tmp 1)) 1,
        op 15 (.indexAddr 7 (.global 12) (.global 13)) 1,
        op 16 (.fieldAddr 0 (.global 15) 0) 1,
        opn (.store 1 (.global 16) (.global 14))])
      (.seq (reg [op 17 (.move (.tmp 1)) 1,
        op 18 (.binOp .add 0 (.global 17) (.const (I 1)) 0) 1,
        op 1 (.move (.global 18))])
      (.seq (reg [op 19 (.move (.tmp 0)) 1,
        op 20 (.move (.tmp 5)) 1,
        op 21 (.move (.tmp 1)) 1,
        op 22 (.indexAddr 7 (.global 19) (.global 20)) 1,
        op 23 (.fieldAddr 1 (.global 22) 0) 1,
        opn (.store 1 (.global 23) (.global 21))])
      (.seq (reg [op 24 (.move (.tmp 1)) 1,
        op 25 (.binOp .add 0 (.global 24) (.const (I 1)) 0) 1,
        op 1 (.move (.global 25))])
      (.seq (reg [op 26 (.move (.tmp 0)) 1,
        op 27 (.move (.tmp 5)) 1,
        op 28 (.move (.tmp 1)) 1,
        op 29 (.indexAddr 7 (.global 26) (.global 27)) 1,
        op 30 (.fieldAddr 2 (.global 29) 0) 1,
        opn (.store 1 (.global 30) (.global 28))])
      (reg [op 31 (.move (.tmp 1)) 1,
        op 32 (.binOp .add 0 (.global 31) (.const (I 1)) 0) 1,
        op 1 (.move (.global 32))])))))))
    (reg [op 10 (.move (.tmp 5)) 1,
      op 11 (.binOp .add 0 (.global 10) (.const (I 1)) 0) 1,
      op 5 (.move (.global 11))]))))))
(.seq (reg [op 33 (.move (.tmp 1)) 1,
  op 4 (.move (.global 33))])
.ret))), [(4, 0)]⟩

/-- laws.heldPanelChangeS -/
def fn280 : AFun := ⟨2,
(.seq (reg [op 4 (.move (.const (I 0)))])
(.seq (.seq (reg [op 5 (.move (.const (I 0)))])
(.block 0
  (.loop
    (.seq (.seq (reg [op 6 (.move (.tmp 5)) 1,
      op 7 (.move (.tmp 0)) 1,
      op 8 (bi .len #[(.global 7)] 1) 1,
      op 9 (.binOp .lss 0 (.global 6) (.global 8) 0)])
    (.cond (.tmp 9)
      .skip
      (.exit 0)))
    (.seq (.block 1
      (.seq (.seq (reg [op 12 (.move (.tmp 0)) 1,
        op 13 (.move (.tmp 5)) 1,
        op 14 (.indexAddr 7 (.global 12) (.global 13)) 1,
        op 15 (.fieldAddr 0 (.global 14) 0) 1,
        op 16 (.load 0 (.global 15)) 1,
        op 17 (.move (.tmp 1)) 1,
        op 18 (.binOp .neq 0 (.global 16) (.global 17) 0)])
      (.cond (.tmp 18)
        (.seq (reg [op 4 (.move (.const (I (-1))))])
        .ret)
        .skip))
      (.seq (reg [op 19 (.move (.tmp 1)) 1,
        op 20 (.binOp .add 0 (.global 19) (.const (I 1)) 0) 1,
        op 1 (.move (.global 20))])
      (.seq (.seq (reg [op 21 (.move (.tmp 0)) 1,
        op 22 (.move (.tmp 5)) 1,
        op 23 (.indexAddr 7 (.global 21) (.global 22)) 1,
        op 24 (.fieldAddr 1 (.global 23) 0) 1,
        op 25 (.load 0 (.global 24)) 1,
        op 26 (.move (.tmp 1)) 1,
        op 27 (.binOp .neq 0 (.global 25) (.global 26) 0)])
      (.cond (.tmp 27)
        (.seq (reg [op 4 (.move (.const (I (-1))))])
        .ret)
        .skip))
      (.seq (reg [op 28 (.move (.tmp 1)) 1,
        op 29 (.binOp .add 0 (.global 28) (.const (I 1)) 0) 1,
        op 1 (.move (.global 29))])
      (.seq (.seq (reg [op 30 (.move (.tmp 0)) 1,
        op 31 (.move (.tmp 5)) 1,
        op 32 (.indexAddr 7 (.global 30) (.global 31)) 1,
        op 33 (.fieldAddr 2 (.global 32) 0) 1,
        op 34 (.load 0 (.global 33)) 1,
        op 35 (.move (.tmp 1)) 1,
        op 36 (.binOp .neq 0 (.global 34) (.global 35) 0)])
      (.cond (.tmp 36)
        (.seq (reg [op 4 (.move (.const (I (-1))))])
        .ret)
        .skip))
      (reg [op 37 (.move (.tmp 1)) 1,
        op 38 (.binOp .add 0 (.global 37) (.const (I 1)) 0) 1,
        op 1 (.move (.global 38))])))))))
    (reg [op 10 (.move (.tmp 5)) 1,
      op 11 (.binOp .add 0 (.global 10) (.const (I 1)) 0) 1,
      op 5 (.move (.global 11))]))))))
(.seq (reg [op 39 (.move (.tmp 1)) 1,
  op 4 (.move (.global 39))])
.ret))), [(4, 0)]⟩

/-- spec.l27Sum -/
def fn573 : AFun := ⟨1,
(.seq (reg [op 2 (.move (.const (I 0)))])
(.seq (reg [op 3 (.move (.const (I 1)))])
(.seq (reg [op 4 (.move (.const (I 0)))])
(.seq (.seq (reg [op 5 (.move (.const (I 0)))])
(.block 0
  (.loop
    (.seq (.seq (reg [op 6 (.move (.tmp 5)) 1,
      op 7 (.move (.tmp 0)) 1,
      op 8 (bi .len #[(.global 7)] 0) 1,
      op 9 (.binOp .lss 0 (.global 6) (.global 8) 0)])
    (.cond (.tmp 9)
      .skip
      (.exit 0)))
    (.seq (.block 1
      (.seq (reg [op 12 (.move (.tmp 3)) 1,
        op 13 (.move (.tmp 0)) 1,
        op 14 (.move (.tmp 5)) 1,
        op 15 (.index 0 (.global 13) (.global 14)) 1,
        op 16 (.convert 0 3 (.global 15)) 1,
        op 17 (.binOp .add 0 (.global 12) (.global 16) 0) 1,
        op 18 (.binOp .rem 0 (.global 17) (.const (I 251)) 0) 1,
        op 3 (.move (.global 18))])
      (reg [op 19 (.move (.tmp 4)) 1,
        op 20 (.move (.tmp 3)) 1,
        op 21 (.binOp .add 0 (.global 19) (.global 20) 0) 1,
        op 22 (.binOp .rem 0 (.global 21) (.const (I 251)) 0) 1,
        op 4 (.move (.global 22))])))
    (reg [op 10 (.move (.tmp 5)) 1,
      op 11 (.binOp .add 0 (.global 10) (.const (I 1)) 0) 1,
      op 5 (.move (.global 11))]))))))
(.seq (reg [op 23 (.move (.tmp 4)) 1,
  op 24 (.binOp .mul 0 (.const (I 256)) (.global 23) 0) 1,
  op 25 (.move (.tmp 3)) 1,
  op 26 (.binOp .add 0 (.global 24) (.global 25) 0) 1,
  op 2 (.move (.global 26))])
.ret))))), [(2, 0)]⟩

/-- spec.l02Side -/
def fn457 : AFun := ⟨1,
(.seq (reg [op 2 (.move (.const (B false)))])
(.seq (reg [op 3 (.move (.tmp 0)) 1,
  op 4 (call (.func 432) #[(.global 3), (.const (I 1)), (.const (I 8))]) 1,
  op 2 (.move (.global 4))])
.ret)), [(2, 0)]⟩

/-- spec.l27Size -/
def fn572 : AFun := ⟨2,
(.seq (reg [op 4 (.move (.const (I 0)))])
(.seq (reg [op 5 (.move (.tmp 0)) 1,
  op 6 (.move (.tmp 1)) 1,
  op 7 (call (.func 448) #[(.global 5), (.global 6)]) 1,
  op 8 (.binOp .add 0 (.global 7) (.const (I 4)) 0) 1,
  op 9 (.binOp .quo 0 (.global 8) (.const (I 5)) 0) 1,
  op 10 (.binOp .add 0 (.const (I 3)) (.global 9) 0) 1,
  op 11 (.binOp .add 0 (.global 10) (.const (I 2)) 0) 1,
  op 4 (.move (.global 11))])
.ret)), [(4, 0)]⟩

/-- impl.validSize -/
def fn198 : AFun := ⟨2,
(.seq (reg [op 4 (.move (.const (B false)))])
(.seq (reg [op 5 (.move (.tmp 0)) 1,
  op 6 (call (.func 164) #[(.global 5), (.const (I 1)), (.const (I 8))]) 1,
  op 7 (.move (.global 6)) 1,
  op 8 (.move (.tmp 1)) 1 (some (15, true)),
  op 9 (call (.func 164) #[(.global 8), (.const (I 1)), (.const (I 8))]) 1 (some (15, true)),
  op 10 (.pick (.global 7) (.global 9) (.const (B false))) 1,
  op 4 (.move (.global 10))])
.ret)), [(4, 0)]⟩

/-- impl.packedSize -/
def fn181 : AFun := ⟨2,
(.seq (reg [op 4 (.move (.const (I 0)))])
(.seq (reg [op 5 (.move (.tmp 0)) 1,
  op 6 (.move (.tmp 1)) 1,
  op 7 (call (.func 166) #[(.global 5), (.global 6)]) 1,
  op 8 (.binOp .add 0 (.global 7) (.const (I 4)) 0) 1,
  op 9 (.binOp .quo 0 (.global 8) (.const (I 5)) 0) 1,
  op 10 (.binOp .add 0 (.const (I 5)) (.global 9) 0) 1,
  op 4 (.move (.global 10))])
.ret)), [(4, 0)]⟩

/-- spec.l28Words -/
def fn581 : AFun := ⟨0,
(.seq (reg [op 0 (.move (.const (sl 0 0 0 0)))])
(.seq (reg [op 1 (.buildSlice 1 18 #[(0, (.const (.agg #[(S []), (S []), (S []), (S []), (S []), (S []), (S []), (S []), (S []), (S []), (S []), (S []), (S []), (S []), (S []), (S []), (S []), (S [])]))), (1, (.const (S [97, 108, 111, 110, 103]))), (1001, (.const (S [98, 114, 97, 99, 107, 101, 116]))), (2001, (.const (S [99, 111, 100, 101]))), (3001, (.const (S [99, 111, 108, 117, 109, 110]))), (4001, (.const (S [99, 111, 117, 110, 116]))), (5001, (.const (S [108, 101, 110, 103, 116, 104, 115]))), (6001, (.const (S [108, 105, 110, 107]))), (7001, (.const (S [110, 101, 119]))), (8001, (.const (S [112, 97, 115, 115, 101, 115]))), (9001, (.const (S [112, 105, 99, 116, 117, 114, 101]))), (10001, (.const (S [114, 101, 97, 100]))), (11001, (.const (S [114, 101, 100, 111]))), (12001, (.const (S [115, 101, 97, 114, 99, 104]))), (13001, (.const (S [115, 101, 116]))), (14001, (.const (S [115, 104, 111, 119]))), (15001, (.const (S [115, 113, 117, 97, 115, 104]))), (16001, (.const (S [117, 110, 100, 111]))), (17001, (.const (S [119, 114, 105, 116, 104, 101])))]) 1,
  op 0 (.move (.global 1))])
.ret)), [(0, 0)]⟩

/-- laws.markText -/
def fn289 : AFun := ⟨1,
(.seq (reg [op 2 (.move (.const (S [])))])
(.seq (.seq (reg [op 4 (.move (.tmp 0)) 1,
  op 5 (.binOp .leq 0 (.global 4) (.const (I 0)) 0)])
(.cond (.tmp 5)
  (.seq (reg [op 2 (.move (.const (S [109, 48])))])
  .ret)
  .skip))
(.seq (reg [op 3 (.move (.const (S [])))])
(.seq (.block 0
  (.loop
    (.seq (.seq (reg [op 6 (.move (.tmp 0)) 1,
      op 7 (.binOp .gtr 0 (.global 6) (.const (I 0)) 0)])
    (.cond (.tmp 7)
      .skip
      (.exit 0)))
    (.block 1
      (.seq (reg [op 8 (.move (.tmp 0)) 1,
        op 9 (.binOp .rem 0 (.global 8) (.const (I 10)) 0) 1,
        op 10 (.binOp .add 0 (.const (I 48)) (.global 9) 0) 1,
        op 11 (.convert 0 4 (.global 10)) 1,
        op 12 (.buildSlice 1 1 #[(0, (.const (.agg #[(U 0)]))), (1, (.global 11))]) 1,
        op 13 (.convert 0 21 (.global 12)) 1,
        op 14 (.move (.tmp 3)) 1,
        op 15 (.binOp .add 0 (.global 13) (.global 14) 0) 1,
        op 3 (.move (.global 15))])
      (reg [op 16 (.move (.tmp 0)) 1,
        op 17 (.binOp .quo 0 (.global 16) (.const (I 10)) 0) 1,
        op 0 (.move (.global 17))]))))))
(.seq (reg [op 18 (.move (.tmp 3)) 1,
  op 19 (.binOp .add 0 (.const (S [109])) (.global 18) 0) 1,
  op 2 (.move (.global 19))])
.ret))))), [(2, 0)]⟩

/-- spec.l27Digit -/
def fn567 : AFun := ⟨1,
(.seq (reg [op 2 (.move (.const (I 0)))])
(.seq (.block 0
  (.seq (reg [op 4 (.move (.tmp 0)) 1,
    op 5 (.binOp .geq 0 (.global 4) (.const (U 48)) 0) 1,
    op 6 (.move (.global 5)) 1,
    op 7 (.move (.tmp 0)) 1 (some (13, true)),
    op 8 (.binOp .leq 0 (.global 7) (.const (U 57)) 0) 1 (some (13, true)),
    op 9 (.pick (.global 6) (.global 8) (.const (B false))) 1,
    op 3 (.move (.global 9))])
  (.cond (.tmp 3)
    (.seq (reg [op 10 (.move (.tmp 0)) 1,
      op 11 (.binOp .sub 0 (.global 10) (.const (U 48)) 0) 1,
      op 12 (.convert 0 3 (.global 11)) 1,
      op 2 (.move (.global 12))])
    .ret)
    (.seq (reg [op 14 (.move (.tmp 0)) 1,
      op 15 (.binOp .geq 0 (.global 14) (.const (U 97)) 0) 1,
      op 16 (.move (.global 15)) 1,
      op 17 (.move (.tmp 0)) 1 (some (33, true)),
      op 18 (.binOp .leq 0 (.global 17) (.const (U 102)) 0) 1 (some (33, true)),
      op 19 (.pick (.global 16) (.global 18) (.const (B false))) 1,
      op 13 (.move (.global 19))])
    (.cond (.tmp 13)
      (.seq (reg [op 20 (.move (.tmp 0)) 1,
        op 21 (.binOp .sub 0 (.global 20) (.const (U 97)) 0) 1,
        op 22 (.convert 0 3 (.global 21)) 1,
        op 23 (.binOp .add 0 (.global 22) (.const (I 10)) 0) 1,
        op 2 (.move (.global 23))])
      .ret)
      .skip)))))
(.seq (reg [op 2 (.move (.const (I (-1))))])
.ret))), [(2, 0)]⟩

/-- impl.placeOf -/
def fn183 : AFun := ⟨3,
(.seq (reg [op 6 (.move (.const (I 0)))])
(.seq (.seq (reg [op 8 (.move (.tmp 2)) 1,
  op 7 (.move (.global 8))])
(.block 0
  (.loop
    (.seq (.seq (reg [op 9 (.move (.tmp 7)) 1,
      op 10 (.move (.tmp 0)) 1,
      op 11 (bi .len #[(.global 10)] 0) 1,
      op 12 (.binOp .lss 0 (.global 9) (.global 11) 0)])
    (.cond (.tmp 12)
      .skip
      (.exit 0)))
    (.seq (.block 1
      (.seq (reg [op 15 (.move (.tmp 0)) 1,
        op 16 (.move (.tmp 7)) 1,
        op 17 (.index 0 (.global 15) (.global 16)) 1,
        op 18 (.move (.tmp 1)) 1,
        op 19 (.binOp .eql 0 (.global 17) (.global 18) 0)])
      (.cond (.tmp 19)
        (.seq (reg [op 20 (.move (.tmp 7)) 1,
          op 6 (.move (.global 20))])
        .ret)
        .skip)))
    (reg [op 13 (.move (.tmp 7)) 1,
      op 14 (.binOp .add 0 (.global 13) (.const (I 1)) 0) 1,
      op 7 (.move (.global 14))]))))))
(.seq (reg [op 6 (.move (.const (I (-1))))])
.ret))), [(6, 0)]⟩

/-- laws.toPanelChange -/
def fn304 : AFun := ⟨1,
(.seq (reg [op 1 (.makeChan 3 (.tmp 0)),
  op 2 (.move (.const (.agg #[(I 0), (I 0), (I 0)])))])
(.seq (reg [op 3 (.move (.const (.agg #[(I 0), (I 0), (I 0)])))])
(.seq (reg [op 4 (.fieldAddr 0 (.tmp 1) 1) 1,
  op 5 (.lookup 0 (.tmp 1) (.global 4) false) 1,
  op 6 (.fieldAddr 0 (.tmp 3) 1) 1,
  op 3 (.insert 1 (.tmp 3) (.global 6) (.global 5))])
(.seq (reg [op 7 (.fieldAddr 1 (.tmp 1) 1) 1,
  op 8 (.lookup 0 (.tmp 1) (.global 7) false) 1,
  op 9 (.fieldAddr 1 (.tmp 3) 1) 1,
  op 3 (.insert 1 (.tmp 3) (.global 9) (.global 8))])
(.seq (reg [op 10 (.fieldAddr 2 (.tmp 1) 1) 1,
  op 11 (.lookup 0 (.tmp 1) (.global 10) false) 1,
  op 12 (.fieldAddr 2 (.tmp 3) 1) 1,
  op 3 (.insert 1 (.tmp 3) (.global 12) (.global 11))])
(.seq (reg [op 13 (.lookup 4 (.tmp 3) (.tmp 3) false) 1,
  op 2 (.insert 3 (.tmp 2) (.tmp 2) (.global 13))])
.ret)))))), [(2, 1000004)]⟩

/-- laws.eqPanelChange -/
def fn266 : AFun := ⟨2,
(.seq (reg [op 2 (.makeChan 3 (.tmp 0)),
  op 3 (.makeChan 3 (.tmp 1)),
  op 4 (.move (.const (B false)))])
(.seq (.seq (reg [op 5 (.fieldAddr 0 (.tmp 2) 1) 1,
  op 6 (.lookup 0 (.tmp 2) (.global 5) false) 1,
  op 7 (.fieldAddr 0 (.tmp 3) 1) 1,
  op 8 (.lookup 0 (.tmp 3) (.global 7) false) 1,
  op 9 (.binOp .neq 0 (.global 6) (.global 8) 0)])
(.cond (.tmp 9)
  (.seq (reg [op 4 (.move (.const (B false)))])
  .ret)
  .skip))
(.seq (.seq (reg [op 10 (.fieldAddr 1 (.tmp 2) 1) 1,
  op 11 (.lookup 0 (.tmp 2) (.global 10) false) 1,
  op 12 (.fieldAddr 1 (.tmp 3) 1) 1,
  op 13 (.lookup 0 (.tmp 3) (.global 12) false) 1,
  op 14 (.binOp .neq 0 (.global 11) (.global 13) 0)])
(.cond (.tmp 14)
  (.seq (reg [op 4 (.move (.const (B false)))])
  .ret)
  .skip))
(.seq (.seq (reg [op 15 (.fieldAddr 2 (.tmp 2) 1) 1,
  op 16 (.lookup 0 (.tmp 2) (.global 15) false) 1,
  op 17 (.fieldAddr 2 (.tmp 3) 1) 1,
  op 18 (.lookup 0 (.tmp 3) (.global 17) false) 1,
  op 19 (.binOp .neq 0 (.global 16) (.global 18) 0)])
(.cond (.tmp 19)
  (.seq (reg [op 4 (.move (.const (B false)))])
  .ret)
  .skip))
(.seq (reg [op 4 (.move (.const (B true)))])
.ret))))), [(4, 0)]⟩

/-- spec.l00In -/
def fn432 : AFun := ⟨3,
(.seq (reg [op 6 (.move (.const (B false)))])
(.seq (reg [op 7 (.move (.tmp 0)) 1,
  op 8 (.move (.tmp 1)) 1,
  op 9 (.binOp .geq 0 (.global 7) (.global 8) 0) 1,
  op 10 (.move (.global 9)) 1,
  op 11 (.move (.tmp 0)) 1 (some (21, true)),
  op 12 (.move (.tmp 2)) 1 (some (21, true)),
  op 13 (.binOp .leq 0 (.global 11) (.global 12) 0) 1 (some (21, true)),
  op 14 (.pick (.global 10) (.global 13) (.const (B false))) 1,
  op 6 (.move (.global 14))])
.ret)), [(6, 0)]⟩

/-- spec.l02Inner -/
def fn448 : AFun := ⟨2,
(.seq (reg [op 4 (.move (.const (I 0)))])
(.seq (reg [op 5 (.move (.tmp 0)) 1,
  op 6 (.move (.tmp 1)) 1,
  op 7 (.binOp .sub 0 (.global 6) (.const (I 1)) 0) 1,
  op 8 (.binOp .mul 0 (.global 5) (.global 7) 0) 1,
  op 9 (.move (.tmp 1)) 1,
  op 10 (.move (.tmp 0)) 1,
  op 11 (.binOp .sub 0 (.global 10) (.const (I 1)) 0) 1,
  op 12 (.binOp .mul 0 (.global 9) (.global 11) 0) 1,
  op 13 (.binOp .add 0 (.global 8) (.global 12) 0) 1,
  op 4 (.move (.global 13))])
.ret)), [(4, 0)]⟩

/-- impl.inRange -/
def fn164 : AFun := ⟨3,
(.seq (reg [op 6 (.move (.const (B false)))])
(.seq (reg [op 7 (.move (.tmp 0)) 1,
  op 8 (.move (.tmp 1)) 1,
  op 9 (.binOp .geq 0 (.global 7) (.global 8) 0) 1,
  op 10 (.move (.global 9)) 1,
  op 11 (.move (.tmp 0)) 1 (some (21, true)),
  op 12 (.move (.tmp 2)) 1 (some (21, true)),
  op 13 (.binOp .leq 0 (.global 11) (.global 12) 0) 1 (some (21, true)),
  op 14 (.pick (.global 10) (.global 13) (.const (B false))) 1,
  op 6 (.move (.global 14))])
.ret)), [(6, 0)]⟩

/-- impl.innerPoints -/
def fn166 : AFun := ⟨2,
(.seq (reg [op 4 (.move (.const (I 0)))])
(.seq (reg [op 5 (.move (.tmp 0)) 1,
  op 6 (.move (.tmp 1)) 1,
  op 7 (.binOp .sub 0 (.global 6) (.const (I 1)) 0) 1,
  op 8 (.binOp .mul 0 (.global 5) (.global 7) 0) 1,
  op 9 (.move (.tmp 1)) 1,
  op 10 (.move (.tmp 0)) 1,
  op 11 (.binOp .sub 0 (.global 10) (.const (I 1)) 0) 1,
  op 12 (.binOp .mul 0 (.global 9) (.global 11) 0) 1,
  op 13 (.binOp .add 0 (.global 8) (.global 12) 0) 1,
  op 4 (.move (.global 13))])
.ret)), [(4, 0)]⟩

/-- laws.szPanel -/
def fn295 : AFun := ⟨2,
(.seq (reg [op 2 (.makeChan 3 (.tmp 0)),
  op 4 (.move (.const (I 0)))])
(.seq (reg [op 5 (.fieldAddr 2 (.tmp 2) 1) 1,
  op 6 (.lookup 0 (.tmp 2) (.global 5) false) 1,
  op 7 (.move (.tmp 1)) 1,
  op 8 (call (.func 290) #[(.global 6), (.global 7)]) 1,
  op 1 (.move (.global 8))])
(.seq (.seq (reg [op 9 (.move (.tmp 1)) 1,
  op 10 (.binOp .lss 0 (.global 9) (.const (I 0)) 0)])
(.cond (.tmp 10)
  (.seq (reg [op 4 (.move (.const (I (-1))))])
  .ret)
  .skip))
(.seq (reg [op 11 (.move (.tmp 1)) 1,
  op 4 (.move (.global 11))])
.ret)))), [(4, 0)]⟩

/-- laws.toPanel -/
def fn303 : AFun := ⟨1,
(.seq (reg [op 1 (.makeChan 3 (.tmp 0)),
  op 2 (.move (.const (.agg #[(I 0), (I 0), (sl 0 0 0 0)])))])
(.seq (reg [op 3 (.move (.const (.agg #[(I 0), (I 0), (sl 0 0 0 0)])))])
(.seq (reg [op 4 (.fieldAddr 0 (.tmp 1) 1) 1,
  op 5 (.lookup 0 (.tmp 1) (.global 4) false) 1,
  op 6 (.fieldAddr 0 (.tmp 3) 1) 1,
  op 3 (.insert 1 (.tmp 3) (.global 6) (.global 5))])
(.seq (reg [op 7 (.fieldAddr 1 (.tmp 1) 1) 1,
  op 8 (.lookup 0 (.tmp 1) (.global 7) false) 1,
  op 9 (.fieldAddr 1 (.tmp 3) 1) 1,
  op 3 (.insert 1 (.tmp 3) (.global 9) (.global 8))])
(.seq (reg [op 10 (.fieldAddr 2 (.tmp 1) 1) 1,
  op 11 (.lookup 0 (.tmp 1) (.global 10) false) 1,
  op 12 (call (.func 297) #[(.global 11)]) 1,
  op 13 (.fieldAddr 2 (.tmp 3) 1) 1,
  op 3 (.insert 1 (.tmp 3) (.global 13) (.global 12))])
(.seq (reg [op 14 (.lookup 4 (.tmp 3) (.tmp 3) false) 1,
  op 2 (.insert 3 (.tmp 2) (.tmp 2) (.global 14))])
.ret)))))), [(2, 1000004)]⟩

/-- laws.eqPanel -/
def fn265 : AFun := ⟨2,
(.seq (reg [op 2 (.makeChan 3 (.tmp 0)),
  op 3 (.makeChan 3 (.tmp 1)),
  op 4 (.move (.const (B false)))])
(.seq (.seq (reg [op 5 (.fieldAddr 0 (.tmp 2) 1) 1,
  op 6 (.lookup 0 (.tmp 2) (.global 5) false) 1,
  op 7 (.fieldAddr 0 (.tmp 3) 1) 1,
  op 8 (.lookup 0 (.tmp 3) (.global 7) false) 1,
  op 9 (.binOp .neq 0 (.global 6) (.global 8) 0)])
(.cond (.tmp 9)
  (.seq (reg [op 4 (.move (.const (B false)))])
  .ret)
  .skip))
(.seq (.seq (reg [op 10 (.fieldAddr 1 (.tmp 2) 1) 1,
  op 11 (.lookup 0 (.tmp 2) (.global 10) false) 1,
  op 12 (.fieldAddr 1 (.tmp 3) 1) 1,
  op 13 (.lookup 0 (.tmp 3) (.global 12) false) 1,
  op 14 (.binOp .neq 0 (.global 11) (.global 13) 0)])
(.cond (.tmp 14)
  (.seq (reg [op 4 (.move (.const (B false)))])
  .ret)
  .skip))
(.seq (.seq (reg [op 15 (.fieldAddr 2 (.tmp 2) 1) 1,
  op 16 (.lookup 0 (.tmp 2) (.global 15) false) 1,
  op 17 (.fieldAddr 2 (.tmp 3) 1) 1,
  op 18 (.lookup 0 (.tmp 3) (.global 17) false) 1,
  op 19 (call (.func 259) #[(.global 16), (.global 18)]) 1,
  op 20 (.unOp .not 0 (.global 19))])
(.cond (.tmp 20)
  (.seq (reg [op 4 (.move (.const (B false)))])
  .ret)
  .skip))
(.seq (reg [op 4 (.move (.const (B true)))])
.ret))))), [(4, 0)]⟩

/-- laws.eqInt64S -/
def fn259 : AFun := ⟨2,
(.seq (reg [op 4 (.move (.const (B false)))])
(.seq (.seq (reg [op 6 (.move (.tmp 0)) 1,
  op 7 (bi .len #[(.global 6)] 1) 1,
  op 8 (.move (.tmp 1)) 1,
  op 9 (bi .len #[(.global 8)] 1) 1,
  op 10 (.binOp .neq 0 (.global 7) (.global 9) 0)])
(.cond (.tmp 10)
  (.seq (reg [op 4 (.move (.const (B false)))])
  .ret)
  .skip))
(.seq (.seq (reg [op 5 (.move (.const (I 0)))])
(.block 0
  (.loop
    (.seq (.seq (reg [op 11 (.move (.tmp 5)) 1,
      op 12 (.move (.tmp 0)) 1,
      op 13 (bi .len #[(.global 12)] 1) 1,
      op 14 (.binOp .lss 0 (.global 11) (.global 13) 0)])
    (.cond (.tmp 14)
      .skip
      (.exit 0)))
    (.seq (.block 1
      (.seq (reg [op 17 (.move (.tmp 0)) 1,
        op 18 (.move (.tmp 5)) 1,
        op 19 (.indexAddr 3 (.global 17) (.global 18)) 1,
        op 20 (.load 0 (.global 19)) 1,
        op 21 (.move (.tmp 1)) 1,
        op 22 (.move (.tmp 5)) 1,
        op 23 (.indexAddr 3 (.global 21) (.global 22)) 1,
        op 24 (.load 0 (.global 23)) 1,
        op 25 (.binOp .neq 0 (.global 20) (.global 24) 0)])
      (.cond (.tmp 25)
        (.seq (reg [op 4 (.move (.const (B false)))])
        .ret)
        .skip)))
    (reg [op 15 (.move (.tmp 5)) 1,
      op 16 (.binOp .add 0 (.global 15) (.const (I 1)) 0) 1,
      op 5 (.move (.global 16))]))))))
(.seq (reg [op 4 (.move (.const (B true)))])
.ret)))), [(4, 0)]⟩

/-- laws.markPanel -/
def fn286 : AFun := ⟨2,
(.seq (reg [op 2 (.makeChan 3 (.tmp 0)),
  op 4 (.move (.const (I 0)))])
(.seq (reg [op 5 (.fieldAddr 2 (.tmp 2) 1) 1,
  op 6 (.lookup 0 (.tmp 2) (.global 5) false) 1,
  op 7 (.move (.tmp 1)) 1,
  op 8 (call (.func 282) #[(.global 6), (.global 7)]) 1,
  op 1 (.move (.global 8))])
(.seq (reg [op 9 (.move (.tmp 1)) 1,
  op 4 (.move (.global 9))])
.ret))), [(4, 0)]⟩

/-- laws.markInt64S -/
def fn282 : AFun := ⟨2,
(.seq (reg [op 4 (.move (.const (I 0)))])
(.seq (.seq (reg [op 5 (.move (.const (I 0)))])
(.block 0
  (.loop
    (.seq (.seq (reg [op 6 (.move (.tmp 5)) 1,
      op 7 (.move (.tmp 0)) 1,
      op 8 (bi .len #[(.global 7)] 1) 1,
      op 9 (.binOp .lss 0 (.global 6) (.global 8) 0)])
    (.cond (.tmp 9)
      .skip
      (.exit 0)))
    (.seq (.block 1
      (.seq (reg [op 12 (.move (.tmp 0)) 1,
        op 13 (.move (.tmp 5)) 1,
        op 14 (.move (.tmp 1)) 1,
        op 15 (.indexAddr 3 (.global 12) (.global 13)) 1,
        opn (.store 1 (.global 15) (.global 14))])
      (reg [op 16 (.move (.tmp 1)) 1,
        op 17 (.binOp .add 0 (.global 16) (.const (I 1)) 0) 1,
        op 1 (.move (.global 17))])))
    (reg [op 10 (.move (.tmp 5)) 1,
      op 11 (.binOp .add 0 (.global 10) (.const (I 1)) 0) 1,
      op 5 (.move (.global 11))]))))))
(.seq (reg [op 18 (.move (.tmp 1)) 1,
  op 4 (.move (.global 18))])
.ret))), [(4, 0)]⟩

/-- laws.heldInt64S -/
def fn275 : AFun := ⟨2,
(.seq (reg [op 4 (.move (.const (I 0)))])
(.seq (.seq (reg [op 5 (.move (.const (I 0)))])
(.block 0
  (.loop
    (.seq (.seq (reg [op 6 (.move (.tmp 5)) 1,
      op 7 (.move (.tmp 0)) 1,
      op 8 (bi .len #[(.global 7)] 1) 1,
      op 9 (.binOp .lss 0 (.global 6) (.global 8) 0)])
    (.cond (.tmp 9)
      .skip
      (.exit 0)))
    (.seq (.block 1
      (.seq (.seq (reg [op 12 (.move (.tmp 0)) 1,
        op 13 (.move (.tmp 5)) 1,
        op 14 (.indexAddr 3 (.global 12) (.global 13)) 1,
        op 15 (.load 0 (.global 14)) 1,
        op 16 (.move (.tmp 1)) 1,
        op 17 (.binOp .neq 0 (.global 15) (.global 16) 0)])
      (.cond (.tmp 17)
        (.seq (reg [op 4 (.move (.const (I (-1))))])
        .ret)
        .skip))
      (reg [op 18 (.move (.tmp 1)) 1,
        op 19 (.binOp .add 0 (.global 18) (.const (I 1)) 0) 1,
        op 1 (.move (.global 19))])))
    (reg [op 10 (.move (.tmp 5)) 1,
      op 11 (.binOp .add 0 (.global 10) (.const (I 1)) 0) 1,
      op 5 (.move (.global 11))]))))))
(.seq (reg [op 20 (.move (.tmp 1)) 1,
  op 4 (.move (.global 20))])
.ret))), [(4, 0)]⟩

/-- laws.heldPanel -/
def fn279 : AFun := ⟨2,
(.seq (reg [op 2 (.makeChan 3 (.tmp 0)),
  op 4 (.move (.const (I 0)))])
(.seq (reg [op 5 (.fieldAddr 2 (.tmp 2) 1) 1,
  op 6 (.lookup 0 (.tmp 2) (.global 5) false) 1,
  op 7 (.move (.tmp 1)) 1,
  op 8 (call (.func 275) #[(.global 6), (.global 7)]) 1,
  op 1 (.move (.global 8))])
(.seq (.seq (reg [op 9 (.move (.tmp 1)) 1,
  op 10 (.binOp .lss 0 (.global 9) (.const (I 0)) 0)])
(.cond (.tmp 10)
  (.seq (reg [op 4 (.move (.const (I (-1))))])
  .ret)
  .skip))
(.seq (reg [op 11 (.move (.tmp 1)) 1,
  op 4 (.move (.global 11))])
.ret)))), [(4, 0)]⟩

/-- laws.szInt64S -/
def fn290 : AFun := ⟨2,
(.seq (reg [op 4 (.move (.const (I 0)))])
(.seq (reg [op 5 (.move (.tmp 1)) 1,
  op 6 (.move (.tmp 0)) 1,
  op 7 (bi .len #[(.global 6)] 1) 1,
  op 8 (.binOp .sub 0 (.global 5) (.global 7) 0) 1,
  op 1 (.move (.global 8))])
(.seq (.seq (reg [op 9 (.move (.tmp 1)) 1,
  op 10 (.binOp .lss 0 (.global 9) (.const (I 0)) 0)])
(.cond (.tmp 10)
  (.seq (reg [op 4 (.move (.const (I (-1))))])
  .ret)
  .skip))
(.seq (reg [op 11 (.move (.tmp 1)) 1,
  op 4 (.move (.global 11))])
.ret)))), [(4, 0)]⟩

/-- laws.toInt64S -/
def fn297 : AFun := ⟨1,
(.seq (reg [op 2 (.move (.const (sl 0 0 0 0)))])
(.seq (reg [op 5 (.move (.tmp 0)) 1,
  op 6 (bi .len #[(.global 5)] 1) 1,
  op 7 (.mapUpdate 1 (.global 6) (.global 6) (.const (.agg #[(I 0)]))) 1,
  op 3 (.move (.global 7))])
(.seq (.seq (reg [op 4 (.move (.const (I 0)))])
(.block 0
  (.loop
    (.seq (.seq (reg [op 8 (.move (.tmp 4)) 1,
      op 9 (.move (.tmp 0)) 1,
      op 10 (bi .len #[(.global 9)] 1) 1,
      op 11 (.binOp .lss 0 (.global 8) (.global 10) 0)])
    (.cond (.tmp 11)
      .skip
      (.exit 0)))
    (.seq (.block 1
      (reg [op 14 (.move (.tmp 3)) 1,
        op 15 (.move (.tmp 4)) 1,
        op 16 (.move (.tmp 0)) 1,
        op 17 (.move (.tmp 4)) 1,
        op 18 (.indexAddr 3 (.global 16) (.global 17)) 1,
        op 19 (.load 0 (.global 18)) 1,
        op 20 (.indexAddr 3 (.global 14) (.global 15)) 1,
        opn (.store 1 (.global 20) (.global 19))]))
    (reg [op 12 (.move (.tmp 4)) 1,
      op 13 (.binOp .add 0 (.global 12) (.const (I 1)) 0) 1,
      op 4 (.move (.global 13))]))))))
(.seq (reg [op 21 (.move (.tmp 3)) 1,
  op 2 (.move (.global 21))])
.ret)))), [(2, 0)]⟩

def tab : Tab := [(217, fn217), (207, fn207), (231, fn231), (212, fn212), (235, fn235), (219, fn219), (380, fn380), (87, fn87), (333, fn333), (64, fn64), (399, fn399), (108, fn108), (345, fn345), (78, fn78), (268, fn268), (288, fn288), (281, fn281), (411, fn411), (120, fn120), (296, fn296), (382, fn382), (305, fn305), (89, fn89), (267, fn267), (287, fn287), (280, fn280), (573, fn573), (457, fn457), (572, fn572), (198, fn198), (181, fn181), (581, fn581), (289, fn289), (567, fn567), (183, fn183), (304, fn304), (266, fn266), (432, fn432), (448, fn448), (164, fn164), (166, fn166), (295, fn295), (303, fn303), (265, fn265), (259, fn259), (286, fn286), (282, fn282), (275, fn275), (279, fn279), (290, fn290), (297, fn297)]
def Gam : Nat → Option AFun := look tab
theorem g217 : Gam 217 = some fn217 := rfl
theorem g207 : Gam 207 = some fn207 := rfl
theorem g231 : Gam 231 = some fn231 := rfl
theorem g212 : Gam 212 = some fn212 := rfl
theorem g235 : Gam 235 = some fn235 := rfl
theorem g219 : Gam 219 = some fn219 := rfl
theorem g380 : Gam 380 = some fn380 := rfl
theorem g87 : Gam 87 = some fn87 := rfl
theorem g333 : Gam 333 = some fn333 := rfl
theorem g64 : Gam 64 = some fn64 := rfl
theorem g399 : Gam 399 = some fn399 := rfl
theorem g108 : Gam 108 = some fn108 := rfl
theorem g345 : Gam 345 = some fn345 := rfl
theorem g78 : Gam 78 = some fn78 := rfl
theorem g268 : Gam 268 = some fn268 := rfl
theorem g288 : Gam 288 = some fn288 := rfl
theorem g281 : Gam 281 = some fn281 := rfl
theorem g411 : Gam 411 = some fn411 := rfl
theorem g120 : Gam 120 = some fn120 := rfl
theorem g296 : Gam 296 = some fn296 := rfl
theorem g382 : Gam 382 = some fn382 := rfl
theorem g305 : Gam 305 = some fn305 := rfl
theorem g89 : Gam 89 = some fn89 := rfl
theorem g267 : Gam 267 = some fn267 := rfl
theorem g287 : Gam 287 = some fn287 := rfl
theorem g280 : Gam 280 = some fn280 := rfl
theorem g573 : Gam 573 = some fn573 := rfl
theorem g457 : Gam 457 = some fn457 := rfl
theorem g572 : Gam 572 = some fn572 := rfl
theorem g198 : Gam 198 = some fn198 := rfl
theorem g181 : Gam 181 = some fn181 := rfl
theorem g581 : Gam 581 = some fn581 := rfl
theorem g289 : Gam 289 = some fn289 := rfl
theorem g567 : Gam 567 = some fn567 := rfl
theorem g183 : Gam 183 = some fn183 := rfl
theorem g304 : Gam 304 = some fn304 := rfl
theorem g266 : Gam 266 = some fn266 := rfl
theorem g432 : Gam 432 = some fn432 := rfl
theorem g448 : Gam 448 = some fn448 := rfl
theorem g164 : Gam 164 = some fn164 := rfl
theorem g166 : Gam 166 = some fn166 := rfl
theorem g295 : Gam 295 = some fn295 := rfl
theorem g303 : Gam 303 = some fn303 := rfl
theorem g265 : Gam 265 = some fn265 := rfl
theorem g259 : Gam 259 = some fn259 := rfl
theorem g286 : Gam 286 = some fn286 := rfl
theorem g282 : Gam 282 = some fn282 := rfl
theorem g275 : Gam 275 = some fn275 := rfl
theorem g279 : Gam 279 = some fn279 := rfl
theorem g290 : Gam 290 = some fn290 := rfl
theorem g297 : Gam 297 = some fn297 := rfl
end Am
