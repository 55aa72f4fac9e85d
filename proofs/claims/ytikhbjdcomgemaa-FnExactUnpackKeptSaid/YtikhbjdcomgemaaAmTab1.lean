/- The functions that are reached, in their normal form; written by a program. -/
import Derived.Test.YtikhbjdcomgemaaAmRules
set_option linter.unusedVariables false
set_option maxRecDepth 100000
namespace Am
open Go
/-- laws.FnExactStandardKept -/
def fn243 : AFun := ⟨0,
(.seq (reg [op 0 (.move (.const (B false)))])
(.seq (reg [op 6 (call (.func 422) #[]) 1,
  op 1 (.move (.global 6))])
(.seq (reg [op 7 (call (.func 132) #[]) 1,
  op 2 (.move (.global 7))])
(.seq (.seq (reg [op 8 (.move (.tmp 2)) 1,
  op 9 (.move (.tmp 1)) 1,
  op 10 (call (.func 264) #[(.global 8), (.global 9)]) 1,
  op 11 (.unOp .not 0 (.global 10))])
(.cond (.tmp 11)
  (.seq (reg [op 0 (.move (.const (B false)))])
  .ret)
  .skip))
(.seq (reg [op 3 (.move (.const (I 1)))])
(.seq (reg [op 12 (.move (.tmp 2)) 1,
  op 13 (.move (.tmp 3)) 1,
  op 14 (call (.func 285) #[(.global 12), (.global 13)]) 1,
  op 3 (.move (.global 14))])
(.seq (reg [op 4 (.move (.const (I 1)))])
(.seq (reg [op 15 (.move (.tmp 2)) 1,
  op 16 (.move (.tmp 4)) 1,
  op 17 (call (.func 278) #[(.global 15), (.global 16)]) 1,
  op 4 (.move (.global 17))])
(.seq (.seq (reg [op 18 (.move (.tmp 4)) 1,
  op 19 (.binOp .lss 0 (.global 18) (.const (I 0)) 0)])
(.cond (.tmp 19)
  (.seq (reg [op 0 (.move (.const (B false)))])
  .ret)
  .skip))
(.seq (.seq (reg [op 20 (.move (.tmp 4)) 1,
  op 21 (.move (.tmp 3)) 1,
  op 22 (.binOp .neq 0 (.global 20) (.global 21) 0)])
(.cond (.tmp 22)
  (.seq (reg [op 0 (.move (.const (B false)))])
  .ret)
  .skip))
(.seq (reg [op 23 (call (.func 132) #[]) 1,
  op 5 (.move (.global 23))])
(.seq (.seq (reg [op 24 (.move (.tmp 5)) 1,
  op 25 (.move (.tmp 1)) 1,
  op 26 (call (.func 264) #[(.global 24), (.global 25)]) 1,
  op 27 (.unOp .not 0 (.global 26))])
(.cond (.tmp 27)
  (.seq (reg [op 0 (.move (.const (B false)))])
  .ret)
  .skip))
(.seq (reg [op 4 (.move (.const (I 1)))])
(.seq (reg [op 28 (.move (.tmp 2)) 1,
  op 29 (.move (.tmp 4)) 1,
  op 30 (call (.func 278) #[(.global 28), (.global 29)]) 1,
  op 4 (.move (.global 30))])
(.seq (.seq (reg [op 31 (.move (.tmp 4)) 1,
  op 32 (.binOp .lss 0 (.global 31) (.const (I 0)) 0)])
(.cond (.tmp 32)
  (.seq (reg [op 0 (.move (.const (B false)))])
  .ret)
  .skip))
(.seq (.seq (reg [op 33 (.move (.tmp 4)) 1,
  op 34 (.move (.tmp 3)) 1,
  op 35 (.binOp .neq 0 (.global 33) (.global 34) 0)])
(.cond (.tmp 35)
  (.seq (reg [op 0 (.move (.const (B false)))])
  .ret)
  .skip))
(.seq (reg [op 0 (.move (.const (B true)))])
.ret))))))))))))))))), [(0, 0)]⟩

/-- laws.FnExactValidKept -/
def fn249 : AFun := ⟨1,
(.seq (reg [op 2 (.move (.const (B false)))])
(.seq (reg [op 3 (.move (.const (I 1048576)))])
(.seq (reg [op 7 (.move (.tmp 0)) 1,
  op 8 (.move (.tmp 3)) 1,
  op 9 (call (.func 294) #[(.global 7), (.global 8)]) 1,
  op 3 (.move (.global 9))])
(.seq (.seq (reg [op 10 (.move (.tmp 3)) 1,
  op 11 (.binOp .lss 0 (.global 10) (.const (I 0)) 0)])
(.cond (.tmp 11)
  (.seq (reg [op 2 (.move (.const (B true)))])
  .ret)
  .skip))
(.seq (reg [op 12 (.move (.tmp 0)) 1,
  op 13 (call (.func 302) #[(.global 12)]) 1,
  op 14 (call (.func 428) #[(.global 13)]) 1,
  op 4 (.move (.global 14))])
(.seq (reg [op 15 (.move (.tmp 0)) 1,
  op 16 (call (.func 302) #[(.global 15)]) 1,
  op 5 (.move (.global 16))])
(.seq (reg [op 17 (.move (.tmp 5)) 1,
  op 18 (call (.func 139) #[(.global 17)]) 1,
  op 6 (.move (.global 18))])
(.seq (.seq (reg [op 19 (.move (.tmp 6)) 1,
  op 20 (.move (.tmp 4)) 1,
  op 21 (.binOp .neq 1 (.global 19) (.global 20) 0)])
(.cond (.tmp 21)
  (.seq (reg [op 2 (.move (.const (B false)))])
  .ret)
  .skip))
(.seq (.seq (reg [op 22 (.move (.tmp 5)) 1,
  op 23 (.move (.tmp 0)) 1,
  op 24 (call (.func 302) #[(.global 23)]) 1,
  op 25 (call (.func 264) #[(.global 22), (.global 24)]) 1,
  op 26 (.unOp .not 0 (.global 25))])
(.cond (.tmp 26)
  (.seq (reg [op 2 (.move (.const (B false)))])
  .ret)
  .skip))
(.seq (reg [op 2 (.move (.const (B true)))])
.ret)))))))))), [(2, 0)]⟩

/-- laws.FnExactNameOfPanel -/
def fn226 : AFun := ⟨2,
(.seq (reg [op 3 (.makeChan 3 (.tmp 1)),
  op 4 (.move (.const (B false)))])
(.seq (reg [op 5 (.move (.const (I 1048576)))])
(.seq (reg [op 12 (.move (.tmp 0)) 1,
  op 13 (.move (.tmp 5)) 1,
  op 14 (call (.func 294) #[(.global 12), (.global 13)]) 1,
  op 5 (.move (.global 14))])
(.seq (.seq (reg [op 15 (.move (.tmp 5)) 1,
  op 16 (.binOp .lss 0 (.global 15) (.const (I 0)) 0)])
(.cond (.tmp 16)
  (.seq (reg [op 4 (.move (.const (B true)))])
  .ret)
  .skip))
(.seq (reg [op 17 (.lookup 4 (.tmp 3) (.tmp 3) false) 1,
  op 18 (.move (.tmp 5)) 1,
  op 19 (call (.func 295) #[(.global 17), (.global 18)]) 1,
  op 5 (.move (.global 19))])
(.seq (.seq (reg [op 20 (.move (.tmp 5)) 1,
  op 21 (.binOp .lss 0 (.global 20) (.const (I 0)) 0)])
(.cond (.tmp 21)
  (.seq (reg [op 4 (.move (.const (B true)))])
  .ret)
  .skip))
(.seq (reg [op 23 (.move (.tmp 0)) 1,
  op 24 (call (.func 302) #[(.global 23)]) 1,
  op 25 (.lookup 4 (.tmp 3) (.tmp 3) false) 1,
  op 26 (call (.func 303) #[(.global 25)]) 1,
  op 27 (call (.func 392) #[(.global 24), (.global 26)]) 1,
  op 22 (.move (.global 27)) 1,
  op 28 (.extract (.global 22) 0) 1,
  op 29 (.extract (.global 22) 1) 1,
  op 6 (.move (.global 28)),
  op 7 (.move (.global 29))])
(.seq (reg [op 30 (.move (.tmp 0)) 1,
  op 31 (call (.func 302) #[(.global 30)]) 1,
  op 8 (.move (.global 31))])
(.seq (reg [op 32 (.lookup 4 (.tmp 3) (.tmp 3) false) 1,
  op 33 (call (.func 303) #[(.global 32)]) 1,
  op 9 (.move (.const (.agg #[(I 0), (I 0), (sl 0 0 0 0)]))),
  op 9 (.insert 3 (.tmp 9) (.tmp 9) (.global 33))])
(.seq (reg [op 35 (.move (.tmp 8)) 1,
  op 36 (.lookup 4 (.tmp 9) (.tmp 9) false) 1,
  op 37 (call (.func 99) #[(.global 35), (.global 36)]) 1,
  op 34 (.move (.global 37)) 1,
  op 38 (.extract (.global 34) 0) 1,
  op 39 (.extract (.global 34) 1) 1,
  op 10 (.move (.global 38)),
  op 11 (.move (.global 39))])
(.seq (.seq (reg [op 40 (.move (.tmp 10)) 1,
  op 41 (.move (.tmp 6)) 1,
  op 42 (.binOp .neq 0 (.global 40) (.global 41) 0) 1,
  op 43 (.move (.global 42)) 1,
  op 44 (.move (.tmp 11)) 1 (some (173, false)),
  op 45 (.move (.tmp 7)) 1 (some (173, false)),
  op 46 (.binOp .neq 0 (.global 44) (.global 45) 0) 1 (some (173, false)),
  op 47 (.pick (.global 43) (.const (B true)) (.global 46))])
(.cond (.tmp 47)
  (.seq (reg [op 4 (.move (.const (B false)))])
  .ret)
  .skip))
(.seq (.seq (reg [op 48 (.move (.tmp 8)) 1,
  op 49 (.move (.tmp 0)) 1,
  op 50 (call (.func 302) #[(.global 49)]) 1,
  op 51 (call (.func 264) #[(.global 48), (.global 50)]) 1,
  op 52 (.unOp .not 0 (.global 51))])
(.cond (.tmp 52)
  (.seq (reg [op 4 (.move (.const (B false)))])
  .ret)
  .skip))
(.seq (.seq (reg [op 53 (.lookup 4 (.tmp 9) (.tmp 9) false) 1,
  op 54 (.lookup 4 (.tmp 3) (.tmp 3) false) 1,
  op 55 (call (.func 303) #[(.global 54)]) 1,
  op 56 (call (.func 265) #[(.global 53), (.global 55)]) 1,
  op 57 (.unOp .not 0 (.global 56))])
(.cond (.tmp 57)
  (.seq (reg [op 4 (.move (.const (B false)))])
  .ret)
  .skip))
(.seq (reg [op 4 (.move (.const (B true)))])
.ret)))))))))))))), [(4, 0)]⟩

/-- laws.FnExactPackKept -/
def fn229 : AFun := ⟨1,
(.seq (reg [op 2 (.move (.const (B false)))])
(.seq (reg [op 3 (.move (.const (I 1048576)))])
(.seq (reg [op 9 (.move (.tmp 0)) 1,
  op 10 (.move (.tmp 3)) 1,
  op 11 (call (.func 294) #[(.global 9), (.global 10)]) 1,
  op 3 (.move (.global 11))])
(.seq (.seq (reg [op 12 (.move (.tmp 3)) 1,
  op 13 (.binOp .lss 0 (.global 12) (.const (I 0)) 0)])
(.cond (.tmp 13)
  (.seq (reg [op 2 (.move (.const (B true)))])
  .ret)
  .skip))
(.seq (reg [op 15 (.move (.tmp 0)) 1,
  op 16 (call (.func 302) #[(.global 15)]) 1,
  op 17 (call (.func 397) #[(.global 16)]) 1,
  op 14 (.move (.global 17)) 1,
  op 18 (.extract (.global 14) 0) 1,
  op 19 (.extract (.global 14) 1) 1,
  op 4 (.move (.global 18)),
  op 5 (.move (.global 19))])
(.seq (reg [op 20 (.move (.tmp 0)) 1,
  op 21 (call (.func 302) #[(.global 20)]) 1,
  op 6 (.move (.global 21))])
(.seq (reg [op 23 (.move (.tmp 6)) 1,
  op 24 (call (.func 106) #[(.global 23)]) 1,
  op 22 (.move (.global 24)) 1,
  op 25 (.extract (.global 22) 0) 1,
  op 26 (.extract (.global 22) 1) 1,
  op 7 (.move (.global 25)),
  op 8 (.move (.global 26))])
(.seq (.seq (reg [op 27 (.move (.tmp 7)) 1,
  op 28 (.move (.tmp 4)) 1,
  op 29 (.binOp .neq 0 (.global 27) (.global 28) 0) 1,
  op 30 (.move (.global 29)) 1,
  op 31 (.move (.tmp 8)) 1 (some (121, false)),
  op 32 (.move (.tmp 5)) 1 (some (121, false)),
  op 33 (.binOp .neq 0 (.global 31) (.global 32) 0) 1 (some (121, false)),
  op 34 (.pick (.global 30) (.const (B true)) (.global 33))])
(.cond (.tmp 34)
  (.seq (reg [op 2 (.move (.const (B false)))])
  .ret)
  .skip))
(.seq (.seq (reg [op 35 (.move (.tmp 6)) 1,
  op 36 (.move (.tmp 0)) 1,
  op 37 (call (.func 302) #[(.global 36)]) 1,
  op 38 (call (.func 264) #[(.global 35), (.global 37)]) 1,
  op 39 (.unOp .not 0 (.global 38))])
(.cond (.tmp 39)
  (.seq (reg [op 2 (.move (.const (B false)))])
  .ret)
  .skip))
(.seq (reg [op 2 (.move (.const (B true)))])
.ret)))))))))), [(2, 0)]⟩

/-- laws.FnExactKeptText -/
def fn222 : AFun := ⟨1,
(.seq (reg [op 2 (.move (.const (B false)))])
(.seq (reg [op 3 (.move (.const (I 1048576)))])
(.seq (reg [op 7 (.move (.tmp 0)) 1,
  op 8 (.move (.tmp 3)) 1,
  op 9 (call (.func 294) #[(.global 7), (.global 8)]) 1,
  op 3 (.move (.global 9))])
(.seq (.seq (reg [op 10 (.move (.tmp 3)) 1,
  op 11 (.binOp .lss 0 (.global 10) (.const (I 0)) 0)])
(.cond (.tmp 11)
  (.seq (reg [op 2 (.move (.const (B true)))])
  .ret)
  .skip))
(.seq (reg [op 12 (.move (.tmp 0)) 1,
  op 13 (call (.func 302) #[(.global 12)]) 1,
  op 14 (call (.func 386) #[(.global 13)]) 1,
  op 4 (.move (.global 14))])
(.seq (reg [op 15 (.move (.tmp 0)) 1,
  op 16 (call (.func 302) #[(.global 15)]) 1,
  op 5 (.move (.global 16))])
(.seq (reg [op 17 (.move (.tmp 5)) 1,
  op 18 (call (.func 94) #[(.global 17)]) 1,
  op 6 (.move (.global 18))])
(.seq (.seq (reg [op 19 (.move (.tmp 6)) 1,
  op 20 (.move (.tmp 4)) 1,
  op 21 (.binOp .neq 0 (.global 19) (.global 20) 0)])
(.cond (.tmp 21)
  (.seq (reg [op 2 (.move (.const (B false)))])
  .ret)
  .skip))
(.seq (.seq (reg [op 22 (.move (.tmp 5)) 1,
  op 23 (.move (.tmp 0)) 1,
  op 24 (call (.func 302) #[(.global 23)]) 1,
  op 25 (call (.func 264) #[(.global 22), (.global 24)]) 1,
  op 26 (.unOp .not 0 (.global 25))])
(.cond (.tmp 26)
  (.seq (reg [op 2 (.move (.const (B false)))])
  .ret)
  .skip))
(.seq (reg [op 2 (.move (.const (B true)))])
.ret)))))))))), [(2, 0)]⟩

/-- laws.FnExactKeptNamed -/
def fn221 : AFun := ⟨2,
(.seq (reg [op 4 (.move (.const (B false)))])
(.seq (.seq (reg [op 16 (.move (.tmp 1)) 1,
  op 17 (bi .len #[(.global 16)] 0) 1,
  op 18 (.binOp .gtr 0 (.global 17) (.const (I 1048576)) 0)])
(.cond (.tmp 18)
  (.seq (reg [op 4 (.move (.const (B true)))])
  .ret)
  .skip))
(.seq (reg [op 5 (.move (.const (I 1048576)))])
(.seq (reg [op 19 (.move (.tmp 0)) 1,
  op 20 (.move (.tmp 5)) 1,
  op 21 (call (.func 294) #[(.global 19), (.global 20)]) 1,
  op 5 (.move (.global 21))])
(.seq (.seq (reg [op 22 (.move (.tmp 5)) 1,
  op 23 (.binOp .lss 0 (.global 22) (.const (I 0)) 0)])
(.cond (.tmp 23)
  (.seq (reg [op 4 (.move (.const (B true)))])
  .ret)
  .skip))
(.seq (reg [op 25 (.move (.tmp 0)) 1,
  op 26 (call (.func 302) #[(.global 25)]) 1,
  op 27 (.move (.tmp 1)) 1,
  op 28 (call (.func 385) #[(.global 26), (.global 27)]) 1,
  op 24 (.move (.global 28)) 1,
  op 29 (.extract (.global 24) 0) 1,
  op 30 (.extract (.global 24) 1) 1,
  op 6 (.move (.const (.agg #[(I 0), (I 0), (sl 0 0 0 0)]))),
  op 6 (.insert 3 (.tmp 6) (.tmp 6) (.global 29)),
  op 7 (.move (.global 30))])
(.seq (reg [op 31 (.move (.tmp 0)) 1,
  op 32 (call (.func 302) #[(.global 31)]) 1,
  op 8 (.move (.global 32))])
(.seq (reg [op 34 (.move (.tmp 8)) 1,
  op 35 (.move (.tmp 1)) 1,
  op 36 (call (.func 93) #[(.global 34), (.global 35)]) 1,
  op 33 (.move (.global 36)) 1,
  op 37 (.extract (.global 33) 0) 1,
  op 38 (.extract (.global 33) 1) 1,
  op 9 (.move (.const (.agg #[(I 0), (I 0), (sl 0 0 0 0)]))),
  op 9 (.insert 3 (.tmp 9) (.tmp 9) (.global 37)),
  op 10 (.move (.global 38))])
(.seq (.seq (reg [op 39 (.lookup 4 (.tmp 9) (.tmp 9) false) 1,
  op 40 (.lookup 4 (.tmp 6) (.tmp 6) false) 1,
  op 41 (call (.func 265) #[(.global 39), (.global 40)]) 1,
  op 42 (.unOp .not 0 (.global 41)) 1,
  op 43 (.move (.global 42)) 1,
  op 44 (.move (.tmp 10)) 1 (some (173, false)),
  op 45 (.move (.tmp 7)) 1 (some (173, false)),
  op 46 (.binOp .neq 0 (.global 44) (.global 45) 0) 1 (some (173, false)),
  op 47 (.pick (.global 43) (.const (B true)) (.global 46))])
(.cond (.tmp 47)
  (.seq (reg [op 4 (.move (.const (B false)))])
  .ret)
  .skip))
(.seq (.seq (reg [op 48 (.move (.tmp 8)) 1,
  op 49 (.move (.tmp 0)) 1,
  op 50 (call (.func 302) #[(.global 49)]) 1,
  op 51 (call (.func 264) #[(.global 48), (.global 50)]) 1,
  op 52 (.unOp .not 0 (.global 51))])
(.cond (.tmp 52)
  (.seq (reg [op 4 (.move (.const (B false)))])
  .ret)
  .skip))
(.seq (reg [op 11 (.move (.const (I 1)))])
(.seq (reg [op 53 (.move (.tmp 8)) 1,
  op 54 (.move (.tmp 11)) 1,
  op 55 (call (.func 285) #[(.global 53), (.global 54)]) 1,
  op 11 (.move (.global 55))])
(.seq (.seq (reg [op 56 (.move (.tmp 11)) 1,
  op 57 (.binOp .lss 0 (.global 56) (.const (I 0)) 0) 1,
  op 58 (.move (.global 57)) 1,
  op 59 (.lookup 4 (.tmp 9) (.tmp 9) false) 1 (some (233, false)),
  op 60 (.lookup 4 (.tmp 6) (.tmp 6) false) 1 (some (233, false)),
  op 61 (call (.func 265) #[(.global 59), (.global 60)]) 1 (some (233, false)),
  op 62 (.unOp .not 0 (.global 61)) 1 (some (233, false)),
  op 63 (.pick (.global 58) (.const (B true)) (.global 62)) 1,
  op 64 (.move (.global 63)) 1,
  op 65 (.move (.tmp 10)) 1 (some (257, false)),
  op 66 (.move (.tmp 7)) 1 (some (257, false)),
  op 67 (.binOp .neq 0 (.global 65) (.global 66) 0) 1 (some (257, false)),
  op 68 (.pick (.global 64) (.const (B true)) (.global 67))])
(.cond (.tmp 68)
  (.seq (reg [op 4 (.move (.const (B false)))])
  .ret)
  .skip))
(.seq (reg [op 12 (.move (.const (I 1)))])
(.seq (reg [op 69 (.lookup 4 (.tmp 9) (.tmp 9) false) 1,
  op 70 (.move (.tmp 12)) 1,
  op 71 (call (.func 286) #[(.global 69), (.global 70)]) 1,
  op 12 (.move (.global 71))])
(.seq (reg [op 13 (.move (.const (I 1)))])
(.seq (reg [op 72 (.lookup 4 (.tmp 9) (.tmp 9) false) 1,
  op 73 (.move (.tmp 13)) 1,
  op 74 (call (.func 279) #[(.global 72), (.global 73)]) 1,
  op 13 (.move (.global 74))])
(.seq (.seq (reg [op 75 (.move (.tmp 13)) 1,
  op 76 (.binOp .lss 0 (.global 75) (.const (I 0)) 0)])
(.cond (.tmp 76)
  (.seq (reg [op 4 (.move (.const (B false)))])
  .ret)
  .skip))
(.seq (.seq (reg [op 77 (.move (.tmp 13)) 1,
  op 78 (.move (.tmp 12)) 1,
  op 79 (.binOp .neq 0 (.global 77) (.global 78) 0)])
(.cond (.tmp 79)
  (.seq (reg [op 4 (.move (.const (B false)))])
  .ret)
  .skip))
(.seq (reg [op 81 (.move (.tmp 0)) 1,
  op 82 (call (.func 302) #[(.global 81)]) 1,
  op 83 (.move (.tmp 1)) 1,
  op 84 (call (.func 93) #[(.global 82), (.global 83)]) 1,
  op 80 (.move (.global 84)) 1,
  op 85 (.extract (.global 80) 0) 1,
  op 86 (.extract (.global 80) 1) 1,
  op 14 (.move (.const (.agg #[(I 0), (I 0), (sl 0 0 0 0)]))),
  op 14 (.insert 3 (.tmp 14) (.tmp 14) (.global 85)),
  op 15 (.move (.global 86))])
(.seq (.seq (reg [op 87 (.lookup 4 (.tmp 14) (.tmp 14) false) 1,
  op 88 (.lookup 4 (.tmp 6) (.tmp 6) false) 1,
  op 89 (call (.func 265) #[(.global 87), (.global 88)]) 1,
  op 90 (.unOp .not 0 (.global 89)) 1,
  op 91 (.move (.global 90)) 1,
  op 92 (.move (.tmp 15)) 1 (some (365, false)),
  op 93 (.move (.tmp 7)) 1 (some (365, false)),
  op 94 (.binOp .neq 0 (.global 92) (.global 93) 0) 1 (some (365, false)),
  op 95 (.pick (.global 91) (.const (B true)) (.global 94))])
(.cond (.tmp 95)
  (.seq (reg [op 4 (.move (.const (B false)))])
  .ret)
  .skip))
(.seq (reg [op 13 (.move (.const (I 1)))])
(.seq (reg [op 96 (.lookup 4 (.tmp 9) (.tmp 9) false) 1,
  op 97 (.move (.tmp 13)) 1,
  op 98 (call (.func 279) #[(.global 96), (.global 97)]) 1,
  op 13 (.move (.global 98))])
(.seq (.seq (reg [op 99 (.move (.tmp 13)) 1,
  op 100 (.binOp .lss 0 (.global 99) (.const (I 0)) 0)])
(.cond (.tmp 100)
  (.seq (reg [op 4 (.move (.const (B false)))])
  .ret)
  .skip))
(.seq (.seq (reg [op 101 (.move (.tmp 13)) 1,
  op 102 (.move (.tmp 12)) 1,
  op 103 (.binOp .neq 0 (.global 101) (.global 102) 0)])
(.cond (.tmp 103)
  (.seq (reg [op 4 (.move (.const (B false)))])
  .ret)
  .skip))
(.seq (reg [op 4 (.move (.const (B true)))])
.ret)))))))))))))))))))))))))), [(4, 0)]⟩

/-- laws.FnExactRemoveKept -/
def fn238 : AFun := ⟨2,
(.seq (reg [op 4 (.move (.const (B false)))])
(.seq (.seq (reg [op 16 (.move (.tmp 1)) 1,
  op 17 (bi .len #[(.global 16)] 0) 1,
  op 18 (.binOp .gtr 0 (.global 17) (.const (I 1048576)) 0)])
(.cond (.tmp 18)
  (.seq (reg [op 4 (.move (.const (B true)))])
  .ret)
  .skip))
(.seq (reg [op 5 (.move (.const (I 1048576)))])
(.seq (reg [op 19 (.move (.tmp 0)) 1,
  op 20 (.move (.tmp 5)) 1,
  op 21 (call (.func 294) #[(.global 19), (.global 20)]) 1,
  op 5 (.move (.global 21))])
(.seq (.seq (reg [op 22 (.move (.tmp 5)) 1,
  op 23 (.binOp .lss 0 (.global 22) (.const (I 0)) 0)])
(.cond (.tmp 23)
  (.seq (reg [op 4 (.move (.const (B true)))])
  .ret)
  .skip))
(.seq (reg [op 25 (.move (.tmp 0)) 1,
  op 26 (call (.func 302) #[(.global 25)]) 1,
  op 27 (.move (.tmp 1)) 1,
  op 28 (call (.func 415) #[(.global 26), (.global 27)]) 1,
  op 24 (.move (.global 28)) 1,
  op 29 (.extract (.global 24) 0) 1,
  op 30 (.extract (.global 24) 1) 1,
  op 6 (.move (.global 29)),
  op 7 (.move (.global 30))])
(.seq (reg [op 31 (.move (.tmp 0)) 1,
  op 32 (call (.func 302) #[(.global 31)]) 1,
  op 8 (.move (.global 32))])
(.seq (reg [op 34 (.move (.tmp 8)) 1,
  op 35 (.move (.tmp 1)) 1,
  op 36 (call (.func 124) #[(.global 34), (.global 35)]) 1,
  op 33 (.move (.global 36)) 1,
  op 37 (.extract (.global 33) 0) 1,
  op 38 (.extract (.global 33) 1) 1,
  op 9 (.move (.global 37)),
  op 10 (.move (.global 38))])
(.seq (.seq (reg [op 39 (.move (.tmp 9)) 1,
  op 40 (.move (.tmp 6)) 1,
  op 41 (call (.func 264) #[(.global 39), (.global 40)]) 1,
  op 42 (.unOp .not 0 (.global 41)) 1,
  op 43 (.move (.global 42)) 1,
  op 44 (.move (.tmp 10)) 1 (some (173, false)),
  op 45 (.move (.tmp 7)) 1 (some (173, false)),
  op 46 (.binOp .neq 0 (.global 44) (.global 45) 0) 1 (some (173, false)),
  op 47 (.pick (.global 43) (.const (B true)) (.global 46))])
(.cond (.tmp 47)
  (.seq (reg [op 4 (.move (.const (B false)))])
  .ret)
  .skip))
(.seq (.seq (reg [op 48 (.move (.tmp 8)) 1,
  op 49 (.move (.tmp 0)) 1,
  op 50 (call (.func 302) #[(.global 49)]) 1,
  op 51 (call (.func 264) #[(.global 48), (.global 50)]) 1,
  op 52 (.unOp .not 0 (.global 51))])
(.cond (.tmp 52)
  (.seq (reg [op 4 (.move (.const (B false)))])
  .ret)
  .skip))
(.seq (reg [op 11 (.move (.const (I 1)))])
(.seq (reg [op 53 (.move (.tmp 8)) 1,
  op 54 (.move (.tmp 11)) 1,
  op 55 (call (.func 285) #[(.global 53), (.global 54)]) 1,
  op 11 (.move (.global 55))])
(.seq (.seq (reg [op 56 (.move (.tmp 11)) 1,
  op 57 (.binOp .lss 0 (.global 56) (.const (I 0)) 0) 1,
  op 58 (.move (.global 57)) 1,
  op 59 (.move (.tmp 9)) 1 (some (233, false)),
  op 60 (.move (.tmp 6)) 1 (some (233, false)),
  op 61 (call (.func 264) #[(.global 59), (.global 60)]) 1 (some (233, false)),
  op 62 (.unOp .not 0 (.global 61)) 1 (some (233, false)),
  op 63 (.pick (.global 58) (.const (B true)) (.global 62)) 1,
  op 64 (.move (.global 63)) 1,
  op 65 (.move (.tmp 10)) 1 (some (257, false)),
  op 66 (.move (.tmp 7)) 1 (some (257, false)),
  op 67 (.binOp .neq 0 (.global 65) (.global 66) 0) 1 (some (257, false)),
  op 68 (.pick (.global 64) (.const (B true)) (.global 67))])
(.cond (.tmp 68)
  (.seq (reg [op 4 (.move (.const (B false)))])
  .ret)
  .skip))
(.seq (reg [op 12 (.move (.const (I 1)))])
(.seq (reg [op 69 (.move (.tmp 9)) 1,
  op 70 (.move (.tmp 12)) 1,
  op 71 (call (.func 285) #[(.global 69), (.global 70)]) 1,
  op 12 (.move (.global 71))])
(.seq (reg [op 13 (.move (.const (I 1)))])
(.seq (reg [op 72 (.move (.tmp 9)) 1,
  op 73 (.move (.tmp 13)) 1,
  op 74 (call (.func 278) #[(.global 72), (.global 73)]) 1,
  op 13 (.move (.global 74))])
(.seq (.seq (reg [op 75 (.move (.tmp 13)) 1,
  op 76 (.binOp .lss 0 (.global 75) (.const (I 0)) 0)])
(.cond (.tmp 76)
  (.seq (reg [op 4 (.move (.const (B false)))])
  .ret)
  .skip))
(.seq (.seq (reg [op 77 (.move (.tmp 13)) 1,
  op 78 (.move (.tmp 12)) 1,
  op 79 (.binOp .neq 0 (.global 77) (.global 78) 0)])
(.cond (.tmp 79)
  (.seq (reg [op 4 (.move (.const (B false)))])
  .ret)
  .skip))
(.seq (reg [op 81 (.move (.tmp 0)) 1,
  op 82 (call (.func 302) #[(.global 81)]) 1,
  op 83 (.move (.tmp 1)) 1,
  op 84 (call (.func 124) #[(.global 82), (.global 83)]) 1,
  op 80 (.move (.global 84)) 1,
  op 85 (.extract (.global 80) 0) 1,
  op 86 (.extract (.global 80) 1) 1,
  op 14 (.move (.global 85)),
  op 15 (.move (.global 86))])
(.seq (.seq (reg [op 87 (.move (.tmp 14)) 1,
  op 88 (.move (.tmp 6)) 1,
  op 89 (call (.func 264) #[(.global 87), (.global 88)]) 1,
  op 90 (.unOp .not 0 (.global 89)) 1,
  op 91 (.move (.global 90)) 1,
  op 92 (.move (.tmp 15)) 1 (some (365, false)),
  op 93 (.move (.tmp 7)) 1 (some (365, false)),
  op 94 (.binOp .neq 0 (.global 92) (.global 93) 0) 1 (some (365, false)),
  op 95 (.pick (.global 91) (.const (B true)) (.global 94))])
(.cond (.tmp 95)
  (.seq (reg [op 4 (.move (.const (B false)))])
  .ret)
  .skip))
(.seq (reg [op 13 (.move (.const (I 1)))])
(.seq (reg [op 96 (.move (.tmp 9)) 1,
  op 97 (.move (.tmp 13)) 1,
  op 98 (call (.func 278) #[(.global 96), (.global 97)]) 1,
  op 13 (.move (.global 98))])
(.seq (.seq (reg [op 99 (.move (.tmp 13)) 1,
  op 100 (.binOp .lss 0 (.global 99) (.const (I 0)) 0)])
(.cond (.tmp 100)
  (.seq (reg [op 4 (.move (.const (B false)))])
  .ret)
  .skip))
(.seq (.seq (reg [op 101 (.move (.tmp 13)) 1,
  op 102 (.move (.tmp 12)) 1,
  op 103 (.binOp .neq 0 (.global 101) (.global 102) 0)])
(.cond (.tmp 103)
  (.seq (reg [op 4 (.move (.const (B false)))])
  .ret)
  .skip))
(.seq (reg [op 4 (.move (.const (B true)))])
.ret)))))))))))))))))))))))))), [(4, 0)]⟩

/-- laws.FnExactUnpackKept -/
def fn246 : AFun := ⟨1,
(.seq (reg [op 2 (.move (.const (B false)))])
(.seq (.seq (reg [op 11 (.move (.tmp 0)) 1,
  op 12 (bi .len #[(.global 11)] 0) 1,
  op 13 (.binOp .gtr 0 (.global 12) (.const (I 1048576)) 0)])
(.cond (.tmp 13)
  (.seq (reg [op 2 (.move (.const (B true)))])
  .ret)
  .skip))
(.seq (reg [op 15 (.move (.tmp 0)) 1,
  op 16 (call (.func 425) #[(.global 15)]) 1,
  op 14 (.move (.global 16)) 1,
  op 17 (.extract (.global 14) 0) 1,
  op 18 (.extract (.global 14) 1) 1,
  op 3 (.move (.global 17)),
  op 4 (.move (.global 18))])
(.seq (reg [op 20 (.move (.tmp 0)) 1,
  op 21 (call (.func 135) #[(.global 20)]) 1,
  op 19 (.move (.global 21)) 1,
  op 22 (.extract (.global 19) 0) 1,
  op 23 (.extract (.global 19) 1) 1,
  op 5 (.move (.global 22)),
  op 6 (.move (.global 23))])
(.seq (.seq (reg [op 24 (.move (.tmp 5)) 1,
  op 25 (.move (.tmp 3)) 1,
  op 26 (call (.func 264) #[(.global 24), (.global 25)]) 1,
  op 27 (.unOp .not 0 (.global 26)) 1,
  op 28 (.move (.global 27)) 1,
  op 29 (.move (.tmp 6)) 1 (some (113, false)),
  op 30 (.move (.tmp 4)) 1 (some (113, false)),
  op 31 (.binOp .neq 0 (.global 29) (.global 30) 0) 1 (some (113, false)),
  op 32 (.pick (.global 28) (.const (B true)) (.global 31))])
(.cond (.tmp 32)
  (.seq (reg [op 2 (.move (.const (B false)))])
  .ret)
  .skip))
(.seq (reg [op 7 (.move (.const (I 1)))])
(.seq (reg [op 33 (.move (.tmp 5)) 1,
  op 34 (.move (.tmp 7)) 1,
  op 35 (call (.func 285) #[(.global 33), (.global 34)]) 1,
  op 7 (.move (.global 35))])
(.seq (reg [op 8 (.move (.const (I 1)))])
(.seq (reg [op 36 (.move (.tmp 5)) 1,
  op 37 (.move (.tmp 8)) 1,
  op 38 (call (.func 278) #[(.global 36), (.global 37)]) 1,
  op 8 (.move (.global 38))])
(.seq (.seq (reg [op 39 (.move (.tmp 8)) 1,
  op 40 (.binOp .lss 0 (.global 39) (.const (I 0)) 0)])
(.cond (.tmp 40)
  (.seq (reg [op 2 (.move (.const (B false)))])
  .ret)
  .skip))
(.seq (.seq (reg [op 41 (.move (.tmp 8)) 1,
  op 42 (.move (.tmp 7)) 1,
  op 43 (.binOp .neq 0 (.global 41) (.global 42) 0)])
(.cond (.tmp 43)
  (.seq (reg [op 2 (.move (.const (B false)))])
  .ret)
  .skip))
(.seq (reg [op 45 (.move (.tmp 0)) 1,
  op 46 (call (.func 135) #[(.global 45)]) 1,
  op 44 (.move (.global 46)) 1,
  op 47 (.extract (.global 44) 0) 1,
  op 48 (.extract (.global 44) 1) 1,
  op 9 (.move (.global 47)),
  op 10 (.move (.global 48))])
(.seq (.seq (reg [op 49 (.move (.tmp 9)) 1,
  op 50 (.move (.tmp 3)) 1,
  op 51 (call (.func 264) #[(.global 49), (.global 50)]) 1,
  op 52 (.unOp .not 0 (.global 51)) 1,
  op 53 (.move (.global 52)) 1,
  op 54 (.move (.tmp 10)) 1 (some (213, false)),
  op 55 (.move (.tmp 4)) 1 (some (213, false)),
  op 56 (.binOp .neq 0 (.global 54) (.global 55) 0) 1 (some (213, false)),
  op 57 (.pick (.global 53) (.const (B true)) (.global 56))])
(.cond (.tmp 57)
  (.seq (reg [op 2 (.move (.const (B false)))])
  .ret)
  .skip))
(.seq (reg [op 8 (.move (.const (I 1)))])
(.seq (reg [op 58 (.move (.tmp 5)) 1,
  op 59 (.move (.tmp 8)) 1,
  op 60 (call (.func 278) #[(.global 58), (.global 59)]) 1,
  op 8 (.move (.global 60))])
(.seq (.seq (reg [op 61 (.move (.tmp 8)) 1,
  op 62 (.binOp .lss 0 (.global 61) (.const (I 0)) 0)])
(.cond (.tmp 62)
  (.seq (reg [op 2 (.move (.const (B false)))])
  .ret)
  .skip))
(.seq (.seq (reg [op 63 (.move (.tmp 8)) 1,
  op 64 (.move (.tmp 7)) 1,
  op 65 (.binOp .neq 0 (.global 63) (.global 64) 0)])
(.cond (.tmp 65)
  (.seq (reg [op 2 (.move (.const (B false)))])
  .ret)
  .skip))
(.seq (reg [op 2 (.move (.const (B true)))])
.ret)))))))))))))))))), [(2, 0)]⟩

/-- laws.FnExactKeptWith -/
def fn223 : AFun := ⟨2,
(.seq (reg [op 4 (.move (.const (B false)))])
(.seq (reg [op 5 (.move (.const (I 1048576)))])
(.seq (reg [op 16 (.move (.tmp 0)) 1,
  op 17 (.move (.tmp 5)) 1,
  op 18 (call (.func 294) #[(.global 16), (.global 17)]) 1,
  op 5 (.move (.global 18))])
(.seq (.seq (reg [op 19 (.move (.tmp 5)) 1,
  op 20 (.binOp .lss 0 (.global 19) (.const (I 0)) 0)])
(.cond (.tmp 20)
  (.seq (reg [op 4 (.move (.const (B true)))])
  .ret)
  .skip))
(.seq (reg [op 22 (.move (.tmp 0)) 1,
  op 23 (call (.func 302) #[(.global 22)]) 1,
  op 24 (.move (.tmp 1)) 1,
  op 25 (call (.func 387) #[(.global 23), (.global 24)]) 1,
  op 21 (.move (.global 25)) 1,
  op 26 (.extract (.global 21) 0) 1,
  op 27 (.extract (.global 21) 1) 1,
  op 6 (.move (.global 26)),
  op 7 (.move (.global 27))])
(.seq (reg [op 28 (.move (.tmp 0)) 1,
  op 29 (call (.func 302) #[(.global 28)]) 1,
  op 8 (.move (.global 29))])
(.seq (reg [op 31 (.move (.tmp 8)) 1,
  op 32 (.move (.tmp 1)) 1,
  op 33 (call (.func 95) #[(.global 31), (.global 32)]) 1,
  op 30 (.move (.global 33)) 1,
  op 34 (.extract (.global 30) 0) 1,
  op 35 (.extract (.global 30) 1) 1,
  op 9 (.move (.global 34)),
  op 10 (.move (.global 35))])
(.seq (.seq (reg [op 36 (.move (.tmp 9)) 1,
  op 37 (.move (.tmp 6)) 1,
  op 38 (call (.func 268) #[(.global 36), (.global 37)]) 1,
  op 39 (.unOp .not 0 (.global 38)) 1,
  op 40 (.move (.global 39)) 1,
  op 41 (.move (.tmp 10)) 1 (some (161, false)),
  op 42 (.move (.tmp 7)) 1 (some (161, false)),
  op 43 (.binOp .neq 0 (.global 41) (.global 42) 0) 1 (some (161, false)),
  op 44 (.pick (.global 40) (.const (B true)) (.global 43))])
(.cond (.tmp 44)
  (.seq (reg [op 4 (.move (.const (B false)))])
  .ret)
  .skip))
(.seq (.seq (reg [op 45 (.move (.tmp 8)) 1,
  op 46 (.move (.tmp 0)) 1,
  op 47 (call (.func 302) #[(.global 46)]) 1,
  op 48 (call (.func 264) #[(.global 45), (.global 47)]) 1,
  op 49 (.unOp .not 0 (.global 48))])
(.cond (.tmp 49)
  (.seq (reg [op 4 (.move (.const (B false)))])
  .ret)
  .skip))
(.seq (reg [op 11 (.move (.const (I 1)))])
(.seq (reg [op 50 (.move (.tmp 8)) 1,
  op 51 (.move (.tmp 11)) 1,
  op 52 (call (.func 285) #[(.global 50), (.global 51)]) 1,
  op 11 (.move (.global 52))])
(.seq (.seq (reg [op 53 (.move (.tmp 11)) 1,
  op 54 (.binOp .lss 0 (.global 53) (.const (I 0)) 0) 1,
  op 55 (.move (.global 54)) 1,
  op 56 (.move (.tmp 9)) 1 (some (221, false)),
  op 57 (.move (.tmp 6)) 1 (some (221, false)),
  op 58 (call (.func 268) #[(.global 56), (.global 57)]) 1 (some (221, false)),
  op 59 (.unOp .not 0 (.global 58)) 1 (some (221, false)),
  op 60 (.pick (.global 55) (.const (B true)) (.global 59)) 1,
  op 61 (.move (.global 60)) 1,
  op 62 (.move (.tmp 10)) 1 (some (245, false)),
  op 63 (.move (.tmp 7)) 1 (some (245, false)),
  op 64 (.binOp .neq 0 (.global 62) (.global 63) 0) 1 (some (245, false)),
  op 65 (.pick (.global 61) (.const (B true)) (.global 64))])
(.cond (.tmp 65)
  (.seq (reg [op 4 (.move (.const (B false)))])
  .ret)
  .skip))
(.seq (reg [op 12 (.move (.const (I 1)))])
(.seq (reg [op 66 (.move (.tmp 9)) 1,
  op 67 (.move (.tmp 12)) 1,
  op 68 (call (.func 288) #[(.global 66), (.global 67)]) 1,
  op 12 (.move (.global 68))])
(.seq (reg [op 13 (.move (.const (I 1)))])
(.seq (reg [op 69 (.move (.tmp 9)) 1,
  op 70 (.move (.tmp 13)) 1,
  op 71 (call (.func 281) #[(.global 69), (.global 70)]) 1,
  op 13 (.move (.global 71))])
(.seq (.seq (reg [op 72 (.move (.tmp 13)) 1,
  op 73 (.binOp .lss 0 (.global 72) (.const (I 0)) 0)])
(.cond (.tmp 73)
  (.seq (reg [op 4 (.move (.const (B false)))])
  .ret)
  .skip))
(.seq (.seq (reg [op 74 (.move (.tmp 13)) 1,
  op 75 (.move (.tmp 12)) 1,
  op 76 (.binOp .neq 0 (.global 74) (.global 75) 0)])
(.cond (.tmp 76)
  (.seq (reg [op 4 (.move (.const (B false)))])
  .ret)
  .skip))
(.seq (reg [op 78 (.move (.tmp 0)) 1,
  op 79 (call (.func 302) #[(.global 78)]) 1,
  op 80 (.move (.tmp 1)) 1,
  op 81 (call (.func 95) #[(.global 79), (.global 80)]) 1,
  op 77 (.move (.global 81)) 1,
  op 82 (.extract (.global 77) 0) 1,
  op 83 (.extract (.global 77) 1) 1,
  op 14 (.move (.global 82)),
  op 15 (.move (.global 83))])
(.seq (.seq (reg [op 84 (.move (.tmp 14)) 1,
  op 85 (.move (.tmp 6)) 1,
  op 86 (call (.func 268) #[(.global 84), (.global 85)]) 1,
  op 87 (.unOp .not 0 (.global 86)) 1,
  op 88 (.move (.global 87)) 1,
  op 89 (.move (.tmp 15)) 1 (some (353, false)),
  op 90 (.move (.tmp 7)) 1 (some (353, false)),
  op 91 (.binOp .neq 0 (.global 89) (.global 90) 0) 1 (some (353, false)),
  op 92 (.pick (.global 88) (.const (B true)) (.global 91))])
(.cond (.tmp 92)
  (.seq (reg [op 4 (.move (.const (B false)))])
  .ret)
  .skip))
(.seq (reg [op 13 (.move (.const (I 1)))])
(.seq (reg [op 93 (.move (.tmp 9)) 1,
  op 94 (.move (.tmp 13)) 1,
  op 95 (call (.func 281) #[(.global 93), (.global 94)]) 1,
  op 13 (.move (.global 95))])
(.seq (.seq (reg [op 96 (.move (.tmp 13)) 1,
  op 97 (.binOp .lss 0 (.global 96) (.const (I 0)) 0)])
(.cond (.tmp 97)
  (.seq (reg [op 4 (.move (.const (B false)))])
  .ret)
  .skip))
(.seq (.seq (reg [op 98 (.move (.tmp 13)) 1,
  op 99 (.move (.tmp 12)) 1,
  op 100 (.binOp .neq 0 (.global 98) (.global 99) 0)])
(.cond (.tmp 100)
  (.seq (reg [op 4 (.move (.const (B false)))])
  .ret)
  .skip))
(.seq (reg [op 4 (.move (.const (B true)))])
.ret))))))))))))))))))))))))), [(4, 0)]⟩

/-- laws.FnExactReadKept -/
def fn236 : AFun := ⟨1,
(.seq (reg [op 2 (.move (.const (B false)))])
(.seq (.seq (reg [op 11 (.move (.tmp 0)) 1,
  op 12 (bi .len #[(.global 11)] 0) 1,
  op 13 (.binOp .gtr 0 (.global 12) (.const (I 1048576)) 0)])
(.cond (.tmp 13)
  (.seq (reg [op 2 (.move (.const (B true)))])
  .ret)
  .skip))
(.seq (reg [op 15 (.move (.tmp 0)) 1,
  op 16 (call (.func 412) #[(.global 15)]) 1,
  op 14 (.move (.global 16)) 1,
  op 17 (.extract (.global 14) 0) 1,
  op 18 (.extract (.global 14) 1) 1,
  op 3 (.move (.global 17)),
  op 4 (.move (.global 18))])
(.seq (reg [op 20 (.move (.tmp 0)) 1,
  op 21 (call (.func 121) #[(.global 20)]) 1,
  op 19 (.move (.global 21)) 1,
  op 22 (.extract (.global 19) 0) 1,
  op 23 (.extract (.global 19) 1) 1,
  op 5 (.move (.global 22)),
  op 6 (.move (.global 23))])
(.seq (.seq (reg [op 24 (.move (.tmp 5)) 1,
  op 25 (.move (.tmp 3)) 1,
  op 26 (call (.func 264) #[(.global 24), (.global 25)]) 1,
  op 27 (.unOp .not 0 (.global 26)) 1,
  op 28 (.move (.global 27)) 1,
  op 29 (.move (.tmp 6)) 1 (some (113, false)),
  op 30 (.move (.tmp 4)) 1 (some (113, false)),
  op 31 (.binOp .neq 1 (.global 29) (.global 30) 0) 1 (some (113, false)),
  op 32 (.pick (.global 28) (.const (B true)) (.global 31))])
(.cond (.tmp 32)
  (.seq (reg [op 2 (.move (.const (B false)))])
  .ret)
  .skip))
(.seq (reg [op 7 (.move (.const (I 1)))])
(.seq (reg [op 33 (.move (.tmp 5)) 1,
  op 34 (.move (.tmp 7)) 1,
  op 35 (call (.func 285) #[(.global 33), (.global 34)]) 1,
  op 7 (.move (.global 35))])
(.seq (reg [op 8 (.move (.const (I 1)))])
(.seq (reg [op 36 (.move (.tmp 5)) 1,
  op 37 (.move (.tmp 8)) 1,
  op 38 (call (.func 278) #[(.global 36), (.global 37)]) 1,
  op 8 (.move (.global 38))])
(.seq (.seq (reg [op 39 (.move (.tmp 8)) 1,
  op 40 (.binOp .lss 0 (.global 39) (.const (I 0)) 0)])
(.cond (.tmp 40)
  (.seq (reg [op 2 (.move (.const (B false)))])
  .ret)
  .skip))
(.seq (.seq (reg [op 41 (.move (.tmp 8)) 1,
  op 42 (.move (.tmp 7)) 1,
  op 43 (.binOp .neq 0 (.global 41) (.global 42) 0)])
(.cond (.tmp 43)
  (.seq (reg [op 2 (.move (.const (B false)))])
  .ret)
  .skip))
(.seq (reg [op 45 (.move (.tmp 0)) 1,
  op 46 (call (.func 121) #[(.global 45)]) 1,
  op 44 (.move (.global 46)) 1,
  op 47 (.extract (.global 44) 0) 1,
  op 48 (.extract (.global 44) 1) 1,
  op 9 (.move (.global 47)),
  op 10 (.move (.global 48))])
(.seq (.seq (reg [op 49 (.move (.tmp 9)) 1,
  op 50 (.move (.tmp 3)) 1,
  op 51 (call (.func 264) #[(.global 49), (.global 50)]) 1,
  op 52 (.unOp .not 0 (.global 51)) 1,
  op 53 (.move (.global 52)) 1,
  op 54 (.move (.tmp 10)) 1 (some (213, false)),
  op 55 (.move (.tmp 4)) 1 (some (213, false)),
  op 56 (.binOp .neq 1 (.global 54) (.global 55) 0) 1 (some (213, false)),
  op 57 (.pick (.global 53) (.const (B true)) (.global 56))])
(.cond (.tmp 57)
  (.seq (reg [op 2 (.move (.const (B false)))])
  .ret)
  .skip))
(.seq (reg [op 8 (.move (.const (I 1)))])
(.seq (reg [op 58 (.move (.tmp 5)) 1,
  op 59 (.move (.tmp 8)) 1,
  op 60 (call (.func 278) #[(.global 58), (.global 59)]) 1,
  op 8 (.move (.global 60))])
(.seq (.seq (reg [op 61 (.move (.tmp 8)) 1,
  op 62 (.binOp .lss 0 (.global 61) (.const (I 0)) 0)])
(.cond (.tmp 62)
  (.seq (reg [op 2 (.move (.const (B false)))])
  .ret)
  .skip))
(.seq (.seq (reg [op 63 (.move (.tmp 8)) 1,
  op 64 (.move (.tmp 7)) 1,
  op 65 (.binOp .neq 0 (.global 63) (.global 64) 0)])
(.cond (.tmp 65)
  (.seq (reg [op 2 (.move (.const (B false)))])
  .ret)
  .skip))
(.seq (reg [op 2 (.move (.const (B true)))])
.ret)))))))))))))))))), [(2, 0)]⟩

/-- laws.FnExactAddKept -/
def fn205 : AFun := ⟨3,
(.seq (reg [op 5 (.makeChan 3 (.tmp 2)),
  op 6 (.move (.const (B false)))])
(.seq (.seq (reg [op 19 (.move (.tmp 1)) 1,
  op 20 (bi .len #[(.global 19)] 0) 1,
  op 21 (.binOp .gtr 0 (.global 20) (.const (I 1048576)) 0)])
(.cond (.tmp 21)
  (.seq (reg [op 6 (.move (.const (B true)))])
  .ret)
  .skip))
(.seq (reg [op 7 (.move (.const (I 1048576)))])
(.seq (reg [op 22 (.move (.tmp 0)) 1,
  op 23 (.move (.tmp 7)) 1,
  op 24 (call (.func 294) #[(.global 22), (.global 23)]) 1,
  op 7 (.move (.global 24))])
(.seq (.seq (reg [op 25 (.move (.tmp 7)) 1,
  op 26 (.binOp .lss 0 (.global 25) (.const (I 0)) 0)])
(.cond (.tmp 26)
  (.seq (reg [op 6 (.move (.const (B true)))])
  .ret)
  .skip))
(.seq (reg [op 27 (.lookup 4 (.tmp 5) (.tmp 5) false) 1,
  op 28 (.move (.tmp 7)) 1,
  op 29 (call (.func 295) #[(.global 27), (.global 28)]) 1,
  op 7 (.move (.global 29))])
(.seq (.seq (reg [op 30 (.move (.tmp 7)) 1,
  op 31 (.binOp .lss 0 (.global 30) (.const (I 0)) 0)])
(.cond (.tmp 31)
  (.seq (reg [op 6 (.move (.const (B true)))])
  .ret)
  .skip))
(.seq (reg [op 33 (.move (.tmp 0)) 1,
  op 34 (call (.func 302) #[(.global 33)]) 1,
  op 35 (.move (.tmp 1)) 1,
  op 36 (.lookup 4 (.tmp 5) (.tmp 5) false) 1,
  op 37 (call (.func 303) #[(.global 36)]) 1,
  op 38 (call (.func 329) #[(.global 34), (.global 35), (.global 37)]) 1,
  op 32 (.move (.global 38)) 1,
  op 39 (.extract (.global 32) 0) 1,
  op 40 (.extract (.global 32) 1) 1,
  op 8 (.move (.global 39)),
  op 9 (.move (.global 40))])
(.seq (reg [op 41 (.move (.tmp 0)) 1,
  op 42 (call (.func 302) #[(.global 41)]) 1,
  op 10 (.move (.global 42))])
(.seq (reg [op 43 (.lookup 4 (.tmp 5) (.tmp 5) false) 1,
  op 44 (call (.func 303) #[(.global 43)]) 1,
  op 11 (.move (.const (.agg #[(I 0), (I 0), (sl 0 0 0 0)]))),
  op 11 (.insert 3 (.tmp 11) (.tmp 11) (.global 44))])
(.seq (reg [op 46 (.move (.tmp 10)) 1,
  op 47 (.move (.tmp 1)) 1,
  op 48 (.lookup 4 (.tmp 11) (.tmp 11) false) 1,
  op 49 (call (.func 61) #[(.global 46), (.global 47), (.global 48)]) 1,
  op 45 (.move (.global 49)) 1,
  op 50 (.extract (.global 45) 0) 1,
  op 51 (.extract (.global 45) 1) 1,
  op 12 (.move (.global 50)),
  op 13 (.move (.global 51))])
(.seq (.seq (reg [op 52 (.move (.tmp 12)) 1,
  op 53 (.move (.tmp 8)) 1,
  op 54 (call (.func 264) #[(.global 52), (.global 53)]) 1,
  op 55 (.unOp .not 0 (.global 54)) 1,
  op 56 (.move (.global 55)) 1,
  op 57 (.move (.tmp 13)) 1 (some (225, false)),
  op 58 (.move (.tmp 9)) 1 (some (225, false)),
  op 59 (.binOp .neq 0 (.global 57) (.global 58) 0) 1 (some (225, false)),
  op 60 (.pick (.global 56) (.const (B true)) (.global 59))])
(.cond (.tmp 60)
  (.seq (reg [op 6 (.move (.const (B false)))])
  .ret)
  .skip))
(.seq (.seq (reg [op 61 (.move (.tmp 10)) 1,
  op 62 (.move (.tmp 0)) 1,
  op 63 (call (.func 302) #[(.global 62)]) 1,
  op 64 (call (.func 264) #[(.global 61), (.global 63)]) 1,
  op 65 (.unOp .not 0 (.global 64))])
(.cond (.tmp 65)
  (.seq (reg [op 6 (.move (.const (B false)))])
  .ret)
  .skip))
(.seq (.seq (reg [op 66 (.lookup 4 (.tmp 11) (.tmp 11) false) 1,
  op 67 (.lookup 4 (.tmp 5) (.tmp 5) false) 1,
  op 68 (call (.func 303) #[(.global 67)]) 1,
  op 69 (call (.func 265) #[(.global 66), (.global 68)]) 1,
  op 70 (.unOp .not 0 (.global 69))])
(.cond (.tmp 70)
  (.seq (reg [op 6 (.move (.const (B false)))])
  .ret)
  .skip))
(.seq (reg [op 14 (.move (.const (I 1)))])
(.seq (reg [op 71 (.move (.tmp 10)) 1,
  op 72 (.move (.tmp 14)) 1,
  op 73 (call (.func 285) #[(.global 71), (.global 72)]) 1,
  op 14 (.move (.global 73))])
(.seq (reg [op 74 (.lookup 4 (.tmp 11) (.tmp 11) false) 1,
  op 75 (.move (.tmp 14)) 1,
  op 76 (call (.func 286) #[(.global 74), (.global 75)]) 1,
  op 14 (.move (.global 76))])
(.seq (.seq (reg [op 77 (.move (.tmp 14)) 1,
  op 78 (.binOp .lss 0 (.global 77) (.const (I 0)) 0) 1,
  op 79 (.move (.global 78)) 1,
  op 80 (.move (.tmp 12)) 1 (some (317, false)),
  op 81 (.move (.tmp 8)) 1 (some (317, false)),
  op 82 (call (.func 264) #[(.global 80), (.global 81)]) 1 (some (317, false)),
  op 83 (.unOp .not 0 (.global 82)) 1 (some (317, false)),
  op 84 (.pick (.global 79) (.const (B true)) (.global 83)) 1,
  op 85 (.move (.global 84)) 1,
  op 86 (.move (.tmp 13)) 1 (some (341, false)),
  op 87 (.move (.tmp 9)) 1 (some (341, false)),
  op 88 (.binOp .neq 0 (.global 86) (.global 87) 0) 1 (some (341, false)),
  op 89 (.pick (.global 85) (.const (B true)) (.global 88))])
(.cond (.tmp 89)
  (.seq (reg [op 6 (.move (.const (B false)))])
  .ret)
  .skip))
(.seq (reg [op 15 (.move (.const (I 1)))])
(.seq (reg [op 90 (.move (.tmp 12)) 1,
  op 91 (.move (.tmp 15)) 1,
  op 92 (call (.func 285) #[(.global 90), (.global 91)]) 1,
  op 15 (.move (.global 92))])
(.seq (reg [op 16 (.move (.const (I 1)))])
(.seq (reg [op 93 (.move (.tmp 12)) 1,
  op 94 (.move (.tmp 16)) 1,
  op 95 (call (.func 278) #[(.global 93), (.global 94)]) 1,
  op 16 (.move (.global 95))])
(.seq (.seq (reg [op 96 (.move (.tmp 16)) 1,
  op 97 (.binOp .lss 0 (.global 96) (.const (I 0)) 0)])
(.cond (.tmp 97)
  (.seq (reg [op 6 (.move (.const (B false)))])
  .ret)
  .skip))
(.seq (.seq (reg [op 98 (.move (.tmp 16)) 1,
  op 99 (.move (.tmp 15)) 1,
  op 100 (.binOp .neq 0 (.global 98) (.global 99) 0)])
(.cond (.tmp 100)
  (.seq (reg [op 6 (.move (.const (B false)))])
  .ret)
  .skip))
(.seq (reg [op 102 (.move (.tmp 0)) 1,
  op 103 (call (.func 302) #[(.global 102)]) 1,
  op 104 (.move (.tmp 1)) 1,
  op 105 (.lookup 4 (.tmp 5) (.tmp 5) false) 1,
  op 106 (call (.func 303) #[(.global 105)]) 1,
  op 107 (call (.func 61) #[(.global 103), (.global 104), (.global 106)]) 1,
  op 101 (.move (.global 107)) 1,
  op 108 (.extract (.global 101) 0) 1,
  op 109 (.extract (.global 101) 1) 1,
  op 17 (.move (.global 108)),
  op 18 (.move (.global 109))])
(.seq (.seq (reg [op 110 (.move (.tmp 17)) 1,
  op 111 (.move (.tmp 8)) 1,
  op 112 (call (.func 264) #[(.global 110), (.global 111)]) 1,
  op 113 (.unOp .not 0 (.global 112)) 1,
  op 114 (.move (.global 113)) 1,
  op 115 (.move (.tmp 18)) 1 (some (457, false)),
  op 116 (.move (.tmp 9)) 1 (some (457, false)),
  op 117 (.binOp .neq 0 (.global 115) (.global 116) 0) 1 (some (457, false)),
  op 118 (.pick (.global 114) (.const (B true)) (.global 117))])
(.cond (.tmp 118)
  (.seq (reg [op 6 (.move (.const (B false)))])
  .ret)
  .skip))
(.seq (reg [op 16 (.move (.const (I 1)))])
(.seq (reg [op 119 (.move (.tmp 12)) 1,
  op 120 (.move (.tmp 16)) 1,
  op 121 (call (.func 278) #[(.global 119), (.global 120)]) 1,
  op 16 (.move (.global 121))])
(.seq (.seq (reg [op 122 (.move (.tmp 16)) 1,
  op 123 (.binOp .lss 0 (.global 122) (.const (I 0)) 0)])
(.cond (.tmp 123)
  (.seq (reg [op 6 (.move (.const (B false)))])
  .ret)
  .skip))
(.seq (.seq (reg [op 124 (.move (.tmp 16)) 1,
  op 125 (.move (.tmp 15)) 1,
  op 126 (.binOp .neq 0 (.global 124) (.global 125) 0)])
(.cond (.tmp 126)
  (.seq (reg [op 6 (.move (.const (B false)))])
  .ret)
  .skip))
(.seq (reg [op 6 (.move (.const (B true)))])
.ret))))))))))))))))))))))))))))))), [(6, 0)]⟩

/-- laws.FnExactMergeKept -/
def fn224 : AFun := ⟨2,
(.seq (reg [op 4 (.move (.const (B false)))])
(.seq (reg [op 5 (.move (.const (I 1048576)))])
(.seq (reg [op 17 (.move (.tmp 0)) 1,
  op 18 (.move (.tmp 5)) 1,
  op 19 (call (.func 294) #[(.global 17), (.global 18)]) 1,
  op 5 (.move (.global 19))])
(.seq (.seq (reg [op 20 (.move (.tmp 5)) 1,
  op 21 (.binOp .lss 0 (.global 20) (.const (I 0)) 0)])
(.cond (.tmp 21)
  (.seq (reg [op 4 (.move (.const (B true)))])
  .ret)
  .skip))
(.seq (reg [op 22 (.move (.tmp 1)) 1,
  op 23 (.move (.tmp 5)) 1,
  op 24 (call (.func 294) #[(.global 22), (.global 23)]) 1,
  op 5 (.move (.global 24))])
(.seq (.seq (reg [op 25 (.move (.tmp 5)) 1,
  op 26 (.binOp .lss 0 (.global 25) (.const (I 0)) 0)])
(.cond (.tmp 26)
  (.seq (reg [op 4 (.move (.const (B true)))])
  .ret)
  .skip))
(.seq (reg [op 28 (.move (.tmp 0)) 1,
  op 29 (call (.func 302) #[(.global 28)]) 1,
  op 30 (.move (.tmp 1)) 1,
  op 31 (call (.func 302) #[(.global 30)]) 1,
  op 32 (call (.func 390) #[(.global 29), (.global 31)]) 1,
  op 27 (.move (.global 32)) 1,
  op 33 (.extract (.global 27) 0) 1,
  op 34 (.extract (.global 27) 1) 1,
  op 6 (.move (.global 33)),
  op 7 (.move (.global 34))])
(.seq (reg [op 35 (.move (.tmp 0)) 1,
  op 36 (call (.func 302) #[(.global 35)]) 1,
  op 8 (.move (.global 36))])
(.seq (reg [op 37 (.move (.tmp 1)) 1,
  op 38 (call (.func 302) #[(.global 37)]) 1,
  op 9 (.move (.global 38))])
(.seq (reg [op 40 (.move (.tmp 8)) 1,
  op 41 (.move (.tmp 9)) 1,
  op 42 (call (.func 97) #[(.global 40), (.global 41)]) 1,
  op 39 (.move (.global 42)) 1,
  op 43 (.extract (.global 39) 0) 1,
  op 44 (.extract (.global 39) 1) 1,
  op 10 (.move (.global 43)),
  op 11 (.move (.global 44))])
(.seq (.seq (reg [op 45 (.move (.tmp 10)) 1,
  op 46 (.move (.tmp 6)) 1,
  op 47 (call (.func 264) #[(.global 45), (.global 46)]) 1,
  op 48 (.unOp .not 0 (.global 47)) 1,
  op 49 (.move (.global 48)) 1,
  op 50 (.move (.tmp 11)) 1 (some (197, false)),
  op 51 (.move (.tmp 7)) 1 (some (197, false)),
  op 52 (.binOp .neq 0 (.global 50) (.global 51) 0) 1 (some (197, false)),
  op 53 (.pick (.global 49) (.const (B true)) (.global 52))])
(.cond (.tmp 53)
  (.seq (reg [op 4 (.move (.const (B false)))])
  .ret)
  .skip))
(.seq (.seq (reg [op 54 (.move (.tmp 8)) 1,
  op 55 (.move (.tmp 0)) 1,
  op 56 (call (.func 302) #[(.global 55)]) 1,
  op 57 (call (.func 264) #[(.global 54), (.global 56)]) 1,
  op 58 (.unOp .not 0 (.global 57))])
(.cond (.tmp 58)
  (.seq (reg [op 4 (.move (.const (B false)))])
  .ret)
  .skip))
(.seq (.seq (reg [op 59 (.move (.tmp 9)) 1,
  op 60 (.move (.tmp 1)) 1,
  op 61 (call (.func 302) #[(.global 60)]) 1,
  op 62 (call (.func 264) #[(.global 59), (.global 61)]) 1,
  op 63 (.unOp .not 0 (.global 62))])
(.cond (.tmp 63)
  (.seq (reg [op 4 (.move (.const (B false)))])
  .ret)
  .skip))
(.seq (reg [op 12 (.move (.const (I 1)))])
(.seq (reg [op 64 (.move (.tmp 8)) 1,
  op 65 (.move (.tmp 12)) 1,
  op 66 (call (.func 285) #[(.global 64), (.global 65)]) 1,
  op 12 (.move (.global 66))])
(.seq (reg [op 67 (.move (.tmp 9)) 1,
  op 68 (.move (.tmp 12)) 1,
  op 69 (call (.func 285) #[(.global 67), (.global 68)]) 1,
  op 12 (.move (.global 69))])
(.seq (.seq (reg [op 70 (.move (.tmp 12)) 1,
  op 71 (.binOp .lss 0 (.global 70) (.const (I 0)) 0) 1,
  op 72 (.move (.global 71)) 1,
  op 73 (.move (.tmp 10)) 1 (some (289, false)),
  op 74 (.move (.tmp 6)) 1 (some (289, false)),
  op 75 (call (.func 264) #[(.global 73), (.global 74)]) 1 (some (289, false)),
  op 76 (.unOp .not 0 (.global 75)) 1 (some (289, false)),
  op 77 (.pick (.global 72) (.const (B true)) (.global 76)) 1,
  op 78 (.move (.global 77)) 1,
  op 79 (.move (.tmp 11)) 1 (some (313, false)),
  op 80 (.move (.tmp 7)) 1 (some (313, false)),
  op 81 (.binOp .neq 0 (.global 79) (.global 80) 0) 1 (some (313, false)),
  op 82 (.pick (.global 78) (.const (B true)) (.global 81))])
(.cond (.tmp 82)
  (.seq (reg [op 4 (.move (.const (B false)))])
  .ret)
  .skip))
(.seq (reg [op 13 (.move (.const (I 1)))])
(.seq (reg [op 83 (.move (.tmp 10)) 1,
  op 84 (.move (.tmp 13)) 1,
  op 85 (call (.func 285) #[(.global 83), (.global 84)]) 1,
  op 13 (.move (.global 85))])
(.seq (reg [op 14 (.move (.const (I 1)))])
(.seq (reg [op 86 (.move (.tmp 10)) 1,
  op 87 (.move (.tmp 14)) 1,
  op 88 (call (.func 278) #[(.global 86), (.global 87)]) 1,
  op 14 (.move (.global 88))])
(.seq (.seq (reg [op 89 (.move (.tmp 14)) 1,
  op 90 (.binOp .lss 0 (.global 89) (.const (I 0)) 0)])
(.cond (.tmp 90)
  (.seq (reg [op 4 (.move (.const (B false)))])
  .ret)
  .skip))
(.seq (.seq (reg [op 91 (.move (.tmp 14)) 1,
  op 92 (.move (.tmp 13)) 1,
  op 93 (.binOp .neq 0 (.global 91) (.global 92) 0)])
(.cond (.tmp 93)
  (.seq (reg [op 4 (.move (.const (B false)))])
  .ret)
  .skip))
(.seq (reg [op 95 (.move (.tmp 0)) 1,
  op 96 (call (.func 302) #[(.global 95)]) 1,
  op 97 (.move (.tmp 1)) 1,
  op 98 (call (.func 302) #[(.global 97)]) 1,
  op 99 (call (.func 97) #[(.global 96), (.global 98)]) 1,
  op 94 (.move (.global 99)) 1,
  op 100 (.extract (.global 94) 0) 1,
  op 101 (.extract (.global 94) 1) 1,
  op 15 (.move (.global 100)),
  op 16 (.move (.global 101))])
(.seq (.seq (reg [op 102 (.move (.tmp 15)) 1,
  op 103 (.move (.tmp 6)) 1,
  op 104 (call (.func 264) #[(.global 102), (.global 103)]) 1,
  op 105 (.unOp .not 0 (.global 104)) 1,
  op 106 (.move (.global 105)) 1,
  op 107 (.move (.tmp 16)) 1 (some (425, false)),
  op 108 (.move (.tmp 7)) 1 (some (425, false)),
  op 109 (.binOp .neq 0 (.global 107) (.global 108) 0) 1 (some (425, false)),
  op 110 (.pick (.global 106) (.const (B true)) (.global 109))])
(.cond (.tmp 110)
  (.seq (reg [op 4 (.move (.const (B false)))])
  .ret)
  .skip))
(.seq (reg [op 14 (.move (.const (I 1)))])
(.seq (reg [op 111 (.move (.tmp 10)) 1,
  op 112 (.move (.tmp 14)) 1,
  op 113 (call (.func 278) #[(.global 111), (.global 112)]) 1,
  op 14 (.move (.global 113))])
(.seq (.seq (reg [op 114 (.move (.tmp 14)) 1,
  op 115 (.binOp .lss 0 (.global 114) (.const (I 0)) 0)])
(.cond (.tmp 115)
  (.seq (reg [op 4 (.move (.const (B false)))])
  .ret)
  .skip))
(.seq (.seq (reg [op 116 (.move (.tmp 14)) 1,
  op 117 (.move (.tmp 13)) 1,
  op 118 (.binOp .neq 0 (.global 116) (.global 117) 0)])
(.cond (.tmp 118)
  (.seq (reg [op 4 (.move (.const (B false)))])
  .ret)
  .skip))
(.seq (reg [op 4 (.move (.const (B true)))])
.ret)))))))))))))))))))))))))))))), [(4, 0)]⟩

/-- spec.StandardKept -/
def fn422 : AFun := ⟨0,
(.seq (reg [op 0 (.move (.const (sl 0 0 0 0)))])
(.seq (reg [op 1 (call (.func 543) #[(.const (S [50, 120, 49, 58, 43]))]) 1,
  op 2 (.build 0 #[(0, (.const (.agg #[(S []), (I 0), (I 0), (sl 0 0 0 0)]))), (1, (.const (S [98, 114, 105, 99, 107]))), (1003, (.global 1))]) 1,
  op 3 (call (.func 543) #[(.const (S [51, 120, 51, 58, 43, 43, 43, 43, 43, 43, 43, 43, 43, 43, 43, 43]))]) 1,
  op 4 (.build 0 #[(0, (.const (.agg #[(S []), (I 0), (I 0), (sl 0 0 0 0)]))), (1, (.const (S [99, 97, 114, 112, 101, 116]))), (1003, (.global 3))]) 1,
  op 5 (call (.func 543) #[(.const (S [52, 120, 49, 58, 43, 43, 43]))]) 1,
  op 6 (.build 0 #[(0, (.const (.agg #[(S []), (I 0), (I 0), (sl 0 0 0 0)]))), (1, (.const (S [99, 104, 97, 105, 110]))), (1003, (.global 5))]) 1,
  op 7 (call (.func 543) #[(.const (S [49, 120, 49, 58]))]) 1,
  op 8 (.build 0 #[(0, (.const (.agg #[(S []), (I 0), (I 0), (sl 0 0 0 0)]))), (1, (.const (S [100, 105, 97, 109, 111, 110, 100]))), (1003, (.global 7))]) 1,
  op 9 (call (.func 543) #[(.const (S [50, 120, 50, 58, 43, 43, 43, 43]))]) 1,
  op 10 (.build 0 #[(0, (.const (.agg #[(S []), (I 0), (I 0), (sl 0 0 0 0)]))), (1, (.const (S [114, 105, 110, 103, 115]))), (1003, (.global 9))]) 1,
  op 11 (call (.func 543) #[(.const (S [50, 120, 49, 58, 124]))]) 1,
  op 12 (.build 0 #[(0, (.const (.agg #[(S []), (I 0), (I 0), (sl 0 0 0 0)]))), (1, (.const (S [116, 119, 111]))), (1003, (.global 11))]) 1,
  op 13 (.buildSlice 4 6 #[(0, (.const (.agg #[(S []), (I 0), (I 0), (sl 0 0 0 0), (S []), (I 0), (I 0), (sl 0 0 0 0), (S []), (I 0), (I 0), (sl 0 0 0 0), (S []), (I 0), (I 0), (sl 0 0 0 0), (S []), (I 0), (I 0), (sl 0 0 0 0), (S []), (I 0), (I 0), (sl 0 0 0 0)]))), (4, (.global 2)), (4004, (.global 4)), (8004, (.global 6)), (12004, (.global 8)), (16004, (.global 10)), (20004, (.global 12))]) 1,
  op 0 (.move (.global 13))])
.ret)), [(0, 0)]⟩

/-- impl.StandardKept -/
def fn132 : AFun := ⟨0,
(.seq (reg [op 0 (.move (.const (sl 0 0 0 0)))])
(.seq (reg [op 5 (call (.func 177) #[(.const (I 2)), (.const (I 1))]) 1,
  op 1 (.move (.const (.agg #[(I 0), (I 0), (sl 0 0 0 0)]))),
  op 1 (.insert 3 (.tmp 1) (.tmp 1) (.global 5))])
(.seq (reg [op 6 (.fieldAddr 2 (.tmp 1) 1) 1,
  op 7 (.lookup 0 (.tmp 1) (.global 6) false) 1,
  op 8 (.indexAddr 3 (.global 7) (.const (I 0))) 1,
  opn (.store 1 (.global 8) (.const (I 1)))])
(.seq (reg [op 9 (.move (.const (sl 0 0 0 4))) 1,
  op 2 (.move (.global 9))])
(.seq (.seq (reg [op 10 (call (.func 177) #[(.const (I 2)), (.const (I 1))]) 1,
  op 11 (.build 0 #[(0, (.const (.agg #[(S []), (I 0), (I 0), (sl 0 0 0 0)]))), (1, (.const (S [98, 114, 105, 99, 107]))), (1003, (.global 10))]) 1,
  op 12 (call (.func 177) #[(.const (I 3)), (.const (I 3))]) 1,
  op 13 (.build 0 #[(0, (.const (.agg #[(S []), (I 0), (I 0), (sl 0 0 0 0)]))), (1, (.const (S [99, 97, 114, 112, 101, 116]))), (1003, (.global 12))]) 1,
  op 14 (call (.func 177) #[(.const (I 4)), (.const (I 1))]) 1,
  op 15 (.build 0 #[(0, (.const (.agg #[(S []), (I 0), (I 0), (sl 0 0 0 0)]))), (1, (.const (S [99, 104, 97, 105, 110]))), (1003, (.global 14))]) 1,
  op 16 (call (.func 177) #[(.const (I 1)), (.const (I 1))]) 1,
  op 17 (.build 0 #[(0, (.const (.agg #[(S []), (I 0), (I 0), (sl 0 0 0 0)]))), (1, (.const (S [100, 105, 97, 109, 111, 110, 100]))), (1003, (.global 16))]) 1,
  op 18 (call (.func 177) #[(.const (I 2)), (.const (I 2))]) 1,
  op 19 (.build 0 #[(0, (.const (.agg #[(S []), (I 0), (I 0), (sl 0 0 0 0)]))), (1, (.const (S [114, 105, 110, 103, 115]))), (1003, (.global 18))]) 1,
  op 20 (.lookup 4 (.tmp 1) (.tmp 1) false) 1,
  op 21 (.build 0 #[(0, (.const (.agg #[(S []), (I 0), (I 0), (sl 0 0 0 0)]))), (1, (.const (S [116, 119, 111]))), (1003, (.global 20))]) 1,
  op 22 (.build 0 #[(0, (.const (.agg #[(S []), (I 0), (I 0), (sl 0 0 0 0), (S []), (I 0), (I 0), (sl 0 0 0 0), (S []), (I 0), (I 0), (sl 0 0 0 0), (S []), (I 0), (I 0), (sl 0 0 0 0), (S []), (I 0), (I 0), (sl 0 0 0 0), (S []), (I 0), (I 0), (sl 0 0 0 0)]))), (4, (.global 11)), (4004, (.global 13)), (8004, (.global 15)), (12004, (.global 17)), (16004, (.global 19)), (20004, (.global 21))]),
  op 23 (.move (.const (I 0)))])
(.block 0
  (.loop
    (.seq (reg [op 24 (.binOp .lss 0 (.tmp 23) (.const (I 6)) 0)])
    (.seq (.cond (.tmp 24)
      .skip
      (.exit 0))
    (.seq (.block 1
      (.seq (reg [op 25 (.index 1006004 (.tmp 22) (.tmp 23)) 1,
        op 4 (.move (.const (.agg #[(S []), (I 0), (I 0), (sl 0 0 0 0)]))),
        op 4 (.insert 4 (.tmp 4) (.tmp 4) (.global 25))])
      (reg [op 26 (.move (.tmp 2)) 1,
        op 27 (.fieldAddr 0 (.tmp 4) 1) 1,
        op 28 (.lookup 0 (.tmp 4) (.global 27) false) 1,
        op 29 (.fieldAddr 1 (.tmp 4) 1) 1,
        op 30 (.lookup 4 (.tmp 4) (.global 29) false) 1,
        op 31 (call (.func 147) #[(.global 30)]) 1,
        op 32 (.build 0 #[(0, (.const (.agg #[(S []), (I 0), (I 0), (sl 0 0 0 0)]))), (1, (.global 28)), (1003, (.global 31))]) 1,
        op 33 (.buildSlice 4 1 #[(0, (.const (.agg #[(S []), (I 0), (I 0), (sl 0 0 0 0)]))), (4, (.global 32))]) 1,
        op 34 (bi .append #[(.global 26), (.global 33)] 4) 1,
        op 2 (.move (.global 34))])))
    (reg [op 35 (.binOp .add 0 (.tmp 23) (.const (I 1)) 0) 1,
      op 23 (.move (.global 35))])))))))
(.seq (reg [op 36 (.move (.tmp 2)) 1,
  op 0 (.move (.global 36))])
.ret)))))), [(0, 0)]⟩

/-- laws.eqKeptS -/
def fn264 : AFun := ⟨2,
(.seq (reg [op 4 (.move (.const (B false)))])
(.seq (.seq (reg [op 6 (.move (.tmp 0)) 1,
  op 7 (bi .len #[(.global 6)] 1) 1,
  op 8 (.move (.tmp 1)) 1,
  op 9 (bi .len #[(.global 8)] 1) 1,
  op 10 (.binOp .neq 0 (.global 7) (.global 9) 0)])
(.cond (.tmp 10)
  (.seq (reg [op 4 (.move (.const (B false)))])
  .ret)
  .skip))
(.seq (.seq (reg [op 5 (.move (.const (I 0)))])
(.block 0
  (.loop
    (.seq (.seq (reg [op 11 (.move (.tmp 5)) 1,
      op 12 (.move (.tmp 0)) 1,
      op 13 (bi .len #[(.global 12)] 1) 1,
      op 14 (.binOp .lss 0 (.global 11) (.global 13) 0)])
    (.cond (.tmp 14)
      .skip
      (.exit 0)))
    (.seq (.block 1
      (.seq (reg [op 17 (.move (.tmp 0)) 1,
        op 18 (.move (.tmp 5)) 1,
        op 19 (.indexAddr 9 (.global 17) (.global 18)) 1,
        op 20 (.load 5 (.global 19)) 1,
        op 21 (.move (.tmp 1)) 1,
        op 22 (.move (.tmp 5)) 1,
        op 23 (.indexAddr 9 (.global 21) (.global 22)) 1,
        op 24 (.load 5 (.global 23)) 1,
        op 25 (call (.func 263) #[(.global 20), (.global 24)]) 1,
        op 26 (.unOp .not 0 (.global 25))])
      (.cond (.tmp 26)
        (.seq (reg [op 4 (.move (.const (B false)))])
        .ret)
        .skip)))
    (reg [op 15 (.move (.tmp 5)) 1,
      op 16 (.binOp .add 0 (.global 15) (.const (I 1)) 0) 1,
      op 5 (.move (.global 16))]))))))
(.seq (reg [op 4 (.move (.const (B true)))])
.ret)))), [(4, 0)]⟩

/-- laws.markKeptS -/
def fn285 : AFun := ⟨2,
(.seq (reg [op 4 (.move (.const (I 0)))])
(.seq (.seq (reg [op 5 (.move (.const (I 0)))])
(.block 0
  (.loop
    (.seq (.seq (reg [op 6 (.move (.tmp 5)) 1,
      op 7 (.move (.tmp 0)) 1,
      op 8 (bi .len #[(.global 7)] 1) 1,
      op 9 (.binOp .lss 0 (.global 6) (.global 8) 0)])
    (.cond (.tmp 9)
      .skip
      (.exit 0)))
    (.seq (.block 1
      (.seq (reg [op 12 (.move (.tmp 0)) 1,
        op 13 (.move (.tmp 5)) 1,
        op 14 (.move (.tmp 1)) 1,
        op 15 (call (.func 289) #[(.global 14)]) 1,
        op 16 (.indexAddr 9 (.global 12) (.global 13)) 1,
        op 17 (.fieldAddr 0 (.global 16) 0) 1,
        opn (.store 1 (.global 17) (.global 15))])
      (.seq (reg [op 18 (.move (.tmp 1)) 1,
        op 19 (.binOp .add 0 (.global 18) (.const (I 1)) 0) 1,
        op 1 (.move (.global 19))])
      (.seq (reg [op 20 (.move (.tmp 0)) 1,
        op 21 (.move (.tmp 5)) 1,
        op 22 (.move (.tmp 1)) 1,
        op 23 (.indexAddr 9 (.global 20) (.global 21)) 1,
        op 24 (.fieldAddr 1 (.global 23) 0) 1,
        op 25 (.fieldAddr 0 (.global 24) 0) 1,
        opn (.store 1 (.global 25) (.global 22))])
      (.seq (reg [op 26 (.move (.tmp 1)) 1,
        op 27 (.binOp .add 0 (.global 26) (.const (I 1)) 0) 1,
        op 1 (.move (.global 27))])
      (.seq (reg [op 28 (.move (.tmp 0)) 1,
        op 29 (.move (.tmp 5)) 1,
        op 30 (.move (.tmp 1)) 1,
        op 31 (.indexAddr 9 (.global 28) (.global 29)) 1,
        op 32 (.fieldAddr 1 (.global 31) 0) 1,
        op 33 (.fieldAddr 1 (.global 32) 0) 1,
        opn (.store 1 (.global 33) (.global 30))])
      (.seq (reg [op 34 (.move (.tmp 1)) 1,
        op 35 (.binOp .add 0 (.global 34) (.const (I 1)) 0) 1,
        op 1 (.move (.global 35))])
      (reg [op 36 (.move (.tmp 0)) 1,
        op 37 (.move (.tmp 5)) 1,
        op 38 (.indexAddr 9 (.global 36) (.global 37)) 1,
        op 39 (.fieldAddr 1 (.global 38) 0) 1,
        op 40 (.fieldAddr 2 (.global 39) 0) 1,
        op 41 (.load 0 (.global 40)) 1,
        op 42 (.move (.tmp 1)) 1,
        op 43 (call (.func 282) #[(.global 41), (.global 42)]) 1,
        op 1 (.move (.global 43))]))))))))
    (reg [op 10 (.move (.tmp 5)) 1,
      op 11 (.binOp .add 0 (.global 10) (.const (I 1)) 0) 1,
      op 5 (.move (.global 11))]))))))
(.seq (reg [op 44 (.move (.tmp 1)) 1,
  op 4 (.move (.global 44))])
.ret))), [(4, 0)]⟩

/-- laws.heldKeptS -/
def fn278 : AFun := ⟨2,
(.seq (reg [op 4 (.move (.const (I 0)))])
(.seq (.seq (reg [op 5 (.move (.const (I 0)))])
(.block 0
  (.loop
    (.seq (.seq (reg [op 6 (.move (.tmp 5)) 1,
      op 7 (.move (.tmp 0)) 1,
      op 8 (bi .len #[(.global 7)] 1) 1,
      op 9 (.binOp .lss 0 (.global 6) (.global 8) 0)])
    (.cond (.tmp 9)
      .skip
      (.exit 0)))
    (.seq (.block 1
      (.seq (.seq (reg [op 12 (.move (.tmp 0)) 1,
        op 13 (.move (.tmp 5)) 1,
        op 14 (.indexAddr 9 (.global 12) (.global 13)) 1,
        op 15 (.fieldAddr 0 (.global 14) 0) 1,
        op 16 (.load 0 (.global 15)) 1,
        op 17 (.move (.tmp 1)) 1,
        op 18 (call (.func 289) #[(.global 17)]) 3,
        op 19 (.binOp .neq 0 (.global 16) (.global 18) 0)])
      (.cond (.tmp 19)
        (.seq (reg [op 4 (.move (.const (I (-1))))])
        .ret)
        .skip))
      (.seq (reg [op 20 (.move (.tmp 1)) 1,
        op 21 (.binOp .add 0 (.global 20) (.const (I 1)) 0) 1,
        op 1 (.move (.global 21))])
      (.seq (.seq (reg [op 22 (.move (.tmp 0)) 1,
        op 23 (.move (.tmp 5)) 1,
        op 24 (.indexAddr 9 (.global 22) (.global 23)) 1,
        op 25 (.fieldAddr 1 (.global 24) 0) 1,
        op 26 (.fieldAddr 0 (.global 25) 0) 1,
        op 27 (.load 0 (.global 26)) 1,
        op 28 (.move (.tmp 1)) 1,
        op 29 (.binOp .neq 0 (.global 27) (.global 28) 0)])
      (.cond (.tmp 29)
        (.seq (reg [op 4 (.move (.const (I (-1))))])
        .ret)
        .skip))
      (.seq (reg [op 30 (.move (.tmp 1)) 1,
        op 31 (.binOp .add 0 (.global 30) (.const (I 1)) 0) 1,
        op 1 (.move (.global 31))])
      (.seq (.seq (reg [op 32 (.move (.tmp 0)) 1,
        op 33 (.move (.tmp 5)) 1,
        op 34 (.indexAddr 9 (.global 32) (.global 33)) 1,
        op 35 (.fieldAddr 1 (.global 34) 0) 1,
        op 36 (.fieldAddr 1 (.global 35) 0) 1,
        op 37 (.load 0 (.global 36)) 1,
        op 38 (.move (.tmp 1)) 1,
        op 39 (.binOp .neq 0 (.global 37) (.global 38) 0)])
      (.cond (.tmp 39)
        (.seq (reg [op 4 (.move (.const (I (-1))))])
        .ret)
        .skip))
      (.seq (reg [op 40 (.move (.tmp 1)) 1,
        op 41 (.binOp .add 0 (.global 40) (.const (I 1)) 0) 1,
        op 1 (.move (.global 41))])
      (.seq (reg [op 42 (.move (.tmp 0)) 1,
        op 43 (.move (.tmp 5)) 1,
        op 44 (.indexAddr 9 (.global 42) (.global 43)) 1,
        op 45 (.fieldAddr 1 (.global 44) 0) 1,
        op 46 (.fieldAddr 2 (.global 45) 0) 1,
        op 47 (.load 0 (.global 46)) 1,
        op 48 (.move (.tmp 1)) 1,
        op 49 (call (.func 275) #[(.global 47), (.global 48)]) 1,
        op 1 (.move (.global 49))])
      (.seq (reg [op 50 (.move (.tmp 1)) 1,
        op 51 (.binOp .lss 0 (.global 50) (.const (I 0)) 0)])
      (.cond (.tmp 51)
        (.seq (reg [op 4 (.move (.const (I (-1))))])
        .ret)
        .skip))))))))))
    (reg [op 10 (.move (.tmp 5)) 1,
      op 11 (.binOp .add 0 (.global 10) (.const (I 1)) 0) 1,
      op 5 (.move (.global 11))]))))))
(.seq (reg [op 52 (.move (.tmp 1)) 1,
  op 4 (.move (.global 52))])
.ret))), [(4, 0)]⟩

/-- laws.szKeptS -/
def fn294 : AFun := ⟨2,
(.seq (reg [op 4 (.move (.const (I 0)))])
(.seq (reg [op 6 (.move (.tmp 1)) 1,
  op 7 (.move (.tmp 0)) 1,
  op 8 (bi .len #[(.global 7)] 1) 1,
  op 9 (.binOp .sub 0 (.global 6) (.global 8) 0) 1,
  op 1 (.move (.global 9))])
(.seq (.seq (reg [op 10 (.move (.tmp 1)) 1,
  op 11 (.binOp .lss 0 (.global 10) (.const (I 0)) 0)])
(.cond (.tmp 11)
  (.seq (reg [op 4 (.move (.const (I (-1))))])
  .ret)
  .skip))
(.seq (.seq (reg [op 5 (.move (.const (I 0)))])
(.block 0
  (.loop
    (.seq (.seq (reg [op 12 (.move (.tmp 5)) 1,
      op 13 (.move (.tmp 0)) 1,
      op 14 (bi .len #[(.global 13)] 1) 1,
      op 15 (.binOp .lss 0 (.global 12) (.global 14) 0)])
    (.cond (.tmp 15)
      .skip
      (.exit 0)))
    (.seq (.block 1
      (.seq (reg [op 18 (.move (.tmp 0)) 1,
        op 19 (.move (.tmp 5)) 1,
        op 20 (.indexAddr 9 (.global 18) (.global 19)) 1,
        op 21 (.load 5 (.global 20)) 1,
        op 22 (.move (.tmp 1)) 1,
        op 23 (call (.func 293) #[(.global 21), (.global 22)]) 1,
        op 1 (.move (.global 23))])
      (.seq (reg [op 24 (.move (.tmp 1)) 1,
        op 25 (.binOp .lss 0 (.global 24) (.const (I 0)) 0)])
      (.cond (.tmp 25)
        (.seq (reg [op 4 (.move (.const (I (-1))))])
        .ret)
        .skip))))
    (reg [op 16 (.move (.tmp 5)) 1,
      op 17 (.binOp .add 0 (.global 16) (.const (I 1)) 0) 1,
      op 5 (.move (.global 17))]))))))
(.seq (reg [op 26 (.move (.tmp 1)) 1,
  op 4 (.move (.global 26))])
.ret))))), [(4, 0)]⟩

/-- spec.ValidKept -/
def fn428 : AFun := ⟨1,
(.seq (reg [op 2 (.move (.const (B false)))])
(.seq (reg [op 3 (.move (.tmp 0)) 1,
  op 4 (call (.func 541) #[(.global 3)]) 1,
  op 2 (.move (.global 4))])
.ret)), [(2, 0)]⟩

/-- laws.toKeptS -/
def fn302 : AFun := ⟨1,
(.seq (reg [op 2 (.move (.const (sl 0 0 0 0)))])
(.seq (reg [op 5 (.move (.tmp 0)) 1,
  op 6 (bi .len #[(.global 5)] 1) 1,
  op 7 (.mapUpdate 4 (.global 6) (.global 6) (.const (.agg #[(S []), (I 0), (I 0), (sl 0 0 0 0)]))) 1,
  op 3 (.move (.global 7))])
(.seq (.seq (reg [op 4 (.move (.const (I 0)))])
(.block 0
  (.loop
    (.seq (.seq (reg [op 8 (.move (.tmp 4)) 1,
      op 9 (.move (.tmp 0)) 1,
      op 10 (bi .len #[(.global 9)] 1) 1,
      op 11 (.binOp .lss 0 (.global 8) (.global 10) 0)])
    (.cond (.tmp 11)
      .skip
      (.exit 0)))
    (.seq (.block 1
      (reg [op 14 (.move (.tmp 3)) 1,
        op 15 (.move (.tmp 4)) 1,
        op 16 (.move (.tmp 0)) 1,
        op 17 (.move (.tmp 4)) 1,
        op 18 (.indexAddr 9 (.global 16) (.global 17)) 1,
        op 19 (.load 5 (.global 18)) 1,
        op 20 (call (.func 301) #[(.global 19)]) 1,
        op 21 (.indexAddr 9 (.global 14) (.global 15)) 1,
        opn (.store 4 (.global 21) (.global 20))]))
    (reg [op 12 (.move (.tmp 4)) 1,
      op 13 (.binOp .add 0 (.global 12) (.const (I 1)) 0) 1,
      op 4 (.move (.global 13))]))))))
(.seq (reg [op 22 (.move (.tmp 3)) 1,
  op 2 (.move (.global 22))])
.ret)))), [(2, 0)]⟩

/-- impl.ValidKept -/
def fn139 : AFun := ⟨1,
(.seq (reg [op 2 (.move (.const (B false)))])
(.seq (.seq (reg [op 5 (.move (.tmp 0)) 1,
  op 6 (bi .len #[(.global 5)] 1) 1,
  op 7 (.binOp .gtr 0 (.global 6) (.const (I 40)) 0)])
(.cond (.tmp 7)
  (.seq (reg [op 2 (.move (.const (B false)))])
  .ret)
  .skip))
(.seq (.seq (reg [op 8 (.move (.tmp 0)),
  op 9 (bi .len #[(.tmp 8)] 1),
  op 10 (.move (.const (I 0)))])
(.block 0
  (.loop
    (.seq (reg [op 11 (.binOp .lss 0 (.tmp 10) (.tmp 9) 0)])
    (.seq (.cond (.tmp 11)
      .skip
      (.exit 0))
    (.seq (.block 1
      (.seq (reg [op 12 (.move (.tmp 10)) 1,
        op 13 (.indexAddr 9 (.tmp 8) (.tmp 10)) 1,
        op 14 (.load 5 (.global 13)) 1,
        op 4 (.move (.const (.agg #[(S []), (I 0), (I 0), (sl 0 0 0 0)]))),
        op 3 (.move (.global 12)),
        op 4 (.insert 4 (.tmp 4) (.tmp 4) (.global 14))])
      (.seq (reg [op 15 (.fieldAddr 0 (.tmp 4) 1) 1,
        op 16 (.lookup 0 (.tmp 4) (.global 15) false) 1,
        op 17 (call (.func 90) #[(.global 16)]) 1,
        op 18 (.unOp .not 0 (.global 17)) 1,
        op 19 (.move (.global 18)) 1,
        op 20 (.move (.tmp 3)) 1 (some (77, false)),
        op 21 (.binOp .gtr 0 (.global 20) (.const (I 0)) 0) 1 (some (77, false)),
        op 22 (.move (.global 21)) 1 (some (79, false)),
        op 23 (.fieldAddr 0 (.tmp 4) 1) 1 (some (89, true)),
        op 24 (.lookup 0 (.tmp 4) (.global 23) false) 1 (some (89, true)),
        op 25 (.move (.tmp 0)) 1 (some (89, true)),
        op 26 (.move (.tmp 3)) 1 (some (89, true)),
        op 27 (.binOp .sub 0 (.global 26) (.const (I 1)) 0) 1 (some (89, true)),
        op 28 (.indexAddr 9 (.global 25) (.global 27)) 1 (some (89, true)),
        op 29 (.fieldAddr 0 (.global 28) 0) 1 (some (89, true)),
        op 30 (.load 0 (.global 29)) 1 (some (89, true)),
        op 31 (.binOp .leq 0 (.global 24) (.global 30) 0) 1 (some (89, true)),
        op 32 (.pick (.global 22) (.global 31) (.const (B false))) 1 (some (77, false)),
        op 33 (.pick (.global 19) (.const (B true)) (.global 32)) 1,
        op 34 (.move (.global 33)) 1,
        op 35 (.fieldAddr 1 (.tmp 4) 1) 1 (some (137, false)),
        op 36 (.lookup 4 (.tmp 4) (.global 35) false) 1 (some (137, false)),
        op 37 (call (.func 140) #[(.global 36)]) 1 (some (137, false)),
        op 38 (.unOp .not 0 (.global 37)) 1 (some (137, false)),
        op 39 (.pick (.global 34) (.const (B true)) (.global 38)) 1,
        op 40 (.move (.global 39)) 1,
        op 41 (.fieldAddr 1 (.tmp 4) 1) 1 (some (161, false)),
        op 42 (.lookup 4 (.tmp 4) (.global 41) false) 1 (some (161, false)),
        op 43 (.fieldAddr 1 (.tmp 4) 1) 1 (some (161, false)),
        op 44 (.lookup 4 (.tmp 4) (.global 43) false) 1 (some (161, false)),
        op 45 (call (.func 147) #[(.global 44)]) 1 (some (161, false)),
        op 46 (call (.func 130) #[(.global 42), (.global 45)]) 1 (some (161, false)),
        op 47 (.unOp .not 0 (.global 46)) 1 (some (161, false)),
        op 48 (.pick (.global 40) (.const (B true)) (.global 47)) 1,
        op 49 (.move (.global 48)) 1,
        op 50 (.move (.tmp 0)) 1 (some (197, false)),
        op 51 (.move (.tmp 3)) 1 (some (197, false)),
        op 52 (.slice 9 (.global 50) none (some (.global 51)) none) 1 (some (197, false)),
        op 53 (.fieldAddr 1 (.tmp 4) 1) 1 (some (197, false)),
        op 54 (.lookup 4 (.tmp 4) (.global 53) false) 1 (some (197, false)),
        op 55 (call (.func 161) #[(.global 52), (.global 54)]) 1 (some (197, false)),
        op 56 (.binOp .geq 0 (.global 55) (.const (I 0)) 0) 1 (some (197, false)),
        op 57 (.pick (.global 49) (.const (B true)) (.global 56))])
      (.cond (.tmp 57)
        (.seq (reg [op 2 (.move (.const (B false)))])
        .ret)
        .skip))))
    (reg [op 58 (.binOp .add 0 (.tmp 10) (.const (I 1)) 0) 1,
      op 10 (.move (.global 58))])))))))
(.seq (reg [op 2 (.move (.const (B true)))])
.ret)))), [(2, 0)]⟩

/-- laws.szPanel -/
def fn295 : AFun := ⟨2,
(.seq (reg [op 2 (.makeChan 3 (.tmp 0)),
  op 4 (.move (.const (I 0)))])
(.seq (reg [op 5 (.fieldAddr 2 (.tmp 2) 1) 1,
  op 6 (.lookup 0 (.tmp 2) (.global 5) false) 1,
  op 7 (.move (.tmp 1)) 1,
  op 8 (call (.func 290) #[(.global 6), (.global 7)]) 1,
  op 1 (.move (.global 8))])
(.seq (.seq (reg [op 9 (.move (.tmp 1)) 1,
  op 10 (.binOp .lss 0 (.global 9) (.const (I 0)) 0)])
(.cond (.tmp 10)
  (.seq (reg [op 4 (.move (.const (I (-1))))])
  .ret)
  .skip))
(.seq (reg [op 11 (.move (.tmp 1)) 1,
  op 4 (.move (.global 11))])
.ret)))), [(4, 0)]⟩

/-- spec.NameOfPanel -/
def fn392 : AFun := ⟨2,
(.seq (reg [op 3 (.box 3 (.tmp 1)),
  op 4 (.move (.const (S []))),
  op 5 (.move (.const (I 0)))])
(.seq (.seq (reg [op 8 (.move (.tmp 0)) 1,
  op 9 (call (.func 541) #[(.global 8)]) 1,
  op 10 (.unOp .not 0 (.global 9)) 1,
  op 11 (.move (.global 10)) 1,
  op 12 (call (.func 452) #[(.tmp 3)]) 1 (some (45, false)),
  op 13 (.unOp .not 0 (.global 12)) 1 (some (45, false)),
  op 14 (.pick (.global 11) (.const (B true)) (.global 13))])
(.cond (.tmp 14)
  (.seq (reg [op 4 (.move (.const (S []))),
    op 5 (.move (.const (I 1)))])
  .ret)
  .skip))
(.seq (reg [op 15 (call (.func 476) #[(.tmp 3)]) 1,
  op 6 (.box 3 (.const (.agg #[(I 0), (I 0), (sl 0 0 0 0)]))),
  opn (.store 3 (.tmp 6) (.global 15))])
(.seq (reg [op 16 (.move (.tmp 0)) 1,
  op 17 (call (.func 539) #[(.global 16), (.tmp 6)]) 1,
  op 7 (.move (.global 17))])
(.seq (.seq (reg [op 18 (.move (.tmp 7)) 1,
  op 19 (.binOp .lss 0 (.global 18) (.const (I 0)) 0)])
(.cond (.tmp 19)
  (.seq (reg [op 4 (.move (.const (S []))),
    op 5 (.move (.const (I 3)))])
  .ret)
  .skip))
(.seq (reg [op 20 (.move (.tmp 0)) 1,
  op 21 (.move (.tmp 7)) 1,
  op 22 (.indexAddr 9 (.global 20) (.global 21)) 1,
  op 23 (.fieldAddr 0 (.global 22) 0) 1,
  op 24 (.load 0 (.global 23)) 1,
  op 4 (.move (.global 24)),
  op 5 (.move (.const (I 0)))])
.ret)))))), [(4, 0), (5, 0)]⟩

/-- laws.toPanel -/
def fn303 : AFun := ⟨1,
(.seq (reg [op 1 (.makeChan 3 (.tmp 0)),
  op 2 (.move (.const (.agg #[(I 0), (I 0), (sl 0 0 0 0)])))])
(.seq (reg [op 3 (.move (.const (.agg #[(I 0), (I 0), (sl 0 0 0 0)])))])
(.seq (reg [op 4 (.fieldAddr 0 (.tmp 1) 1) 1,
  op 5 (.lookup 0 (.tmp 1) (.global 4) false) 1,
  op 6 (.fieldAddr 0 (.tmp 3) 1) 1,
  op 3 (.insert 1 (.tmp 3) (.global 6) (.global 5))])
(.seq (reg [op 7 (.fieldAddr 1 (.tmp 1) 1) 1,
  op 8 (.lookup 0 (.tmp 1) (.global 7) false) 1,
  op 9 (.fieldAddr 1 (.tmp 3) 1) 1,
  op 3 (.insert 1 (.tmp 3) (.global 9) (.global 8))])
(.seq (reg [op 10 (.fieldAddr 2 (.tmp 1) 1) 1,
  op 11 (.lookup 0 (.tmp 1) (.global 10) false) 1,
  op 12 (call (.func 297) #[(.global 11)]) 1,
  op 13 (.fieldAddr 2 (.tmp 3) 1) 1,
  op 3 (.insert 1 (.tmp 3) (.global 13) (.global 12))])
(.seq (reg [op 14 (.lookup 4 (.tmp 3) (.tmp 3) false) 1,
  op 2 (.insert 3 (.tmp 2) (.tmp 2) (.global 14))])
.ret)))))), [(2, 1000004)]⟩

/-- impl.NameOfPanel -/
def fn99 : AFun := ⟨2,
(.seq (reg [op 3 (.makeChan 3 (.tmp 1)),
  op 4 (.move (.const (S []))),
  op 5 (.move (.const (I 0)))])
(.seq (.seq (reg [op 7 (.move (.tmp 0)) 1,
  op 8 (call (.func 139) #[(.global 7)]) 1,
  op 9 (.unOp .not 0 (.global 8)) 1,
  op 10 (.move (.global 9)) 1,
  op 11 (.lookup 4 (.tmp 3) (.tmp 3) false) 1 (some (41, false)),
  op 12 (call (.func 140) #[(.global 11)]) 1 (some (41, false)),
  op 13 (.unOp .not 0 (.global 12)) 1 (some (41, false)),
  op 14 (.pick (.global 10) (.const (B true)) (.global 13))])
(.cond (.tmp 14)
  (.seq (reg [op 4 (.move (.const (S []))),
    op 5 (.move (.const (I 1)))])
  .ret)
  .skip))
(.seq (reg [op 15 (.move (.tmp 0)) 1,
  op 16 (.lookup 4 (.tmp 3) (.tmp 3) false) 1,
  op 17 (call (.func 147) #[(.global 16)]) 1,
  op 18 (call (.func 161) #[(.global 15), (.global 17)]) 1,
  op 6 (.move (.global 18))])
(.seq (.seq (reg [op 19 (.move (.tmp 6)) 1,
  op 20 (.binOp .lss 0 (.global 19) (.const (I 0)) 0)])
(.cond (.tmp 20)
  (.seq (reg [op 4 (.move (.const (S []))),
    op 5 (.move (.const (I 3)))])
  .ret)
  .skip))
(.seq (reg [op 21 (.move (.tmp 0)) 1,
  op 22 (.move (.tmp 6)) 1,
  op 23 (.indexAddr 9 (.global 21) (.global 22)) 1,
  op 24 (.fieldAddr 0 (.global 23) 0) 1,
  op 25 (.load 0 (.global 24)) 1,
  op 4 (.move (.global 25)),
  op 5 (.move (.const (I 0)))])
.ret))))), [(4, 0), (5, 0)]⟩

/-- laws.eqPanel -/
def fn265 : AFun := ⟨2,
(.seq (reg [op 2 (.makeChan 3 (.tmp 0)),
  op 3 (.makeChan 3 (.tmp 1)),
  op 4 (.move (.const (B false)))])
(.seq (.seq (reg [op 5 (.fieldAddr 0 (.tmp 2) 1) 1,
  op 6 (.lookup 0 (.tmp 2) (.global 5) false) 1,
  op 7 (.fieldAddr 0 (.tmp 3) 1) 1,
  op 8 (.lookup 0 (.tmp 3) (.global 7) false) 1,
  op 9 (.binOp .neq 0 (.global 6) (.global 8) 0)])
(.cond (.tmp 9)
  (.seq (reg [op 4 (.move (.const (B false)))])
  .ret)
  .skip))
(.seq (.seq (reg [op 10 (.fieldAddr 1 (.tmp 2) 1) 1,
  op 11 (.lookup 0 (.tmp 2) (.global 10) false) 1,
  op 12 (.fieldAddr 1 (.tmp 3) 1) 1,
  op 13 (.lookup 0 (.tmp 3) (.global 12) false) 1,
  op 14 (.binOp .neq 0 (.global 11) (.global 13) 0)])
(.cond (.tmp 14)
  (.seq (reg [op 4 (.move (.const (B false)))])
  .ret)
  .skip))
(.seq (.seq (reg [op 15 (.fieldAddr 2 (.tmp 2) 1) 1,
  op 16 (.lookup 0 (.tmp 2) (.global 15) false) 1,
  op 17 (.fieldAddr 2 (.tmp 3) 1) 1,
  op 18 (.lookup 0 (.tmp 3) (.global 17) false) 1,
  op 19 (call (.func 259) #[(.global 16), (.global 18)]) 1,
  op 20 (.unOp .not 0 (.global 19))])
(.cond (.tmp 20)
  (.seq (reg [op 4 (.move (.const (B false)))])
  .ret)
  .skip))
(.seq (reg [op 4 (.move (.const (B true)))])
.ret))))), [(4, 0)]⟩

/-- spec.PackKept -/
def fn397 : AFun := ⟨1,
(.seq (reg [op 2 (.move (.const (S []))),
  op 3 (.move (.const (I 0)))])
(.seq (.seq (reg [op 4 (.move (.tmp 0)) 1,
  op 5 (call (.func 541) #[(.global 4)]) 1,
  op 6 (.unOp .not 0 (.global 5))])
(.cond (.tmp 6)
  (.seq (reg [op 2 (.move (.const (S []))),
    op 3 (.move (.const (I 1)))])
  .ret)
  .skip))
(.seq (reg [op 7 (.move (.tmp 0)) 1,
  op 8 (call (.func 569) #[(.global 7)]) 1,
  op 2 (.move (.global 8)),
  op 3 (.move (.const (I 0)))])
.ret))), [(2, 0), (3, 0)]⟩

/-- impl.PackKept -/
def fn106 : AFun := ⟨1,
(.seq (reg [op 2 (.move (.const (S []))),
  op 3 (.move (.const (I 0)))])
(.seq (.seq (reg [op 7 (.move (.tmp 0)) 1,
  op 8 (call (.func 139) #[(.global 7)]) 1,
  op 9 (.unOp .not 0 (.global 8))])
(.cond (.tmp 9)
  (.seq (reg [op 2 (.move (.const (S []))),
    op 3 (.move (.const (I 1)))])
  .ret)
  .skip))
(.seq (reg [op 10 (.move (.tmp 0)) 1,
  op 11 (bi .len #[(.global 10)] 1) 1,
  op 12 (.convert 0 4 (.global 11)) 1,
  op 13 (.buildSlice 1 1 #[(0, (.const (.agg #[(U 0)]))), (1, (.global 12))]) 1,
  op 14 (.convert 0 21 (.global 13)) 1,
  op 15 (.binOp .add 0 (.const (S [76])) (.global 14) 0) 1,
  op 4 (.move (.global 15))])
(.seq (.seq (reg [op 16 (.move (.tmp 0)),
  op 17 (bi .len #[(.tmp 16)] 1),
  op 18 (.move (.const (I 0)))])
(.block 0
  (.loop
    (.seq (reg [op 19 (.binOp .lss 0 (.tmp 18) (.tmp 17) 0)])
    (.seq (.cond (.tmp 19)
      .skip
      (.exit 0))
    (.seq (.block 1
      (.seq (reg [op 20 (.indexAddr 9 (.tmp 16) (.tmp 18)) 1,
        op 21 (.load 5 (.global 20)) 1,
        op 6 (.move (.const (.agg #[(S []), (I 0), (I 0), (sl 0 0 0 0)]))),
        op 6 (.insert 4 (.tmp 6) (.tmp 6) (.global 21))])
      (reg [op 22 (.move (.tmp 4)) 1,
        op 23 (.fieldAddr 0 (.tmp 6) 1) 1,
        op 24 (.lookup 0 (.tmp 6) (.global 23) false) 1,
        op 25 (bi .len #[(.global 24)] 0) 1,
        op 26 (.convert 0 4 (.global 25)) 1,
        op 27 (.buildSlice 1 1 #[(0, (.const (.agg #[(U 0)]))), (1, (.global 26))]) 1,
        op 28 (.convert 0 21 (.global 27)) 1,
        op 29 (.fieldAddr 0 (.tmp 6) 1) 1,
        op 30 (.lookup 0 (.tmp 6) (.global 29) false) 1,
        op 31 (.binOp .add 0 (.global 28) (.global 30) 0) 1,
        op 32 (.fieldAddr 1 (.tmp 6) 1) 1,
        op 33 (.lookup 4 (.tmp 6) (.global 32) false) 1,
        op 34 (call (.func 180) #[(.global 33)]) 3,
        op 35 (.binOp .add 0 (.global 31) (.global 34) 0) 1,
        op 36 (.binOp .add 0 (.global 22) (.global 35) 0) 1,
        op 4 (.move (.global 36))])))
    (reg [op 37 (.binOp .add 0 (.tmp 18) (.const (I 1)) 0) 1,
      op 18 (.move (.global 37))])))))))
(.seq (reg [op 38 (.move (.tmp 4)) 1,
  op 39 (call (.func 191) #[(.global 38)]) 1,
  op 2 (.move (.global 39)),
  op 3 (.move (.const (I 0)))])
.ret))))), [(2, 0), (3, 0)]⟩

/-- spec.KeptText -/
def fn386 : AFun := ⟨1,
(.seq (reg [op 2 (.move (.const (S [])))])
(.seq (.seq (reg [op 3 (.move (.tmp 0)) 1,
  op 4 (call (.func 541) #[(.global 3)]) 1,
  op 5 (.unOp .not 0 (.global 4))])
(.cond (.tmp 5)
  (.seq (reg [op 2 (.move (.const (S [])))])
  .ret)
  .skip))
(.seq (reg [op 6 (.move (.tmp 0)) 1,
  op 7 (call (.func 545) #[(.global 6)]) 1,
  op 2 (.move (.global 7))])
.ret))), [(2, 0)]⟩

/-- impl.KeptText -/
def fn94 : AFun := ⟨1,
(.seq (reg [op 2 (.move (.const (S [])))])
(.seq (.seq (reg [op 3 (.move (.tmp 0)) 1,
  op 4 (call (.func 139) #[(.global 3)]) 1,
  op 5 (.unOp .not 0 (.global 4))])
(.cond (.tmp 5)
  (.seq (reg [op 2 (.move (.const (S [])))])
  .ret)
  .skip))
(.seq (reg [op 6 (.move (.tmp 0)) 1,
  op 7 (call (.func 169) #[(.global 6)]) 1,
  op 2 (.move (.global 7))])
.ret))), [(2, 0)]⟩

/-- spec.KeptNamed -/
def fn385 : AFun := ⟨2,
(.seq (reg [op 4 (.move (.const (.agg #[(I 0), (I 0), (sl 0 0 0 0)]))),
  op 5 (.move (.const (I 0)))])
(.seq (.seq (reg [op 7 (.move (.tmp 0)) 1,
  op 8 (call (.func 541) #[(.global 7)]) 1,
  op 9 (.unOp .not 0 (.global 8))])
(.cond (.tmp 9)
  (.seq (reg [op 10 (.build 0 #[(0, (.const (.agg #[(I 0), (I 0), (sl 0 0 0 0)])))]) 1,
    op 4 (.insert 3 (.tmp 4) (.tmp 4) (.global 10)),
    op 5 (.move (.const (I 1)))])
  .ret)
  .skip))
(.seq (reg [op 11 (.move (.tmp 0)) 1,
  op 12 (.move (.tmp 1)) 1,
  op 13 (call (.func 538) #[(.global 11), (.global 12)]) 1,
  op 6 (.move (.global 13))])
(.seq (.seq (reg [op 14 (.move (.tmp 6)) 1,
  op 15 (.binOp .lss 0 (.global 14) (.const (I 0)) 0)])
(.cond (.tmp 15)
  (.seq (reg [op 16 (.build 0 #[(0, (.const (.agg #[(I 0), (I 0), (sl 0 0 0 0)])))]) 1,
    op 4 (.insert 3 (.tmp 4) (.tmp 4) (.global 16)),
    op 5 (.move (.const (I 3)))])
  .ret)
  .skip))
(.seq (reg [op 17 (.move (.tmp 0)) 1,
  op 18 (.move (.tmp 6)) 1,
  op 19 (.indexAddr 9 (.global 17) (.global 18)) 1,
  op 20 (.fieldAddr 1 (.global 19) 0) 1,
  op 21 (call (.func 453) #[(.global 20)]) 1,
  op 4 (.insert 3 (.tmp 4) (.tmp 4) (.global 21)),
  op 5 (.move (.const (I 0)))])
.ret))))), [(4, 1000004), (5, 0)]⟩

/-- impl.KeptNamed -/
def fn93 : AFun := ⟨2,
(.seq (reg [op 4 (.move (.const (.agg #[(I 0), (I 0), (sl 0 0 0 0)]))),
  op 5 (.move (.const (I 0)))])
(.seq (reg [op 9 (.move (.tmp 0)) 1,
  op 10 (.move (.tmp 1)) 1,
  op 11 (call (.func 168) #[(.global 9), (.global 10)]) 1,
  op 8 (.move (.global 11)) 1,
  op 12 (.extract (.global 8) 0) 1,
  op 13 (.extract (.global 8) 1) 1,
  op 6 (.move (.global 12)),
  op 7 (.move (.global 13))])
(.seq (.seq (reg [op 14 (.move (.tmp 7)) 1,
  op 15 (.binOp .neq 0 (.global 14) (.const (I 0)) 0)])
(.cond (.tmp 15)
  (.seq (reg [op 16 (.build 0 #[(0, (.const (.agg #[(I 0), (I 0), (sl 0 0 0 0)])))]) 1,
    op 17 (.move (.tmp 7)) 1,
    op 4 (.insert 3 (.tmp 4) (.tmp 4) (.global 16)),
    op 5 (.move (.global 17))])
  .ret)
  .skip))
(.seq (reg [op 18 (.move (.tmp 0)) 1,
  op 19 (.move (.tmp 6)) 1,
  op 20 (.indexAddr 9 (.global 18) (.global 19)) 1,
  op 21 (.fieldAddr 1 (.global 20) 0) 1,
  op 22 (.load 4 (.global 21)) 1,
  op 23 (call (.func 150) #[(.global 22)]) 1,
  op 4 (.insert 3 (.tmp 4) (.tmp 4) (.global 23)),
  op 5 (.move (.const (I 0)))])
.ret)))), [(4, 1000004), (5, 0)]⟩

/-- laws.markPanel -/
def fn286 : AFun := ⟨2,
(.seq (reg [op 2 (.makeChan 3 (.tmp 0)),
  op 4 (.move (.const (I 0)))])
(.seq (reg [op 5 (.fieldAddr 2 (.tmp 2) 1) 1,
  op 6 (.lookup 0 (.tmp 2) (.global 5) false) 1,
  op 7 (.move (.tmp 1)) 1,
  op 8 (call (.func 282) #[(.global 6), (.global 7)]) 1,
  op 1 (.move (.global 8))])
(.seq (reg [op 9 (.move (.tmp 1)) 1,
  op 4 (.move (.global 9))])
.ret))), [(4, 0)]⟩

/-- laws.heldPanel -/
def fn279 : AFun := ⟨2,
(.seq (reg [op 2 (.makeChan 3 (.tmp 0)),
  op 4 (.move (.const (I 0)))])
(.seq (reg [op 5 (.fieldAddr 2 (.tmp 2) 1) 1,
  op 6 (.lookup 0 (.tmp 2) (.global 5) false) 1,
  op 7 (.move (.tmp 1)) 1,
  op 8 (call (.func 275) #[(.global 6), (.global 7)]) 1,
  op 1 (.move (.global 8))])
(.seq (.seq (reg [op 9 (.move (.tmp 1)) 1,
  op 10 (.binOp .lss 0 (.global 9) (.const (I 0)) 0)])
(.cond (.tmp 10)
  (.seq (reg [op 4 (.move (.const (I (-1))))])
  .ret)
  .skip))
(.seq (reg [op 11 (.move (.tmp 1)) 1,
  op 4 (.move (.global 11))])
.ret)))), [(4, 0)]⟩

/-- spec.RemoveKept -/
def fn415 : AFun := ⟨2,
(.seq (reg [op 4 (.move (.const (sl 0 0 0 0))),
  op 5 (.move (.const (I 0)))])
(.seq (.seq (reg [op 8 (.move (.tmp 0)) 1,
  op 9 (call (.func 541) #[(.global 8)]) 1,
  op 10 (.unOp .not 0 (.global 9))])
(.cond (.tmp 10)
  (.seq (reg [op 4 (.move (.const (sl 0 0 0 0))),
    op 5 (.move (.const (I 1)))])
  .ret)
  .skip))
(.seq (reg [op 11 (.move (.tmp 0)) 1,
  op 12 (.move (.tmp 1)) 1,
  op 13 (call (.func 538) #[(.global 11), (.global 12)]) 1,
  op 6 (.move (.global 13))])
(.seq (.seq (reg [op 14 (.move (.tmp 6)) 1,
  op 15 (.binOp .lss 0 (.global 14) (.const (I 0)) 0)])
(.cond (.tmp 15)
  (.seq (reg [op 4 (.move (.const (sl 0 0 0 0))),
    op 5 (.move (.const (I 3)))])
  .ret)
  .skip))
(.seq (reg [op 16 (.move (.const (sl 0 0 0 4))) 1,
  op 17 (.move (.tmp 0)) 1,
  op 18 (.move (.tmp 6)) 1,
  op 19 (.slice 9 (.global 17) none (some (.global 18)) none) 1,
  op 20 (bi .append #[(.global 16), (.global 19)] 4) 1,
  op 7 (.move (.global 20))])
(.seq (reg [op 21 (.move (.tmp 7)) 1,
  op 22 (.move (.tmp 0)) 1,
  op 23 (.move (.tmp 6)) 1,
  op 24 (.binOp .add 0 (.global 23) (.const (I 1)) 0) 1,
  op 25 (.slice 9 (.global 22) (some (.global 24)) none none) 1,
  op 26 (bi .append #[(.global 21), (.global 25)] 4) 1,
  op 27 (call (.func 542) #[(.global 26)]) 1,
  op 4 (.move (.global 27)),
  op 5 (.move (.const (I 0)))])
.ret)))))), [(4, 0), (5, 0)]⟩

/-- impl.RemoveKept -/
def fn124 : AFun := ⟨2,
(.seq (reg [op 4 (.move (.const (sl 0 0 0 0))),
  op 5 (.move (.const (I 0)))])
(.seq (reg [op 9 (.move (.tmp 0)) 1,
  op 10 (.move (.tmp 1)) 1,
  op 11 (call (.func 168) #[(.global 9), (.global 10)]) 1,
  op 8 (.move (.global 11)) 1,
  op 12 (.extract (.global 8) 0) 1,
  op 13 (.extract (.global 8) 1) 1,
  op 6 (.move (.global 12)),
  op 7 (.move (.global 13))])
(.seq (.seq (reg [op 14 (.move (.tmp 7)) 1,
  op 15 (.binOp .neq 0 (.global 14) (.const (I 0)) 0)])
(.cond (.tmp 15)
  (.seq (reg [op 16 (.move (.tmp 7)) 1,
    op 4 (.move (.const (sl 0 0 0 0))),
    op 5 (.move (.global 16))])
  .ret)
  .skip))
(.seq (reg [op 17 (.move (.tmp 0)) 1,
  op 18 (call (.func 149) #[(.global 17)]) 1,
  op 19 (.move (.tmp 6)) 1,
  op 20 (.move (.tmp 6)) 1,
  op 21 (.binOp .add 0 (.global 20) (.const (I 1)) 0) 1,
  op 22 (call (.func 311) #[(.global 18), (.global 19), (.global 21)]) 1,
  op 4 (.move (.global 22)),
  op 5 (.move (.const (I 0)))])
.ret)))), [(4, 0), (5, 0)]⟩

/-- spec.UnpackKept -/
def fn425 : AFun := ⟨1,
(.seq (reg [op 2 (.move (.const (sl 0 0 0 0))),
  op 3 (.move (.const (I 0)))])
(.seq (.seq (reg [op 10 (.move (.tmp 0)) 1,
  op 11 (bi .len #[(.global 10)] 0) 1,
  op 12 (.binOp .lss 0 (.global 11) (.const (I 4)) 0) 1,
  op 13 (.move (.global 12)) 1,
  op 14 (.move (.tmp 0)) 1 (some (53, false)),
  op 15 (.index 0 (.global 14) (.const (I 0))) 1 (some (53, false)),
  op 16 (.binOp .neq 0 (.global 15) (.const (U 76)) 0) 1 (some (53, false)),
  op 17 (.pick (.global 13) (.const (B true)) (.global 16)) 1,
  op 18 (.move (.global 17)) 1,
  op 19 (.move (.tmp 0)) 1 (some (73, false)),
  op 20 (call (.func 566) #[(.global 19)]) 1 (some (73, false)),
  op 21 (.unOp .not 0 (.global 20)) 1 (some (73, false)),
  op 22 (.pick (.global 18) (.const (B true)) (.global 21))])
(.cond (.tmp 22)
  (.seq (reg [op 2 (.move (.const (sl 0 0 0 0))),
    op 3 (.move (.const (I 8)))])
  .ret)
  .skip))
(.seq (reg [op 23 (.move (.const (sl 0 0 0 4))) 1,
  op 4 (.move (.global 23))])
(.seq (reg [op 24 (.move (.tmp 0)) 1,
  op 25 (.move (.tmp 0)) 1,
  op 26 (bi .len #[(.global 25)] 0) 1,
  op 27 (.binOp .sub 0 (.global 26) (.const (I 2)) 0) 1,
  op 28 (.slice 0 (.global 24) (some (.const (I 2))) (some (.global 27)) none) 1,
  op 5 (.move (.global 28))])
(.seq (.seq (reg [op 29 (.move (.tmp 0)) 1,
  op 30 (.index 0 (.global 29) (.const (I 1))) 1,
  op 31 (.convert 0 3 (.global 30)) 1,
  op 6 (.move (.global 31))])
(.block 0
  (.loop
    (.seq (.seq (reg [op 32 (.move (.tmp 6)) 1,
      op 33 (.binOp .gtr 0 (.global 32) (.const (I 0)) 0)])
    (.cond (.tmp 33)
      .skip
      (.exit 0)))
    (.seq (.block 1
      (.seq (reg [op 37 (.move (.tmp 5)) 1,
        op 38 (call (.func 570) #[(.global 37)]) 1,
        op 36 (.move (.global 38)) 1,
        op 39 (.extract (.global 36) 0) 1,
        op 40 (.extract (.global 36) 1) 1,
        op 41 (.extract (.global 36) 2) 1,
        op 7 (.move (.const (.agg #[(S []), (I 0), (I 0), (sl 0 0 0 0)]))),
        op 7 (.insert 4 (.tmp 7) (.tmp 7) (.global 39)),
        op 8 (.move (.global 40)),
        op 9 (.move (.global 41))])
      (.seq (.seq (reg [op 42 (.move (.tmp 9)) 1,
        op 43 (.unOp .not 0 (.global 42))])
      (.cond (.tmp 43)
        (.seq (reg [op 2 (.move (.const (sl 0 0 0 0))),
          op 3 (.move (.const (I 8)))])
        .ret)
        .skip))
      (.seq (reg [op 44 (.move (.tmp 4)) 1,
        op 45 (.lookup 5 (.tmp 7) (.tmp 7) false) 1,
        op 46 (.buildSlice 4 1 #[(0, (.const (.agg #[(S []), (I 0), (I 0), (sl 0 0 0 0)]))), (4, (.global 45))]) 1,
        op 47 (bi .append #[(.global 44), (.global 46)] 4) 1,
        op 4 (.move (.global 47))])
      (reg [op 48 (.move (.tmp 8)) 1,
        op 5 (.move (.global 48))])))))
    (reg [op 34 (.move (.tmp 6)) 1,
      op 35 (.binOp .sub 0 (.global 34) (.const (I 1)) 0) 1,
      op 6 (.move (.global 35))]))))))
(.seq (.seq (reg [op 49 (.move (.tmp 5)) 1,
  op 50 (.binOp .neq 0 (.global 49) (.const (S [])) 0) 1,
  op 51 (.move (.global 50)) 1,
  op 52 (.move (.tmp 4)) 1 (some (205, false)),
  op 53 (call (.func 541) #[(.global 52)]) 1 (some (205, false)),
  op 54 (.unOp .not 0 (.global 53)) 1 (some (205, false)),
  op 55 (.pick (.global 51) (.const (B true)) (.global 54))])
(.cond (.tmp 55)
  (.seq (reg [op 2 (.move (.const (sl 0 0 0 0))),
    op 3 (.move (.const (I 8)))])
  .ret)
  .skip))
(.seq (reg [op 56 (.move (.tmp 4)) 1,
  op 2 (.move (.global 56)),
  op 3 (.move (.const (I 0)))])
.ret))))))), [(2, 0), (3, 0)]⟩

/-- impl.UnpackKept -/
def fn135 : AFun := ⟨1,
(.seq (reg [op 2 (.move (.const (sl 0 0 0 0))),
  op 3 (.move (.const (I 0)))])
(.seq (reg [op 7 (.move (.tmp 0)) 1,
  op 8 (call (.func 194) #[(.global 7)]) 1,
  op 4 (.move (.global 8))])
(.seq (.seq (reg [op 10 (.move (.tmp 4)) 1,
  op 11 (call (.func 106) #[(.global 10)]) 1,
  op 9 (.move (.global 11)) 1,
  op 12 (.extract (.global 9) 0) 1,
  op 13 (.extract (.global 9) 1) 1,
  op 5 (.move (.global 12)),
  op 6 (.move (.global 13))])
(.seq (reg [op 14 (.move (.tmp 6)) 1,
  op 15 (.binOp .neq 0 (.global 14) (.const (I 0)) 0) 1,
  op 16 (.move (.global 15)) 1,
  op 17 (.move (.tmp 5)) 1 (some (65, false)),
  op 18 (.move (.tmp 0)) 1 (some (65, false)),
  op 19 (.binOp .neq 0 (.global 17) (.global 18) 0) 1 (some (65, false)),
  op 20 (.pick (.global 16) (.const (B true)) (.global 19))])
(.cond (.tmp 20)
  (.seq (reg [op 2 (.move (.const (sl 0 0 0 0))),
    op 3 (.move (.const (I 8)))])
  .ret)
  .skip)))
(.seq (reg [op 21 (.move (.tmp 4)) 1,
  op 2 (.move (.global 21)),
  op 3 (.move (.const (I 0)))])
.ret)))), [(2, 0), (3, 0)]⟩

/-- spec.KeptWith -/
def fn387 : AFun := ⟨2,
(.seq (reg [op 4 (.move (.const (sl 0 0 0 0))),
  op 5 (.move (.const (I 0)))])
(.seq (.seq (reg [op 8 (.move (.tmp 0)) 1,
  op 9 (call (.func 541) #[(.global 8)]) 1,
  op 10 (.unOp .not 0 (.global 9))])
(.cond (.tmp 10)
  (.seq (reg [op 4 (.move (.const (sl 0 0 0 0))),
    op 5 (.move (.const (I 1)))])
  .ret)
  .skip))
(.seq (reg [op 11 (.move (.const (sl 0 0 0 1))) 1,
  op 6 (.move (.global 11))])
(.seq (.seq (reg [op 7 (.move (.const (I 0)))])
(.block 0
  (.loop
    (.seq (.seq (reg [op 12 (.move (.tmp 7)) 1,
      op 13 (.move (.tmp 0)) 1,
      op 14 (bi .len #[(.global 13)] 1) 1,
      op 15 (.binOp .lss 0 (.global 12) (.global 14) 0)])
    (.cond (.tmp 15)
      .skip
      (.exit 0)))
    (.seq (.block 1
      (.seq (reg [op 18 (.move (.tmp 0)) 1,
        op 19 (.move (.tmp 7)) 1,
        op 20 (.indexAddr 9 (.global 18) (.global 19)) 1,
        op 21 (.fieldAddr 1 (.global 20) 0) 1,
        op 22 (call (.func 465) #[(.global 21)]) 1,
        op 23 (.move (.tmp 1)) 1,
        op 24 (.binOp .eql 0 (.global 22) (.global 23) 0)])
      (.cond (.tmp 24)
        (reg [op 25 (.move (.tmp 6)) 1,
          op 26 (.move (.tmp 0)) 1,
          op 27 (.move (.tmp 7)) 1,
          op 28 (.indexAddr 9 (.global 26) (.global 27)) 1,
          op 29 (.fieldAddr 0 (.global 28) 0) 1,
          op 30 (.load 0 (.global 29)) 1,
          op 31 (.buildSlice 1 1 #[(0, (.const (.agg #[(S [])]))), (1, (.global 30))]) 1,
          op 32 (bi .append #[(.global 25), (.global 31)] 1) 1,
          op 6 (.move (.global 32))])
        .skip)))
    (reg [op 16 (.move (.tmp 7)) 1,
      op 17 (.binOp .add 0 (.global 16) (.const (I 1)) 0) 1,
      op 7 (.move (.global 17))]))))))
(.seq (reg [op 33 (.move (.tmp 6)) 1,
  op 4 (.move (.global 33)),
  op 5 (.move (.const (I 0)))])
.ret))))), [(4, 0), (5, 0)]⟩

/-- impl.KeptWith -/
def fn95 : AFun := ⟨2,
(.seq (reg [op 4 (.move (.const (sl 0 0 0 0))),
  op 5 (.move (.const (I 0)))])
(.seq (.seq (reg [op 9 (.move (.tmp 0)) 1,
  op 10 (call (.func 139) #[(.global 9)]) 1,
  op 11 (.unOp .not 0 (.global 10))])
(.cond (.tmp 11)
  (.seq (reg [op 4 (.move (.const (sl 0 0 0 0))),
    op 5 (.move (.const (I 1)))])
  .ret)
  .skip))
(.seq (reg [op 12 (.move (.const (sl 0 0 0 1))) 1,
  op 6 (.move (.global 12))])
(.seq (.seq (reg [op 13 (.move (.tmp 0)),
  op 14 (bi .len #[(.tmp 13)] 1),
  op 15 (.move (.const (I 0)))])
(.block 0
  (.loop
    (.seq (reg [op 16 (.binOp .lss 0 (.tmp 15) (.tmp 14) 0)])
    (.seq (.cond (.tmp 16)
      .skip
      (.exit 0))
    (.seq (.block 1
      (.seq (reg [op 17 (.indexAddr 9 (.tmp 13) (.tmp 15)) 1,
        op 18 (.load 5 (.global 17)) 1,
        op 8 (.move (.const (.agg #[(S []), (I 0), (I 0), (sl 0 0 0 0)]))),
        op 8 (.insert 4 (.tmp 8) (.tmp 8) (.global 18))])
      (.seq (reg [op 19 (.fieldAddr 1 (.tmp 8) 1) 1,
        op 20 (.lookup 4 (.tmp 8) (.global 19) false) 1,
        op 21 (call (.func 154) #[(.global 20)]) 1,
        op 22 (.move (.tmp 1)) 1,
        op 23 (.binOp .eql 0 (.global 21) (.global 22) 0)])
      (.cond (.tmp 23)
        (reg [op 24 (.move (.tmp 6)) 1,
          op 25 (.fieldAddr 0 (.tmp 8) 1) 1,
          op 26 (.lookup 0 (.tmp 8) (.global 25) false) 1,
          op 27 (.buildSlice 1 1 #[(0, (.const (.agg #[(S [])]))), (1, (.global 26))]) 1,
          op 28 (bi .append #[(.global 24), (.global 27)] 1) 1,
          op 6 (.move (.global 28))])
        .skip))))
    (reg [op 29 (.binOp .add 0 (.tmp 15) (.const (I 1)) 0) 1,
      op 15 (.move (.global 29))])))))))
(.seq (reg [op 30 (.move (.tmp 6)) 1,
  op 4 (.move (.global 30)),
  op 5 (.move (.const (I 0)))])
.ret))))), [(4, 0), (5, 0)]⟩

/-- laws.eqStringS -/
def fn268 : AFun := ⟨2,
(.seq (reg [op 4 (.move (.const (B false)))])
(.seq (.seq (reg [op 6 (.move (.tmp 0)) 1,
  op 7 (bi .len #[(.global 6)] 1) 1,
  op 8 (.move (.tmp 1)) 1,
  op 9 (bi .len #[(.global 8)] 1) 1,
  op 10 (.binOp .neq 0 (.global 7) (.global 9) 0)])
(.cond (.tmp 10)
  (.seq (reg [op 4 (.move (.const (B false)))])
  .ret)
  .skip))
(.seq (.seq (reg [op 5 (.move (.const (I 0)))])
(.block 0
  (.loop
    (.seq (.seq (reg [op 11 (.move (.tmp 5)) 1,
      op 12 (.move (.tmp 0)) 1,
      op 13 (bi .len #[(.global 12)] 1) 1,
      op 14 (.binOp .lss 0 (.global 11) (.global 13) 0)])
    (.cond (.tmp 14)
      .skip
      (.exit 0)))
    (.seq (.block 1
      (.seq (reg [op 17 (.move (.tmp 0)) 1,
        op 18 (.move (.tmp 5)) 1,
        op 19 (.indexAddr 3 (.global 17) (.global 18)) 1,
        op 20 (.load 0 (.global 19)) 1,
        op 21 (.move (.tmp 1)) 1,
        op 22 (.move (.tmp 5)) 1,
        op 23 (.indexAddr 3 (.global 21) (.global 22)) 1,
        op 24 (.load 0 (.global 23)) 1,
        op 25 (.binOp .neq 0 (.global 20) (.global 24) 0)])
      (.cond (.tmp 25)
        (.seq (reg [op 4 (.move (.const (B false)))])
        .ret)
        .skip)))
    (reg [op 15 (.move (.tmp 5)) 1,
      op 16 (.binOp .add 0 (.global 15) (.const (I 1)) 0) 1,
      op 5 (.move (.global 16))]))))))
(.seq (reg [op 4 (.move (.const (B true)))])
.ret)))), [(4, 0)]⟩

/-- laws.markStringS -/
def fn288 : AFun := ⟨2,
(.seq (reg [op 4 (.move (.const (I 0)))])
(.seq (.seq (reg [op 5 (.move (.const (I 0)))])
(.block 0
  (.loop
    (.seq (.seq (reg [op 6 (.move (.tmp 5)) 1,
      op 7 (.move (.tmp 0)) 1,
      op 8 (bi .len #[(.global 7)] 1) 1,
      op 9 (.binOp .lss 0 (.global 6) (.global 8) 0)])
    (.cond (.tmp 9)
      .skip
      (.exit 0)))
    (.seq (.block 1
      (.seq (reg [op 12 (.move (.tmp 0)) 1,
        op 13 (.move (.tmp 5)) 1,
        op 14 (.move (.tmp 1)) 1,
        op 15 (call (.func 289) #[(.global 14)]) 1,
        op 16 (.indexAddr 3 (.global 12) (.global 13)) 1,
        opn (.store 1 (.global 16) (.global 15))])
      (reg [op 17 (.move (.tmp 1)) 1,
        op 18 (.binOp .add 0 (.global 17) (.const (I 1)) 0) 1,
        op 1 (.move (.global 18))])))
    (reg [op 10 (.move (.tmp 5)) 1,
      op 11 (.binOp .add 0 (.global 10) (.const (I 1)) 0) 1,
      op 5 (.move (.global 11))]))))))
(.seq (reg [op 19 (.move (.tmp 1)) 1,
  op 4 (.move (.global 19))])
.ret))), [(4, 0)]⟩

/-- laws.heldStringS -/
def fn281 : AFun := ⟨2,
(.seq (reg [op 4 (.move (.const (I 0)))])
(.seq (.seq (reg [op 5 (.move (.const (I 0)))])
(.block 0
  (.loop
    (.seq (.seq (reg [op 6 (.move (.tmp 5)) 1,
      op 7 (.move (.tmp 0)) 1,
      op 8 (bi .len #[(.global 7)] 1) 1,
      op 9 (.binOp .lss 0 (.global 6) (.global 8) 0)])
    (.cond (.tmp 9)
      .skip
      (.exit 0)))
    (.seq (.block 1
      (.seq (.seq (reg [op 12 (.move (.tmp 0)) 1,
        op 13 (.move (.tmp 5)) 1,
        op 14 (.indexAddr 3 (.global 12) (.global 13)) 1,
        op 15 (.load 0 (.global 14)) 1,
        op 16 (.move (.tmp 1)) 1,
        op 17 (call (.func 289) #[(.global 16)]) 3,
        op 18 (.binOp .neq 0 (.global 15) (.global 17) 0)])
      (.cond (.tmp 18)
        (.seq (reg [op 4 (.move (.const (I (-1))))])
        .ret)
        .skip))
      (reg [op 19 (.move (.tmp 1)) 1,
        op 20 (.binOp .add 0 (.global 19) (.const (I 1)) 0) 1,
        op 1 (.move (.global 20))])))
    (reg [op 10 (.move (.tmp 5)) 1,
      op 11 (.binOp .add 0 (.global 10) (.const (I 1)) 0) 1,
      op 5 (.move (.global 11))]))))))
(.seq (reg [op 21 (.move (.tmp 1)) 1,
  op 4 (.move (.global 21))])
.ret))), [(4, 0)]⟩

/-- spec.ReadKept -/
def fn412 : AFun := ⟨1,
(.seq (reg [op 2 (.move (.const (sl 0 0 0 0))),
  op 3 (.move (.const (B false)))])
(.seq (reg [op 10 (.move (.tmp 0)) 1,
  op 11 (call (.func 441) #[(.global 10), (.const (U 10))]) 1,
  op 4 (.move (.global 11))])
(.seq (reg [op 12 (.move (.const (sl 0 0 0 4))) 1,
  op 5 (.move (.global 12))])
(.seq (.seq (reg [op 13 (.move (.tmp 4)) 1,
  op 14 (.move (.tmp 4)) 1,
  op 15 (bi .len #[(.global 14)] 1) 1,
  op 16 (.binOp .sub 0 (.global 15) (.const (I 1)) 0) 1,
  op 17 (.indexAddr 3 (.global 13) (.global 16)) 1,
  op 18 (.load 0 (.global 17)) 1,
  op 19 (.binOp .neq 0 (.global 18) (.const (S [])) 0) 1,
  op 20 (.move (.global 19)) 1,
  op 21 (.move (.tmp 4)) 1 (some (81, false)),
  op 22 (bi .len #[(.global 21)] 1) 1 (some (81, false)),
  op 23 (.binOp .gtr 0 (.global 22) (.const (I 41)) 0) 1 (some (81, false)),
  op 24 (.pick (.global 20) (.const (B true)) (.global 23))])
(.cond (.tmp 24)
  (.seq (reg [op 2 (.move (.const (sl 0 0 0 0))),
    op 3 (.move (.const (B false)))])
  .ret)
  .skip))
(.seq (.seq (reg [op 6 (.move (.const (I 0)))])
(.block 0
  (.loop
    (.seq (.seq (reg [op 25 (.move (.tmp 6)) 1,
      op 26 (.move (.tmp 4)) 1,
      op 27 (bi .len #[(.global 26)] 1) 1,
      op 28 (.binOp .sub 0 (.global 27) (.const (I 1)) 0) 1,
      op 29 (.binOp .lss 0 (.global 25) (.global 28) 0)])
    (.cond (.tmp 29)
      .skip
      (.exit 0)))
    (.seq (.block 1
      (.seq (reg [op 32 (.move (.tmp 4)) 1,
        op 33 (.move (.tmp 6)) 1,
        op 34 (.indexAddr 3 (.global 32) (.global 33)) 1,
        op 35 (.load 0 (.global 34)) 1,
        op 36 (call (.func 441) #[(.global 35), (.const (U 32))]) 1,
        op 7 (.move (.global 36))])
      (.seq (.seq (reg [op 37 (.move (.tmp 7)) 1,
        op 38 (bi .len #[(.global 37)] 1) 1,
        op 39 (.binOp .neq 0 (.global 38) (.const (I 2)) 0)])
      (.cond (.tmp 39)
        (.seq (reg [op 2 (.move (.const (sl 0 0 0 0))),
          op 3 (.move (.const (B false)))])
        .ret)
        .skip))
      (.seq (reg [op 41 (.move (.tmp 7)) 1,
        op 42 (.indexAddr 3 (.global 41) (.const (I 1))) 1,
        op 43 (.load 0 (.global 42)) 1,
        op 44 (call (.func 413) #[(.global 43)]) 1,
        op 40 (.move (.global 44)) 1,
        op 45 (.extract (.global 40) 0) 1,
        op 46 (.extract (.global 40) 1) 1,
        op 8 (.move (.const (.agg #[(I 0), (I 0), (sl 0 0 0 0)]))),
        op 8 (.insert 3 (.tmp 8) (.tmp 8) (.global 45)),
        op 9 (.move (.global 46))])
      (.seq (.seq (reg [op 47 (.move (.tmp 9)) 1,
        op 48 (.unOp .not 0 (.global 47))])
      (.cond (.tmp 48)
        (.seq (reg [op 2 (.move (.const (sl 0 0 0 0))),
          op 3 (.move (.const (B false)))])
        .ret)
        .skip))
      (reg [op 49 (.move (.tmp 5)) 1,
        op 50 (.move (.tmp 7)) 1,
        op 51 (.indexAddr 3 (.global 50) (.const (I 0))) 1,
        op 52 (.load 0 (.global 51)) 1,
        op 53 (.lookup 4 (.tmp 8) (.tmp 8) false) 1,
        op 54 (.build 0 #[(0, (.const (.agg #[(S []), (I 0), (I 0), (sl 0 0 0 0)]))), (1, (.global 52)), (1003, (.global 53))]) 1,
        op 55 (.buildSlice 4 1 #[(0, (.const (.agg #[(S []), (I 0), (I 0), (sl 0 0 0 0)]))), (4, (.global 54))]) 1,
        op 56 (bi .append #[(.global 49), (.global 55)] 4) 1,
        op 5 (.move (.global 56))]))))))
    (reg [op 30 (.move (.tmp 6)) 1,
      op 31 (.binOp .add 0 (.global 30) (.const (I 1)) 0) 1,
      op 6 (.move (.global 31))]))))))
(.seq (.seq (reg [op 57 (.move (.tmp 5)) 1,
  op 58 (call (.func 541) #[(.global 57)]) 1,
  op 59 (.unOp .not 0 (.global 58))])
(.cond (.tmp 59)
  (.seq (reg [op 2 (.move (.const (sl 0 0 0 0))),
    op 3 (.move (.const (B false)))])
  .ret)
  .skip))
(.seq (reg [op 60 (.move (.tmp 5)) 1,
  op 2 (.move (.global 60)),
  op 3 (.move (.const (B true)))])
.ret))))))), [(2, 0), (3, 0)]⟩

/-- impl.ReadKept -/
def fn121 : AFun := ⟨1,
(.seq (reg [op 2 (.move (.const (sl 0 0 0 0))),
  op 3 (.move (.const (B false)))])
(.seq (reg [op 13 (.move (.tmp 0)) 1,
  op 14 (call (.func 170) #[(.global 13)]) 1,
  op 12 (.move (.global 14)) 1,
  op 15 (.extract (.global 12) 0) 1,
  op 16 (.extract (.global 12) 1) 1,
  op 4 (.move (.global 15)),
  op 5 (.move (.global 16))])
(.seq (.seq (reg [op 17 (.move (.tmp 5)) 1,
  op 18 (.unOp .not 0 (.global 17)) 1,
  op 19 (.move (.global 18)) 1,
  op 20 (.move (.tmp 4)) 1 (some (77, false)),
  op 21 (bi .len #[(.global 20)] 1) 1 (some (77, false)),
  op 22 (.binOp .gtr 0 (.global 21) (.const (I 40)) 0) 1 (some (77, false)),
  op 23 (.pick (.global 19) (.const (B true)) (.global 22))])
(.cond (.tmp 23)
  (.seq (reg [op 2 (.move (.const (sl 0 0 0 0))),
    op 3 (.move (.const (B false)))])
  .ret)
  .skip))
(.seq (reg [op 24 (.move (.const (sl 0 0 0 4))) 1,
  op 6 (.move (.global 24))])
(.seq (.seq (reg [op 25 (.move (.tmp 4)),
  op 26 (bi .len #[(.tmp 25)] 1),
  op 27 (.move (.const (I 0)))])
(.block 0
  (.loop
    (.seq (reg [op 28 (.binOp .lss 0 (.tmp 27) (.tmp 26) 0)])
    (.seq (.cond (.tmp 28)
      .skip
      (.exit 0))
    (.seq (.block 1
      (.seq (reg [op 29 (.indexAddr 3 (.tmp 25) (.tmp 27)) 1,
        op 30 (.load 0 (.global 29)) 1,
        op 8 (.move (.global 30))])
      (.seq (reg [op 31 (.move (.tmp 8)) 1,
        op 32 (call (.func 183) #[(.global 31), (.const (U 32)), (.const (I 0))]) 1,
        op 9 (.move (.global 32))])
      (.seq (.seq (reg [op 33 (.move (.tmp 9)) 1,
        op 34 (.binOp .lss 0 (.global 33) (.const (I 0)) 0)])
      (.cond (.tmp 34)
        (.seq (reg [op 2 (.move (.const (sl 0 0 0 0))),
          op 3 (.move (.const (B false)))])
        .ret)
        .skip))
      (.seq (reg [op 36 (.move (.tmp 8)) 1,
        op 37 (.move (.tmp 9)) 1,
        op 38 (.binOp .add 0 (.global 37) (.const (I 1)) 0) 1,
        op 39 (.slice 0 (.global 36) (some (.global 38)) none none) 1,
        op 40 (call (.func 122) #[(.global 39)]) 1,
        op 35 (.move (.global 40)) 1,
        op 41 (.extract (.global 35) 0) 1,
        op 42 (.extract (.global 35) 1) 1,
        op 10 (.move (.const (.agg #[(I 0), (I 0), (sl 0 0 0 0)]))),
        op 10 (.insert 3 (.tmp 10) (.tmp 10) (.global 41)),
        op 11 (.move (.global 42))])
      (.seq (.seq (reg [op 43 (.move (.tmp 11)) 1,
        op 44 (.unOp .not 0 (.global 43))])
      (.cond (.tmp 44)
        (.seq (reg [op 2 (.move (.const (sl 0 0 0 0))),
          op 3 (.move (.const (B false)))])
        .ret)
        .skip))
      (reg [op 45 (.move (.tmp 6)) 1,
        op 46 (.move (.tmp 8)) 1,
        op 47 (.move (.tmp 9)) 1,
        op 48 (.slice 0 (.global 46) none (some (.global 47)) none) 1,
        op 49 (.lookup 4 (.tmp 10) (.tmp 10) false) 1,
        op 50 (.build 0 #[(0, (.const (.agg #[(S []), (I 0), (I 0), (sl 0 0 0 0)]))), (1, (.global 48)), (1003, (.global 49))]) 1,
        op 51 (.buildSlice 4 1 #[(0, (.const (.agg #[(S []), (I 0), (I 0), (sl 0 0 0 0)]))), (4, (.global 50))]) 1,
        op 52 (bi .append #[(.global 45), (.global 51)] 4) 1,
        op 6 (.move (.global 52))])))))))
    (reg [op 53 (.binOp .add 0 (.tmp 27) (.const (I 1)) 0) 1,
      op 27 (.move (.global 53))])))))))
(.seq (.seq (reg [op 54 (.move (.tmp 6)) 1,
  op 55 (call (.func 139) #[(.global 54)]) 1,
  op 56 (.unOp .not 0 (.global 55))])
(.cond (.tmp 56)
  (.seq (reg [op 2 (.move (.const (sl 0 0 0 0))),
    op 3 (.move (.const (B false)))])
  .ret)
  .skip))
(.seq (reg [op 57 (.move (.tmp 6)) 1,
  op 2 (.move (.global 57)),
  op 3 (.move (.const (B true)))])
.ret))))))), [(2, 0), (3, 0)]⟩

/-- spec.AddKept -/
def fn329 : AFun := ⟨3,
(.seq (reg [op 5 (.box 3 (.tmp 2)),
  op 6 (.move (.const (sl 0 0 0 0))),
  op 7 (.move (.const (I 0)))])
(.seq (.seq (reg [op 9 (.move (.tmp 0)) 1,
  op 10 (call (.func 541) #[(.global 9)]) 1,
  op 11 (.unOp .not 0 (.global 10)) 1,
  op 12 (.move (.global 11)) 1,
  op 13 (call (.func 452) #[(.tmp 5)]) 1 (some (49, false)),
  op 14 (.unOp .not 0 (.global 13)) 1 (some (49, false)),
  op 15 (.pick (.global 12) (.const (B true)) (.global 14))])
(.cond (.tmp 15)
  (.seq (reg [op 6 (.move (.const (sl 0 0 0 0))),
    op 7 (.move (.const (I 1)))])
  .ret)
  .skip))
(.seq (.seq (reg [op 16 (.move (.tmp 1)) 1,
  op 17 (call (.func 383) #[(.global 16)]) 1,
  op 18 (.unOp .not 0 (.global 17))])
(.cond (.tmp 18)
  (.seq (reg [op 6 (.move (.const (sl 0 0 0 0))),
    op 7 (.move (.const (I 7)))])
  .ret)
  .skip))
(.seq (reg [op 19 (call (.func 476) #[(.tmp 5)]) 1,
  op 8 (.box 3 (.const (.agg #[(I 0), (I 0), (sl 0 0 0 0)]))),
  opn (.store 3 (.tmp 8) (.global 19))])
(.seq (.seq (reg [op 20 (.move (.tmp 0)) 1,
  op 21 (.move (.tmp 1)) 1,
  op 22 (call (.func 538) #[(.global 20), (.global 21)]) 1,
  op 23 (.binOp .geq 0 (.global 22) (.const (I 0)) 0) 1,
  op 24 (.move (.global 23)) 1,
  op 25 (.move (.tmp 0)) 1 (some (97, false)),
  op 26 (call (.func 539) #[(.global 25), (.tmp 8)]) 1 (some (97, false)),
  op 27 (.binOp .geq 0 (.global 26) (.const (I 0)) 0) 1 (some (97, false)),
  op 28 (.pick (.global 24) (.const (B true)) (.global 27))])
(.cond (.tmp 28)
  (.seq (reg [op 6 (.move (.const (sl 0 0 0 0))),
    op 7 (.move (.const (I 4)))])
  .ret)
  .skip))
(.seq (.seq (reg [op 29 (.move (.tmp 0)) 1,
  op 30 (bi .len #[(.global 29)] 1) 1,
  op 31 (.binOp .geq 0 (.global 30) (.const (I 40)) 0)])
(.cond (.tmp 31)
  (.seq (reg [op 6 (.move (.const (sl 0 0 0 0))),
    op 7 (.move (.const (I 5)))])
  .ret)
  .skip))
(.seq (reg [op 32 (.move (.tmp 0)) 1,
  op 33 (.move (.tmp 1)) 1,
  op 34 (.load 4 (.tmp 8)) 1,
  op 35 (.build 0 #[(0, (.const (.agg #[(S []), (I 0), (I 0), (sl 0 0 0 0)]))), (1, (.global 33)), (1003, (.global 34))]) 1,
  op 36 (call (.func 544) #[(.global 32), (.global 35)]) 1,
  op 37 (call (.func 542) #[(.global 36)]) 1,
  op 6 (.move (.global 37)),
  op 7 (.move (.const (I 0)))])
.ret))))))), [(6, 0), (7, 0)]⟩

/-- impl.AddKept -/
def fn61 : AFun := ⟨3,
(.seq (reg [op 5 (.makeChan 3 (.tmp 2)),
  op 6 (.move (.const (sl 0 0 0 0))),
  op 7 (.move (.const (I 0)))])
(.seq (.seq (reg [op 9 (.move (.tmp 0)) 1,
  op 10 (call (.func 139) #[(.global 9)]) 1,
  op 11 (.unOp .not 0 (.global 10)) 1,
  op 12 (.move (.global 11)) 1,
  op 13 (.lookup 4 (.tmp 5) (.tmp 5) false) 1 (some (49, false)),
  op 14 (call (.func 140) #[(.global 13)]) 1 (some (49, false)),
  op 15 (.unOp .not 0 (.global 14)) 1 (some (49, false)),
  op 16 (.pick (.global 12) (.const (B true)) (.global 15))])
(.cond (.tmp 16)
  (.seq (reg [op 6 (.move (.const (sl 0 0 0 0))),
    op 7 (.move (.const (I 1)))])
  .ret)
  .skip))
(.seq (reg [op 17 (.lookup 4 (.tmp 5) (.tmp 5) false) 1,
  op 18 (call (.func 147) #[(.global 17)]) 1,
  op 8 (.move (.const (.agg #[(I 0), (I 0), (sl 0 0 0 0)]))),
  op 8 (.insert 3 (.tmp 8) (.tmp 8) (.global 18))])
(.seq (.block 0
  (.seq (reg [op 20 (.move (.tmp 1)) 1,
    op 21 (call (.func 90) #[(.global 20)]) 1,
    op 22 (.unOp .not 0 (.global 21)) 1,
    op 19 (.move (.global 22))])
  (.cond (.tmp 19)
    (.seq (reg [op 6 (.move (.const (sl 0 0 0 0))),
      op 7 (.move (.const (I 7)))])
    .ret)
    (.seq (reg [op 24 (.move (.tmp 0)) 1,
      op 25 (.move (.tmp 1)) 1,
      op 26 (call (.func 159) #[(.global 24), (.global 25)]) 1,
      op 27 (.binOp .geq 0 (.global 26) (.const (I 0)) 0) 1,
      op 28 (.move (.global 27)) 1,
      op 29 (.move (.tmp 0)) 1 (some (113, false)),
      op 30 (.lookup 4 (.tmp 8) (.tmp 8) false) 1 (some (113, false)),
      op 31 (call (.func 161) #[(.global 29), (.global 30)]) 1 (some (113, false)),
      op 32 (.binOp .geq 0 (.global 31) (.const (I 0)) 0) 1 (some (113, false)),
      op 33 (.pick (.global 28) (.const (B true)) (.global 32)) 1,
      op 23 (.move (.global 33))])
    (.cond (.tmp 23)
      (.seq (reg [op 6 (.move (.const (sl 0 0 0 0))),
        op 7 (.move (.const (I 4)))])
      .ret)
      (.seq (reg [op 35 (.move (.tmp 0)) 1,
        op 36 (bi .len #[(.global 35)] 1) 1,
        op 37 (.binOp .eql 0 (.global 36) (.const (I 40)) 0) 1,
        op 34 (.move (.global 37))])
      (.cond (.tmp 34)
        (.seq (reg [op 6 (.move (.const (sl 0 0 0 0))),
          op 7 (.move (.const (I 5)))])
        .ret)
        .skip)))))))
(.seq (reg [op 38 (.move (.tmp 0)) 1,
  op 39 (call (.func 149) #[(.global 38)]) 1,
  op 40 (.move (.tmp 1)) 1,
  op 41 (.lookup 4 (.tmp 8) (.tmp 8) false) 1,
  op 42 (.build 0 #[(0, (.const (.agg #[(S []), (I 0), (I 0), (sl 0 0 0 0)]))), (1, (.global 40)), (1003, (.global 41))]) 1,
  op 43 (call (.func 200) #[(.global 39), (.global 42)]) 1,
  op 6 (.move (.global 43)),
  op 7 (.move (.const (I 0)))])
.ret))))), [(6, 0), (7, 0)]⟩

/-- spec.MergeKept -/
def fn390 : AFun := ⟨2,
(.seq (reg [op 4 (.move (.const (sl 0 0 0 0))),
  op 5 (.move (.const (I 0)))])
(.seq (.seq (reg [op 10 (.move (.tmp 0)) 1,
  op 11 (call (.func 541) #[(.global 10)]) 1,
  op 12 (.unOp .not 0 (.global 11)) 1,
  op 13 (.move (.global 12)) 1,
  op 14 (.move (.tmp 1)) 1 (some (53, false)),
  op 15 (call (.func 541) #[(.global 14)]) 1 (some (53, false)),
  op 16 (.unOp .not 0 (.global 15)) 1 (some (53, false)),
  op 17 (.pick (.global 13) (.const (B true)) (.global 16))])
(.cond (.tmp 17)
  (.seq (reg [op 4 (.move (.const (sl 0 0 0 0))),
    op 5 (.move (.const (I 1)))])
  .ret)
  .skip))
(.seq (reg [op 18 (.move (.tmp 0)) 1,
  op 6 (.move (.global 18))])
(.seq (.seq (reg [op 7 (.move (.const (I 0)))])
(.block 0
  (.loop
    (.seq (.seq (reg [op 19 (.move (.tmp 7)) 1,
      op 20 (.move (.tmp 1)) 1,
      op 21 (bi .len #[(.global 20)] 1) 1,
      op 22 (.binOp .lss 0 (.global 19) (.global 21) 0)])
    (.cond (.tmp 22)
      .skip
      (.exit 0)))
    (.seq (.block 1
      (.seq (reg [op 25 (.move (.tmp 6)) 1,
        op 26 (.move (.tmp 1)) 1,
        op 27 (.move (.tmp 7)) 1,
        op 28 (.indexAddr 9 (.global 26) (.global 27)) 1,
        op 29 (.fieldAddr 0 (.global 28) 0) 1,
        op 30 (.load 0 (.global 29)) 1,
        op 31 (call (.func 538) #[(.global 25), (.global 30)]) 1,
        op 8 (.move (.global 31))])
      (.seq (reg [op 32 (.move (.tmp 6)) 1,
        op 33 (.move (.tmp 1)) 1,
        op 34 (.move (.tmp 7)) 1,
        op 35 (.indexAddr 9 (.global 33) (.global 34)) 1,
        op 36 (.fieldAddr 1 (.global 35) 0) 1,
        op 37 (call (.func 539) #[(.global 32), (.global 36)]) 1,
        op 9 (.move (.global 37))])
      (.seq (.seq (reg [op 38 (.move (.tmp 8)) 1,
        op 39 (.move (.tmp 9)) 1,
        op 40 (.binOp .neq 0 (.global 38) (.global 39) 0)])
      (.cond (.tmp 40)
        (.seq (reg [op 4 (.move (.const (sl 0 0 0 0))),
          op 5 (.move (.const (I 4)))])
        .ret)
        .skip))
      (.seq (reg [op 41 (.move (.tmp 8)) 1,
        op 42 (.binOp .lss 0 (.global 41) (.const (I 0)) 0)])
      (.cond (.tmp 42)
        (reg [op 43 (.move (.tmp 6)) 1,
          op 44 (.move (.tmp 1)) 1,
          op 45 (.move (.tmp 7)) 1,
          op 46 (.indexAddr 9 (.global 44) (.global 45)) 1,
          op 47 (.load 5 (.global 46)) 1,
          op 48 (call (.func 544) #[(.global 43), (.global 47)]) 1,
          op 6 (.move (.global 48))])
        .skip))))))
    (reg [op 23 (.move (.tmp 7)) 1,
      op 24 (.binOp .add 0 (.global 23) (.const (I 1)) 0) 1,
      op 7 (.move (.global 24))]))))))
(.seq (.seq (reg [op 49 (.move (.tmp 6)) 1,
  op 50 (bi .len #[(.global 49)] 1) 1,
  op 51 (.binOp .gtr 0 (.global 50) (.const (I 40)) 0)])
(.cond (.tmp 51)
  (.seq (reg [op 4 (.move (.const (sl 0 0 0 0))),
    op 5 (.move (.const (I 5)))])
  .ret)
  .skip))
(.seq (reg [op 52 (.move (.tmp 6)) 1,
  op 53 (call (.func 542) #[(.global 52)]) 1,
  op 4 (.move (.global 53)),
  op 5 (.move (.const (I 0)))])
.ret)))))), [(4, 0), (5, 0)]⟩

/-- impl.MergeKept -/
def fn97 : AFun := ⟨2,
(.seq (reg [op 4 (.move (.const (sl 0 0 0 0))),
  op 5 (.move (.const (I 0)))])
(.seq (.seq (reg [op 11 (.move (.tmp 0)) 1,
  op 12 (call (.func 139) #[(.global 11)]) 1,
  op 13 (.unOp .not 0 (.global 12)) 1,
  op 14 (.move (.global 13)) 1,
  op 15 (.move (.tmp 1)) 1 (some (57, false)),
  op 16 (call (.func 139) #[(.global 15)]) 1 (some (57, false)),
  op 17 (.unOp .not 0 (.global 16)) 1 (some (57, false)),
  op 18 (.pick (.global 14) (.const (B true)) (.global 17))])
(.cond (.tmp 18)
  (.seq (reg [op 4 (.move (.const (sl 0 0 0 0))),
    op 5 (.move (.const (I 1)))])
  .ret)
  .skip))
(.seq (reg [op 19 (.move (.tmp 0)) 1,
  op 20 (call (.func 149) #[(.global 19)]) 1,
  op 6 (.move (.global 20))])
(.seq (.seq (reg [op 21 (.move (.tmp 1)) 1,
  op 22 (call (.func 149) #[(.global 21)]),
  op 23 (bi .len #[(.tmp 22)] 1),
  op 24 (.move (.const (I 0)))])
(.block 0
  (.loop
    (.seq (reg [op 25 (.binOp .lss 0 (.tmp 24) (.tmp 23) 0)])
    (.seq (.cond (.tmp 25)
      .skip
      (.exit 0))
    (.seq (.block 1
      (.seq (reg [op 26 (.indexAddr 9 (.tmp 22) (.tmp 24)) 1,
        op 27 (.load 5 (.global 26)) 1,
        op 8 (.move (.const (.agg #[(S []), (I 0), (I 0), (sl 0 0 0 0)]))),
        op 8 (.insert 4 (.tmp 8) (.tmp 8) (.global 27))])
      (.seq (reg [op 28 (.move (.tmp 0)) 1,
        op 29 (.fieldAddr 0 (.tmp 8) 1) 1,
        op 30 (.lookup 0 (.tmp 8) (.global 29) false) 1,
        op 31 (call (.func 159) #[(.global 28), (.global 30)]) 1,
        op 32 (.move (.tmp 0)) 1,
        op 33 (.fieldAddr 1 (.tmp 8) 1) 1,
        op 34 (.lookup 4 (.tmp 8) (.global 33) false) 1,
        op 35 (call (.func 161) #[(.global 32), (.global 34)]) 1,
        op 9 (.move (.global 31)),
        op 10 (.move (.global 35))])
      (.seq (.seq (reg [op 36 (.move (.tmp 9)) 1,
        op 37 (.move (.tmp 10)) 1,
        op 38 (.binOp .neq 0 (.global 36) (.global 37) 0)])
      (.cond (.tmp 38)
        (.seq (reg [op 4 (.move (.const (sl 0 0 0 0))),
          op 5 (.move (.const (I 4)))])
        .ret)
        .skip))
      (.seq (reg [op 39 (.move (.tmp 9)) 1,
        op 40 (.binOp .lss 0 (.global 39) (.const (I 0)) 0)])
      (.cond (.tmp 40)
        (reg [op 41 (.move (.tmp 6)) 1,
          op 42 (.lookup 5 (.tmp 8) (.tmp 8) false) 1,
          op 43 (call (.func 200) #[(.global 41), (.global 42)]) 1,
          op 6 (.move (.global 43))])
        .skip))))))
    (reg [op 44 (.binOp .add 0 (.tmp 24) (.const (I 1)) 0) 1,
      op 24 (.move (.global 44))])))))))
(.seq (.seq (reg [op 45 (.move (.tmp 6)) 1,
  op 46 (bi .len #[(.global 45)] 1) 1,
  op 47 (.binOp .gtr 0 (.global 46) (.const (I 40)) 0)])
(.cond (.tmp 47)
  (.seq (reg [op 4 (.move (.const (sl 0 0 0 0))),
    op 5 (.move (.const (I 5)))])
  .ret)
  .skip))
(.seq (reg [op 48 (.move (.tmp 6)) 1,
  op 4 (.move (.global 48)),
  op 5 (.move (.const (I 0)))])
.ret)))))), [(4, 0), (5, 0)]⟩

/-- spec.l24Panel -/
def fn543 : AFun := ⟨1,
(.seq (reg [op 2 (.move (.const (.agg #[(I 0), (I 0), (sl 0 0 0 0)])))])
(.seq (reg [op 6 (.move (.tmp 0)) 1,
  op 7 (call (.func 413) #[(.global 6)]) 1,
  op 5 (.move (.global 7)) 1,
  op 8 (.extract (.global 5) 0) 1,
  op 9 (.extract (.global 5) 1) 1,
  op 3 (.box 3 (.const (.agg #[(I 0), (I 0), (sl 0 0 0 0)]))),
  opn (.store 3 (.tmp 3) (.global 8)),
  op 4 (.move (.global 9)) 1])
(.seq (reg [op 10 (call (.func 476) #[(.tmp 3)]) 1,
  op 2 (.insert 3 (.tmp 2) (.tmp 2) (.global 10))])
.ret))), [(2, 1000004)]⟩

/-- impl.newPanel -/
def fn177 : AFun := ⟨2,
(.seq (reg [op 4 (.move (.const (.agg #[(I 0), (I 0), (sl 0 0 0 0)])))])
(.seq (reg [op 5 (.move (.tmp 0)) 1,
  op 6 (.move (.tmp 1)) 1,
  op 7 (.move (.tmp 0)) 1,
  op 8 (.move (.tmp 1)) 1,
  op 9 (call (.func 166) #[(.global 7), (.global 8)]) 1,
  op 10 (.mapUpdate 1 (.global 9) (.global 9) (.const (.agg #[(I 0)]))) 1,
  op 11 (.build 0 #[(0, (.const (.agg #[(I 0), (I 0), (sl 0 0 0 0)]))), (1, (.global 5)), (1001, (.global 6)), (2001, (.global 10))]) 1,
  op 4 (.insert 3 (.tmp 4) (.tmp 4) (.global 11))])
.ret)), [(4, 1000004)]⟩

/-- impl.canonical -/
def fn147 : AFun := ⟨1,
(.seq (reg [op 1 (.makeChan 3 (.tmp 0)),
  op 2 (.move (.const (.agg #[(I 0), (I 0), (sl 0 0 0 0)])))])
(.seq (reg [op 6 (.lookup 4 (.tmp 1) (.tmp 1) false) 1,
  op 7 (call (.func 173) #[(.global 6), (.const (I 0))]) 1,
  op 3 (.move (.const (.agg #[(I 0), (I 0), (sl 0 0 0 0)]))),
  op 3 (.insert 3 (.tmp 3) (.tmp 3) (.global 7))])
(.seq (.seq (reg [op 4 (.move (.const (I 1)))])
(.block 0
  (.loop
    (.seq (.seq (reg [op 8 (.move (.tmp 4)) 1,
      op 9 (.binOp .leq 0 (.global 8) (.const (I 7)) 0)])
    (.cond (.tmp 9)
      .skip
      (.exit 0)))
    (.seq (.block 1
      (.seq (reg [op 12 (.lookup 4 (.tmp 1) (.tmp 1) false) 1,
        op 13 (.move (.tmp 4)) 1,
        op 14 (call (.func 173) #[(.global 12), (.global 13)]) 1,
        op 5 (.move (.const (.agg #[(I 0), (I 0), (sl 0 0 0 0)]))),
        op 5 (.insert 3 (.tmp 5) (.tmp 5) (.global 14))])
      (.seq (reg [op 15 (.lookup 4 (.tmp 5) (.tmp 5) false) 1,
        op 16 (.lookup 4 (.tmp 3) (.tmp 3) false) 1,
        op 17 (call (.func 70) #[(.global 15), (.global 16)]) 1,
        op 18 (.binOp .lss 0 (.global 17) (.const (I 0)) 0)])
      (.cond (.tmp 18)
        (reg [op 19 (.lookup 4 (.tmp 5) (.tmp 5) false) 1,
          op 3 (.insert 3 (.tmp 3) (.tmp 3) (.global 19))])
        .skip))))
    (reg [op 10 (.move (.tmp 4)) 1,
      op 11 (.binOp .add 0 (.global 10) (.const (I 1)) 0) 1,
      op 4 (.move (.global 11))]))))))
(.seq (reg [op 20 (.lookup 4 (.tmp 3) (.tmp 3) false) 1,
  op 2 (.insert 3 (.tmp 2) (.tmp 2) (.global 20))])
.ret)))), [(2, 1000004)]⟩

/-- laws.eqKept -/
def fn263 : AFun := ⟨2,
(.seq (reg [op 2 (.makeChan 4 (.tmp 0)),
  op 3 (.makeChan 4 (.tmp 1)),
  op 4 (.move (.const (B false)))])
(.seq (.seq (reg [op 5 (.fieldAddr 0 (.tmp 2) 1) 1,
  op 6 (.lookup 0 (.tmp 2) (.global 5) false) 1,
  op 7 (.fieldAddr 0 (.tmp 3) 1) 1,
  op 8 (.lookup 0 (.tmp 3) (.global 7) false) 1,
  op 9 (.binOp .neq 0 (.global 6) (.global 8) 0)])
(.cond (.tmp 9)
  (.seq (reg [op 4 (.move (.const (B false)))])
  .ret)
  .skip))
(.seq (.seq (reg [op 10 (.fieldAddr 1 (.tmp 2) 1) 1,
  op 11 (.lookup 4 (.tmp 2) (.global 10) false) 1,
  op 12 (.fieldAddr 1 (.tmp 3) 1) 1,
  op 13 (.lookup 4 (.tmp 3) (.global 12) false) 1,
  op 14 (call (.func 265) #[(.global 11), (.global 13)]) 1,
  op 15 (.unOp .not 0 (.global 14))])
(.cond (.tmp 15)
  (.seq (reg [op 4 (.move (.const (B false)))])
  .ret)
  .skip))
(.seq (reg [op 4 (.move (.const (B true)))])
.ret)))), [(4, 0)]⟩

/-- laws.markText -/
def fn289 : AFun := ⟨1,
(.seq (reg [op 2 (.move (.const (S [])))])
(.seq (.seq (reg [op 4 (.move (.tmp 0)) 1,
  op 5 (.binOp .leq 0 (.global 4) (.const (I 0)) 0)])
(.cond (.tmp 5)
  (.seq (reg [op 2 (.move (.const (S [109, 48])))])
  .ret)
  .skip))
(.seq (reg [op 3 (.move (.const (S [])))])
(.seq (.block 0
  (.loop
    (.seq (.seq (reg [op 6 (.move (.tmp 0)) 1,
      op 7 (.binOp .gtr 0 (.global 6) (.const (I 0)) 0)])
    (.cond (.tmp 7)
      .skip
      (.exit 0)))
    (.block 1
      (.seq (reg [op 8 (.move (.tmp 0)) 1,
        op 9 (.binOp .rem 0 (.global 8) (.const (I 10)) 0) 1,
        op 10 (.binOp .add 0 (.const (I 48)) (.global 9) 0) 1,
        op 11 (.convert 0 4 (.global 10)) 1,
        op 12 (.buildSlice 1 1 #[(0, (.const (.agg #[(U 0)]))), (1, (.global 11))]) 1,
        op 13 (.convert 0 21 (.global 12)) 1,
        op 14 (.move (.tmp 3)) 1,
        op 15 (.binOp .add 0 (.global 13) (.global 14) 0) 1,
        op 3 (.move (.global 15))])
      (reg [op 16 (.move (.tmp 0)) 1,
        op 17 (.binOp .quo 0 (.global 16) (.const (I 10)) 0) 1,
        op 0 (.move (.global 17))]))))))
(.seq (reg [op 18 (.move (.tmp 3)) 1,
  op 19 (.binOp .add 0 (.const (S [109])) (.global 18) 0) 1,
  op 2 (.move (.global 19))])
.ret))))), [(2, 0)]⟩

/-- laws.markInt64S -/
def fn282 : AFun := ⟨2,
(.seq (reg [op 4 (.move (.const (I 0)))])
(.seq (.seq (reg [op 5 (.move (.const (I 0)))])
(.block 0
  (.loop
    (.seq (.seq (reg [op 6 (.move (.tmp 5)) 1,
      op 7 (.move (.tmp 0)) 1,
      op 8 (bi .len #[(.global 7)] 1) 1,
      op 9 (.binOp .lss 0 (.global 6) (.global 8) 0)])
    (.cond (.tmp 9)
      .skip
      (.exit 0)))
    (.seq (.block 1
      (.seq (reg [op 12 (.move (.tmp 0)) 1,
        op 13 (.move (.tmp 5)) 1,
        op 14 (.move (.tmp 1)) 1,
        op 15 (.indexAddr 3 (.global 12) (.global 13)) 1,
        opn (.store 1 (.global 15) (.global 14))])
      (reg [op 16 (.move (.tmp 1)) 1,
        op 17 (.binOp .add 0 (.global 16) (.const (I 1)) 0) 1,
        op 1 (.move (.global 17))])))
    (reg [op 10 (.move (.tmp 5)) 1,
      op 11 (.binOp .add 0 (.global 10) (.const (I 1)) 0) 1,
      op 5 (.move (.global 11))]))))))
(.seq (reg [op 18 (.move (.tmp 1)) 1,
  op 4 (.move (.global 18))])
.ret))), [(4, 0)]⟩

/-- laws.heldInt64S -/
def fn275 : AFun := ⟨2,
(.seq (reg [op 4 (.move (.const (I 0)))])
(.seq (.seq (reg [op 5 (.move (.const (I 0)))])
(.block 0
  (.loop
    (.seq (.seq (reg [op 6 (.move (.tmp 5)) 1,
      op 7 (.move (.tmp 0)) 1,
      op 8 (bi .len #[(.global 7)] 1) 1,
      op 9 (.binOp .lss 0 (.global 6) (.global 8) 0)])
    (.cond (.tmp 9)
      .skip
      (.exit 0)))
    (.seq (.block 1
      (.seq (.seq (reg [op 12 (.move (.tmp 0)) 1,
        op 13 (.move (.tmp 5)) 1,
        op 14 (.indexAddr 3 (.global 12) (.global 13)) 1,
        op 15 (.load 0 (.global 14)) 1,
        op 16 (.move (.tmp 1)) 1,
        op 17 (.binOp .neq 0 (.global 15) (.global 16) 0)])
      (.cond (.tmp 17)
        (.seq (reg [op 4 (.move (.const (I (-1))))])
        .ret)
        .skip))
      (reg [op 18 (.move (.tmp 1)) 1,
        op 19 (.binOp .add 0 (.global 18) (.const (I 1)) 0) 1,
        op 1 (.move (.global 19))])))
    (reg [op 10 (.move (.tmp 5)) 1,
      op 11 (.binOp .add 0 (.global 10) (.const (I 1)) 0) 1,
      op 5 (.move (.global 11))]))))))
(.seq (reg [op 20 (.move (.tmp 1)) 1,
  op 4 (.move (.global 20))])
.ret))), [(4, 0)]⟩

/-- laws.szKept -/
def fn293 : AFun := ⟨2,
(.seq (reg [op 2 (.makeChan 4 (.tmp 0)),
  op 4 (.move (.const (I 0)))])
(.seq (reg [op 5 (.move (.tmp 1)) 1,
  op 6 (.fieldAddr 0 (.tmp 2) 1) 1,
  op 7 (.lookup 0 (.tmp 2) (.global 6) false) 1,
  op 8 (bi .len #[(.global 7)] 0) 1,
  op 9 (.binOp .sub 0 (.global 5) (.global 8) 0) 1,
  op 1 (.move (.global 9))])
(.seq (.seq (reg [op 10 (.move (.tmp 1)) 1,
  op 11 (.binOp .lss 0 (.global 10) (.const (I 0)) 0)])
(.cond (.tmp 11)
  (.seq (reg [op 4 (.move (.const (I (-1))))])
  .ret)
  .skip))
(.seq (reg [op 12 (.fieldAddr 1 (.tmp 2) 1) 1,
  op 13 (.lookup 4 (.tmp 2) (.global 12) false) 1,
  op 14 (.move (.tmp 1)) 1,
  op 15 (call (.func 295) #[(.global 13), (.global 14)]) 1,
  op 1 (.move (.global 15))])
(.seq (.seq (reg [op 16 (.move (.tmp 1)) 1,
  op 17 (.binOp .lss 0 (.global 16) (.const (I 0)) 0)])
(.cond (.tmp 17)
  (.seq (reg [op 4 (.move (.const (I (-1))))])
  .ret)
  .skip))
(.seq (reg [op 18 (.move (.tmp 1)) 1,
  op 4 (.move (.global 18))])
.ret)))))), [(4, 0)]⟩

/-- spec.l24Ok -/
def fn541 : AFun := ⟨1,
(.seq (reg [op 2 (.move (.const (B false)))])
(.seq (.seq (reg [op 3 (.move (.const (I 0)))])
(.block 0
  (.loop
    (.seq (.seq (reg [op 7 (.move (.tmp 3)) 1,
      op 8 (.move (.tmp 0)) 1,
      op 9 (bi .len #[(.global 8)] 1) 1,
      op 10 (.binOp .lss 0 (.global 7) (.global 9) 0)])
    (.cond (.tmp 10)
      .skip
      (.exit 0)))
    (.seq (.block 1
      (.seq (reg [op 13 (.move (.tmp 0)) 1,
        op 14 (.move (.tmp 3)) 1,
        op 15 (.indexAddr 9 (.global 13) (.global 14)) 1,
        op 4 (.move (.global 15))])
      (.seq (.seq (reg [op 16 (.move (.tmp 4)) 1,
        op 17 (.nilCheck (.global 16)) 1,
        op 18 (.fieldAddr 0 (.global 17) 0) 1,
        op 19 (.load 0 (.global 18)) 1,
        op 20 (call (.func 383) #[(.global 19)]) 1,
        op 21 (.unOp .not 0 (.global 20)) 1,
        op 22 (.move (.global 21)) 1,
        op 23 (.move (.tmp 4)) 1 (some (89, false)),
        op 24 (.nilCheck (.global 23)) 1 (some (89, false)),
        op 25 (.fieldAddr 1 (.global 24) 0) 1 (some (89, false)),
        op 26 (call (.func 452) #[(.global 25)]) 1 (some (89, false)),
        op 27 (.unOp .not 0 (.global 26)) 1 (some (89, false)),
        op 28 (.pick (.global 22) (.const (B true)) (.global 27)) 1,
        op 29 (.move (.global 28)) 1,
        op 30 (.move (.tmp 3)) 1 (some (117, false)),
        op 31 (.binOp .gtr 0 (.global 30) (.const (I 0)) 0) 1 (some (117, false)),
        op 32 (.move (.global 31)) 1 (some (119, false)),
        op 33 (.move (.tmp 0)) 1 (some (129, true)),
        op 34 (.move (.tmp 3)) 1 (some (129, true)),
        op 35 (.binOp .sub 0 (.global 34) (.const (I 1)) 0) 1 (some (129, true)),
        op 36 (.indexAddr 9 (.global 33) (.global 35)) 1 (some (129, true)),
        op 37 (.fieldAddr 0 (.global 36) 0) 1 (some (129, true)),
        op 38 (.load 0 (.global 37)) 1 (some (129, true)),
        op 39 (.move (.tmp 4)) 1 (some (129, true)),
        op 40 (.nilCheck (.global 39)) 1 (some (129, true)),
        op 41 (.fieldAddr 0 (.global 40) 0) 1 (some (129, true)),
        op 42 (.load 0 (.global 41)) 1 (some (129, true)),
        op 43 (.binOp .geq 0 (.global 38) (.global 42) 0) 1 (some (129, true)),
        op 44 (.pick (.global 32) (.global 43) (.const (B false))) 1 (some (117, false)),
        op 45 (.pick (.global 29) (.const (B true)) (.global 44))])
      (.cond (.tmp 45)
        (.seq (reg [op 2 (.move (.const (B false)))])
        .ret)
        .skip))
      (.seq (reg [op 46 (.move (.tmp 4)) 1,
        op 47 (.nilCheck (.global 46)) 1,
        op 48 (.fieldAddr 1 (.global 47) 0) 1,
        op 49 (call (.func 476) #[(.global 48)]) 1,
        op 5 (.box 3 (.const (.agg #[(I 0), (I 0), (sl 0 0 0 0)]))),
        opn (.store 3 (.tmp 5) (.global 49))])
      (.seq (.seq (reg [op 50 (.move (.tmp 4)) 1,
        op 51 (.nilCheck (.global 50)) 1,
        op 52 (.fieldAddr 1 (.global 51) 0) 1,
        op 53 (call (.func 456) #[(.tmp 5), (.global 52)]) 1,
        op 54 (.unOp .not 0 (.global 53))])
      (.cond (.tmp 54)
        (.seq (reg [op 2 (.move (.const (B false)))])
        .ret)
        .skip))
      (.seq (reg [op 6 (.move (.const (I 0)))])
      (.block 2
        (.loop
          (.seq (.seq (reg [op 55 (.move (.tmp 6)) 1,
            op 56 (.move (.tmp 3)) 1,
            op 57 (.binOp .lss 0 (.global 55) (.global 56) 0)])
          (.cond (.tmp 57)
            .skip
            (.exit 2)))
          (.seq (.block 3
            (.seq (reg [op 60 (.move (.tmp 0)) 1,
              op 61 (.move (.tmp 6)) 1,
              op 62 (.indexAddr 9 (.global 60) (.global 61)) 1,
              op 63 (.fieldAddr 1 (.global 62) 0) 1,
              op 64 (.move (.tmp 4)) 1,
              op 65 (.nilCheck (.global 64)) 1,
              op 66 (.fieldAddr 1 (.global 65) 0) 1,
              op 67 (call (.func 456) #[(.global 63), (.global 66)])])
            (.cond (.tmp 67)
              (.seq (reg [op 2 (.move (.const (B false)))])
              .ret)
              .skip)))
          (reg [op 58 (.move (.tmp 6)) 1,
            op 59 (.binOp .add 0 (.global 58) (.const (I 1)) 0) 1,
            op 6 (.move (.global 59))])))))))))))
    (reg [op 11 (.move (.tmp 3)) 1,
      op 12 (.binOp .add 0 (.global 11) (.const (I 1)) 0) 1,
      op 3 (.move (.global 12))]))))))
(.seq (reg [op 68 (.move (.tmp 0)) 1,
  op 69 (bi .len #[(.global 68)] 1) 1,
  op 70 (.binOp .leq 0 (.global 69) (.const (I 40)) 0) 1,
  op 2 (.move (.global 70))])
.ret))), [(2, 0)]⟩

/-- laws.toKept -/
def fn301 : AFun := ⟨1,
(.seq (reg [op 1 (.makeChan 4 (.tmp 0)),
  op 2 (.move (.const (.agg #[(S []), (I 0), (I 0), (sl 0 0 0 0)])))])
(.seq (reg [op 3 (.move (.const (.agg #[(S []), (I 0), (I 0), (sl 0 0 0 0)])))])
(.seq (reg [op 4 (.fieldAddr 0 (.tmp 1) 1) 1,
  op 5 (.lookup 0 (.tmp 1) (.global 4) false) 1,
  op 6 (.fieldAddr 0 (.tmp 3) 1) 1,
  op 3 (.insert 1 (.tmp 3) (.global 6) (.global 5))])
(.seq (reg [op 7 (.fieldAddr 1 (.tmp 1) 1) 1,
  op 8 (.lookup 4 (.tmp 1) (.global 7) false) 1,
  op 9 (call (.func 303) #[(.global 8)]) 1,
  op 10 (.fieldAddr 1 (.tmp 3) 1) 1,
  op 3 (.insert 3 (.tmp 3) (.global 10) (.global 9))])
(.seq (reg [op 11 (.lookup 5 (.tmp 3) (.tmp 3) false) 1,
  op 2 (.insert 4 (.tmp 2) (.tmp 2) (.global 11))])
.ret))))), [(2, 1000005)]⟩

/-- impl.IsName -/
def fn90 : AFun := ⟨1,
(.seq (reg [op 2 (.move (.const (B false)))])
(.seq (.seq (reg [op 5 (.move (.tmp 0)) 1,
  op 6 (bi .len #[(.global 5)] 0) 1,
  op 7 (.binOp .lss 0 (.global 6) (.const (I 1)) 0) 1,
  op 8 (.move (.global 7)) 1,
  op 9 (.move (.tmp 0)) 1 (some (33, false)),
  op 10 (bi .len #[(.global 9)] 0) 1 (some (33, false)),
  op 11 (.binOp .gtr 0 (.global 10) (.const (I 12)) 0) 1 (some (33, false)),
  op 12 (.pick (.global 8) (.const (B true)) (.global 11))])
(.cond (.tmp 12)
  (.seq (reg [op 2 (.move (.const (B false)))])
  .ret)
  .skip))
(.seq (.seq (reg [op 13 (.move (.tmp 0)) 1,
  op 14 (bi .len #[(.global 13)] 0),
  op 15 (.move (.const (I 0)))])
(.block 0
  (.loop
    (.seq (reg [op 16 (.binOp .lss 0 (.tmp 15) (.tmp 14) 0)])
    (.seq (.cond (.tmp 16)
      .skip
      (.exit 0))
    (.seq (.block 1
      (.seq (reg [op 17 (.move (.tmp 15)) 1,
        op 3 (.move (.global 17))])
      (.seq (reg [op 18 (.move (.tmp 0)) 1,
        op 19 (.move (.tmp 3)) 1,
        op 20 (.index 0 (.global 18) (.global 19)) 1,
        op 21 (.binOp .geq 0 (.global 20) (.const (U 97)) 0) 1,
        op 22 (.move (.global 21)) 1,
        op 23 (.move (.tmp 0)) 1 (some (89, true)),
        op 24 (.move (.tmp 3)) 1 (some (89, true)),
        op 25 (.index 0 (.global 23) (.global 24)) 1 (some (89, true)),
        op 26 (.binOp .leq 0 (.global 25) (.const (U 122)) 0) 1 (some (89, true)),
        op 27 (.pick (.global 22) (.global 26) (.const (B false))) 1,
        op 4 (.move (.global 27))])
      (.seq (reg [op 28 (.move (.tmp 4)) 1,
        op 29 (.unOp .not 0 (.global 28)) 1,
        op 30 (.move (.global 29)) 1,
        op 31 (.move (.tmp 3)) 1 (some (121, true)),
        op 32 (.binOp .eql 0 (.global 31) (.const (I 0)) 0) 1 (some (121, true)),
        op 33 (.move (.global 32)) 1 (some (123, true)),
        op 34 (.move (.tmp 0)) 1 (some (133, false)),
        op 35 (.move (.tmp 3)) 1 (some (133, false)),
        op 36 (.index 0 (.global 34) (.global 35)) 1 (some (133, false)),
        op 37 (.binOp .neq 0 (.global 36) (.const (U 45)) 0) 1 (some (133, false)),
        op 38 (.move (.global 37)) 1 (some (135, false)),
        op 39 (.move (.tmp 0)) 1 (some (153, true)),
        op 40 (.move (.tmp 3)) 1 (some (153, true)),
        op 41 (.index 0 (.global 39) (.global 40)) 1 (some (153, true)),
        op 42 (.binOp .lss 0 (.global 41) (.const (U 48)) 0) 1 (some (153, true)),
        op 43 (.move (.global 42)) 1 (some (155, true)),
        op 44 (.move (.tmp 0)) 1 (some (173, false)),
        op 45 (.move (.tmp 3)) 1 (some (173, false)),
        op 46 (.index 0 (.global 44) (.global 45)) 1 (some (173, false)),
        op 47 (.binOp .gtr 0 (.global 46) (.const (U 57)) 0) 1 (some (173, false)),
        op 48 (.pick (.global 43) (.const (B true)) (.global 47)) 1 (some (153, true)),
        op 49 (.pick (.global 38) (.global 48) (.const (B false))) 1 (some (133, false)),
        op 50 (.pick (.global 33) (.const (B true)) (.global 49)) 1 (some (121, true)),
        op 51 (.pick (.global 30) (.global 50) (.const (B false)))])
      (.cond (.tmp 51)
        (.seq (reg [op 2 (.move (.const (B false)))])
        .ret)
        .skip)))))
    (reg [op 52 (.binOp .add 0 (.tmp 15) (.const (I 1)) 0) 1,
      op 15 (.move (.global 52))])))))))
(.seq (reg [op 2 (.move (.const (B true)))])
.ret)))), [(2, 0)]⟩

/-- impl.ValidPanel -/
def fn140 : AFun := ⟨1,
(.seq (reg [op 1 (.makeChan 3 (.tmp 0)),
  op 2 (.move (.const (B false)))])
(.seq (.seq (reg [op 5 (.fieldAddr 0 (.tmp 1) 1) 1,
  op 6 (.lookup 0 (.tmp 1) (.global 5) false) 1,
  op 7 (.fieldAddr 1 (.tmp 1) 1) 1,
  op 8 (.lookup 0 (.tmp 1) (.global 7) false) 1,
  op 9 (call (.func 198) #[(.global 6), (.global 8)]) 1,
  op 10 (.unOp .not 0 (.global 9)) 1,
  op 11 (.move (.global 10)) 1,
  op 12 (.fieldAddr 2 (.tmp 1) 1) 1 (some (45, false)),
  op 13 (.lookup 0 (.tmp 1) (.global 12) false) 1 (some (45, false)),
  op 14 (bi .len #[(.global 13)] 1) 1 (some (45, false)),
  op 15 (.fieldAddr 0 (.tmp 1) 1) 1 (some (45, false)),
  op 16 (.lookup 0 (.tmp 1) (.global 15) false) 1 (some (45, false)),
  op 17 (.fieldAddr 1 (.tmp 1) 1) 1 (some (45, false)),
  op 18 (.lookup 0 (.tmp 1) (.global 17) false) 1 (some (45, false)),
  op 19 (call (.func 166) #[(.global 16), (.global 18)]) 1 (some (45, false)),
  op 20 (.binOp .neq 0 (.global 14) (.global 19) 0) 1 (some (45, false)),
  op 21 (.pick (.global 11) (.const (B true)) (.global 20))])
(.cond (.tmp 21)
  (.seq (reg [op 2 (.move (.const (B false)))])
  .ret)
  .skip))
(.seq (.seq (reg [op 22 (.fieldAddr 2 (.tmp 1) 1) 1,
  op 23 (.lookup 0 (.tmp 1) (.global 22) false),
  op 24 (bi .len #[(.tmp 23)] 1),
  op 25 (.move (.const (I 0)))])
(.block 0
  (.loop
    (.seq (reg [op 26 (.binOp .lss 0 (.tmp 25) (.tmp 24) 0)])
    (.seq (.cond (.tmp 26)
      .skip
      (.exit 0))
    (.seq (.block 1
      (.seq (reg [op 27 (.indexAddr 3 (.tmp 23) (.tmp 25)) 1,
        op 28 (.load 0 (.global 27)) 1,
        op 4 (.move (.global 28))])
      (.seq (reg [op 29 (.move (.tmp 4)) 1,
        op 30 (call (.func 196) #[(.global 29)]) 1,
        op 31 (.unOp .not 0 (.global 30))])
      (.cond (.tmp 31)
        (.seq (reg [op 2 (.move (.const (B false)))])
        .ret)
        .skip))))
    (reg [op 32 (.binOp .add 0 (.tmp 25) (.const (I 1)) 0) 1,
      op 25 (.move (.global 32))])))))))
(.seq (reg [op 2 (.move (.const (B true)))])
.ret)))), [(2, 0)]⟩

/-- impl.SamePanel -/
def fn130 : AFun := ⟨2,
(.seq (reg [op 2 (.makeChan 3 (.tmp 0)),
  op 3 (.makeChan 3 (.tmp 1)),
  op 4 (.move (.const (B false)))])
(.seq (reg [op 5 (.fieldAddr 0 (.tmp 2) 1) 1,
  op 6 (.lookup 0 (.tmp 2) (.global 5) false) 1,
  op 7 (.fieldAddr 0 (.tmp 3) 1) 1,
  op 8 (.lookup 0 (.tmp 3) (.global 7) false) 1,
  op 9 (.binOp .eql 0 (.global 6) (.global 8) 0) 1,
  op 10 (.move (.global 9)) 1,
  op 11 (.fieldAddr 1 (.tmp 2) 1) 1 (some (41, true)),
  op 12 (.lookup 0 (.tmp 2) (.global 11) false) 1 (some (41, true)),
  op 13 (.fieldAddr 1 (.tmp 3) 1) 1 (some (41, true)),
  op 14 (.lookup 0 (.tmp 3) (.global 13) false) 1 (some (41, true)),
  op 15 (.binOp .eql 0 (.global 12) (.global 14) 0) 1 (some (41, true)),
  op 16 (.pick (.global 10) (.global 15) (.const (B false))) 1,
  op 17 (.move (.global 16)) 1,
  op 18 (.fieldAddr 2 (.tmp 2) 1) 1 (some (69, true)),
  op 19 (.lookup 0 (.tmp 2) (.global 18) false) 1 (some (69, true)),
  op 20 (.fieldAddr 2 (.tmp 3) 1) 1 (some (69, true)),
  op 21 (.lookup 0 (.tmp 3) (.global 20) false) 1 (some (69, true)),
  op 22 (call (.func 314) #[(.global 19), (.global 21)]) 1 (some (69, true)),
  op 23 (.pick (.global 17) (.global 22) (.const (B false))) 1,
  op 4 (.move (.global 23))])
.ret)), [(4, 0)]⟩

/-- impl.findPanel -/
def fn161 : AFun := ⟨2,
(.seq (reg [op 3 (.box 3 (.tmp 1)),
  op 4 (.move (.const (I 0)))])
(.seq (reg [op 5 (.move (.tmp 0)) 1,
  op 6 (.makeFunc (.func 162) #[] #[(.tmp 3)]) 1,
  op 7 (call (.func 315) #[(.global 5), (.global 6)]) 1,
  op 4 (.move (.global 7))])
.ret)), [(4, 0)]⟩

/-- laws.szInt64S -/
def fn290 : AFun := ⟨2,
(.seq (reg [op 4 (.move (.const (I 0)))])
(.seq (reg [op 5 (.move (.tmp 1)) 1,
  op 6 (.move (.tmp 0)) 1,
  op 7 (bi .len #[(.global 6)] 1) 1,
  op 8 (.binOp .sub 0 (.global 5) (.global 7) 0) 1,
  op 1 (.move (.global 8))])
(.seq (.seq (reg [op 9 (.move (.tmp 1)) 1,
  op 10 (.binOp .lss 0 (.global 9) (.const (I 0)) 0)])
(.cond (.tmp 10)
  (.seq (reg [op 4 (.move (.const (I (-1))))])
  .ret)
  .skip))
(.seq (reg [op 11 (.move (.tmp 1)) 1,
  op 4 (.move (.global 11))])
.ret)))), [(4, 0)]⟩

/-- spec.l02Ok -/
def fn452 : AFun := ⟨1,
(.seq (reg [op 2 (.move (.const (B false)))])
(.seq (.seq (reg [op 4 (.move (.tmp 0)) 1,
  op 5 (.nilCheck (.global 4)) 1,
  op 6 (.fieldAddr 0 (.global 5) 0) 1,
  op 7 (.load 0 (.global 6)) 1,
  op 8 (call (.func 457) #[(.global 7)]) 1,
  op 9 (.unOp .not 0 (.global 8)) 1,
  op 10 (.move (.global 9)) 1,
  op 11 (.move (.tmp 0)) 1 (some (41, false)),
  op 12 (.nilCheck (.global 11)) 1 (some (41, false)),
  op 13 (.fieldAddr 1 (.global 12) 0) 1 (some (41, false)),
  op 14 (.load 0 (.global 13)) 1 (some (41, false)),
  op 15 (call (.func 457) #[(.global 14)]) 1 (some (41, false)),
  op 16 (.unOp .not 0 (.global 15)) 1 (some (41, false)),
  op 17 (.pick (.global 10) (.const (B true)) (.global 16)) 1,
  op 18 (.move (.global 17)) 1,
  op 19 (.move (.tmp 0)) 1 (some (73, false)),
  op 20 (.nilCheck (.global 19)) 1 (some (73, false)),
  op 21 (.fieldAddr 2 (.global 20) 0) 1 (some (73, false)),
  op 22 (.load 0 (.global 21)) 1 (some (73, false)),
  op 23 (bi .len #[(.global 22)] 1) 1 (some (73, false)),
  op 24 (.move (.tmp 0)) 1 (some (73, false)),
  op 25 (.nilCheck (.global 24)) 1 (some (73, false)),
  op 26 (.fieldAddr 0 (.global 25) 0) 1 (some (73, false)),
  op 27 (.load 0 (.global 26)) 1 (some (73, false)),
  op 28 (.move (.tmp 0)) 1 (some (73, false)),
  op 29 (.nilCheck (.global 28)) 1 (some (73, false)),
  op 30 (.fieldAddr 1 (.global 29) 0) 1 (some (73, false)),
  op 31 (.load 0 (.global 30)) 1 (some (73, false)),
  op 32 (call (.func 448) #[(.global 27), (.global 31)]) 3 (some (73, false)),
  op 33 (.binOp .neq 0 (.global 23) (.global 32) 0) 1 (some (73, false)),
  op 34 (.pick (.global 18) (.const (B true)) (.global 33))])
(.cond (.tmp 34)
  (.seq (reg [op 2 (.move (.const (B false)))])
  .ret)
  .skip))
(.seq (.seq (reg [op 3 (.move (.const (I 0)))])
(.block 0
  (.loop
    (.seq (.seq (reg [op 35 (.move (.tmp 3)) 1,
      op 36 (.move (.tmp 0)) 1,
      op 37 (.nilCheck (.global 36)) 1,
      op 38 (.fieldAddr 2 (.global 37) 0) 1,
      op 39 (.load 0 (.global 38)) 1,
      op 40 (bi .len #[(.global 39)] 1) 1,
      op 41 (.binOp .lss 0 (.global 35) (.global 40) 0)])
    (.cond (.tmp 41)
      .skip
      (.exit 0)))
    (.seq (.block 1
      (.seq (reg [op 44 (.move (.tmp 0)) 1,
        op 45 (.nilCheck (.global 44)) 1,
        op 46 (.fieldAddr 2 (.global 45) 0) 1,
        op 47 (.load 0 (.global 46)) 1,
        op 48 (.move (.tmp 3)) 1,
        op 49 (.indexAddr 3 (.global 47) (.global 48)) 1,
        op 50 (.load 0 (.global 49)) 1,
        op 51 (call (.func 432) #[(.global 50), (.const (I 0)), (.const (I 2))]) 1,
        op 52 (.unOp .not 0 (.global 51))])
      (.cond (.tmp 52)
        (.seq (reg [op 2 (.move (.const (B false)))])
        .ret)
        .skip)))
    (reg [op 42 (.move (.tmp 3)) 1,
      op 43 (.binOp .add 0 (.global 42) (.const (I 1)) 0) 1,
      op 3 (.move (.global 43))]))))))
(.seq (reg [op 2 (.move (.const (B true)))])
.ret)))), [(2, 0)]⟩

/-- spec.l06Least -/
def fn476 : AFun := ⟨1,
(.seq (reg [op 2 (.move (.const (.agg #[(I 0), (I 0), (sl 0 0 0 0)])))])
(.seq (reg [op 6 (.move (.tmp 0)) 1,
  op 7 (call (.func 453) #[(.global 6)]) 1,
  op 3 (.box 3 (.const (.agg #[(I 0), (I 0), (sl 0 0 0 0)]))),
  opn (.store 3 (.tmp 3) (.global 7))])
(.seq (.seq (reg [op 4 (.move (.const (I 1)))])
(.block 0
  (.loop
    (.seq (.seq (reg [op 8 (.move (.tmp 4)) 1,
      op 9 (.binOp .lss 0 (.global 8) (.const (I 8)) 0)])
    (.cond (.tmp 9)
      .skip
      (.exit 0)))
    (.seq (.block 1
      (.seq (reg [op 12 (.move (.tmp 0)) 1,
        op 13 (.move (.tmp 4)) 1,
        op 14 (call (.func 477) #[(.global 12), (.global 13)]) 1,
        op 5 (.box 3 (.const (.agg #[(I 0), (I 0), (sl 0 0 0 0)]))),
        opn (.store 3 (.tmp 5) (.global 14))])
      (.seq (reg [op 15 (call (.func 474) #[(.tmp 5), (.tmp 3)]) 1,
        op 16 (.binOp .lss 0 (.global 15) (.const (I 0)) 0)])
      (.cond (.tmp 16)
        (reg [op 17 (.load 4 (.tmp 5)) 1,
          opn (.store 3 (.tmp 3) (.global 17))])
        .skip))))
    (reg [op 10 (.move (.tmp 4)) 1,
      op 11 (.binOp .add 0 (.global 10) (.const (I 1)) 0) 1,
      op 4 (.move (.global 11))]))))))
(.seq (reg [op 18 (.load 4 (.tmp 3)) 1,
  op 2 (.insert 3 (.tmp 2) (.tmp 2) (.global 18))])
.ret)))), [(2, 1000004)]⟩

/-- spec.l24Like -/
def fn539 : AFun := ⟨2,
(.seq (reg [op 4 (.move (.const (I 0)))])
(.seq (.seq (reg [op 5 (.move (.const (I 0)))])
(.block 0
  (.loop
    (.seq (.seq (reg [op 6 (.move (.tmp 5)) 1,
      op 7 (.move (.tmp 0)) 1,
      op 8 (bi .len #[(.global 7)] 1) 1,
      op 9 (.binOp .lss 0 (.global 6) (.global 8) 0)])
    (.cond (.tmp 9)
      .skip
      (.exit 0)))
    (.seq (.block 1
      (.seq (reg [op 12 (.move (.tmp 0)) 1,
        op 13 (.move (.tmp 5)) 1,
        op 14 (.indexAddr 9 (.global 12) (.global 13)) 1,
        op 15 (.fieldAddr 1 (.global 14) 0) 1,
        op 16 (.move (.tmp 1)) 1,
        op 17 (call (.func 456) #[(.global 15), (.global 16)])])
      (.cond (.tmp 17)
        (.seq (reg [op 18 (.move (.tmp 5)) 1,
          op 4 (.move (.global 18))])
        .ret)
        .skip)))
    (reg [op 10 (.move (.tmp 5)) 1,
      op 11 (.binOp .add 0 (.global 10) (.const (I 1)) 0) 1,
      op 5 (.move (.global 11))]))))))
(.seq (reg [op 4 (.move (.const (I (-1))))])
.ret))), [(4, 0)]⟩

/-- laws.toInt64S -/
def fn297 : AFun := ⟨1,
(.seq (reg [op 2 (.move (.const (sl 0 0 0 0)))])
(.seq (reg [op 5 (.move (.tmp 0)) 1,
  op 6 (bi .len #[(.global 5)] 1) 1,
  op 7 (.mapUpdate 1 (.global 6) (.global 6) (.const (.agg #[(I 0)]))) 1,
  op 3 (.move (.global 7))])
(.seq (.seq (reg [op 4 (.move (.const (I 0)))])
(.block 0
  (.loop
    (.seq (.seq (reg [op 8 (.move (.tmp 4)) 1,
      op 9 (.move (.tmp 0)) 1,
      op 10 (bi .len #[(.global 9)] 1) 1,
      op 11 (.binOp .lss 0 (.global 8) (.global 10) 0)])
    (.cond (.tmp 11)
      .skip
      (.exit 0)))
    (.seq (.block 1
      (reg [op 14 (.move (.tmp 3)) 1,
        op 15 (.move (.tmp 4)) 1,
        op 16 (.move (.tmp 0)) 1,
        op 17 (.move (.tmp 4)) 1,
        op 18 (.indexAddr 3 (.global 16) (.global 17)) 1,
        op 19 (.load 0 (.global 18)) 1,
        op 20 (.indexAddr 3 (.global 14) (.global 15)) 1,
        opn (.store 1 (.global 20) (.global 19))]))
    (reg [op 12 (.move (.tmp 4)) 1,
      op 13 (.binOp .add 0 (.global 12) (.const (I 1)) 0) 1,
      op 4 (.move (.global 13))]))))))
(.seq (reg [op 21 (.move (.tmp 3)) 1,
  op 2 (.move (.global 21))])
.ret)))), [(2, 0)]⟩

/-- laws.eqInt64S -/
def fn259 : AFun := ⟨2,
(.seq (reg [op 4 (.move (.const (B false)))])
(.seq (.seq (reg [op 6 (.move (.tmp 0)) 1,
  op 7 (bi .len #[(.global 6)] 1) 1,
  op 8 (.move (.tmp 1)) 1,
  op 9 (bi .len #[(.global 8)] 1) 1,
  op 10 (.binOp .neq 0 (.global 7) (.global 9) 0)])
(.cond (.tmp 10)
  (.seq (reg [op 4 (.move (.const (B false)))])
  .ret)
  .skip))
(.seq (.seq (reg [op 5 (.move (.const (I 0)))])
(.block 0
  (.loop
    (.seq (.seq (reg [op 11 (.move (.tmp 5)) 1,
      op 12 (.move (.tmp 0)) 1,
      op 13 (bi .len #[(.global 12)] 1) 1,
      op 14 (.binOp .lss 0 (.global 11) (.global 13) 0)])
    (.cond (.tmp 14)
      .skip
      (.exit 0)))
    (.seq (.block 1
      (.seq (reg [op 17 (.move (.tmp 0)) 1,
        op 18 (.move (.tmp 5)) 1,
        op 19 (.indexAddr 3 (.global 17) (.global 18)) 1,
        op 20 (.load 0 (.global 19)) 1,
        op 21 (.move (.tmp 1)) 1,
        op 22 (.move (.tmp 5)) 1,
        op 23 (.indexAddr 3 (.global 21) (.global 22)) 1,
        op 24 (.load 0 (.global 23)) 1,
        op 25 (.binOp .neq 0 (.global 20) (.global 24) 0)])
      (.cond (.tmp 25)
        (.seq (reg [op 4 (.move (.const (B false)))])
        .ret)
        .skip)))
    (reg [op 15 (.move (.tmp 5)) 1,
      op 16 (.binOp .add 0 (.global 15) (.const (I 1)) 0) 1,
      op 5 (.move (.global 16))]))))))
(.seq (reg [op 4 (.move (.const (B true)))])
.ret)))), [(4, 0)]⟩

/-- spec.l27Kept -/
def fn569 : AFun := ⟨1,
(.seq (reg [op 2 (.move (.const (S [])))])
(.seq (reg [op 5 (.move (.tmp 0)) 1,
  op 6 (bi .len #[(.global 5)] 1) 1,
  op 7 (.convert 0 4 (.global 6)) 1,
  op 8 (.buildSlice 1 2 #[(0, (.const (.agg #[(U 0), (U 0)]))), (1, (.const (U 76))), (1001, (.global 7))]) 1,
  op 3 (.move (.global 8))])
(.seq (.seq (reg [op 4 (.move (.const (I 0)))])
(.block 0
  (.loop
    (.seq (.seq (reg [op 9 (.move (.tmp 4)) 1,
      op 10 (.move (.tmp 0)) 1,
      op 11 (bi .len #[(.global 10)] 1) 1,
      op 12 (.binOp .lss 0 (.global 9) (.global 11) 0)])
    (.cond (.tmp 12)
      .skip
      (.exit 0)))
    (.seq (.block 1
      (.seq (reg [op 15 (.move (.tmp 3)) 1,
        op 16 (.move (.tmp 0)) 1,
        op 17 (.move (.tmp 4)) 1,
        op 18 (.indexAddr 9 (.global 16) (.global 17)) 1,
        op 19 (.fieldAddr 0 (.global 18) 0) 1,
        op 20 (.load 0 (.global 19)) 1,
        op 21 (bi .len #[(.global 20)] 0) 1,
        op 22 (.convert 0 4 (.global 21)) 1,
        op 23 (.buildSlice 1 1 #[(0, (.const (.agg #[(U 0)]))), (1, (.global 22))]) 1,
        op 24 (bi .append #[(.global 15), (.global 23)] 1) 1,
        op 3 (.move (.global 24))])
      (.seq (reg [op 25 (.move (.tmp 3)) 1,
        op 26 (.move (.tmp 0)) 1,
        op 27 (.move (.tmp 4)) 1,
        op 28 (.indexAddr 9 (.global 26) (.global 27)) 1,
        op 29 (.fieldAddr 0 (.global 28) 0) 1,
        op 30 (.load 0 (.global 29)) 1,
        op 31 (bi .append #[(.global 25), (.global 30)] 1) 1,
        op 3 (.move (.global 31))])
      (reg [op 32 (.move (.tmp 3)) 1,
        op 33 (.move (.tmp 0)) 1,
        op 34 (.move (.tmp 4)) 1,
        op 35 (.indexAddr 9 (.global 33) (.global 34)) 1,
        op 36 (.fieldAddr 1 (.global 35) 0) 1,
        op 37 (call (.func 571) #[(.global 36)]) 1,
        op 38 (bi .append #[(.global 32), (.global 37)] 1) 1,
        op 3 (.move (.global 38))]))))
    (reg [op 13 (.move (.tmp 4)) 1,
      op 14 (.binOp .add 0 (.global 13) (.const (I 1)) 0) 1,
      op 4 (.move (.global 14))]))))))
(.seq (reg [op 39 (.move (.tmp 3)) 1,
  op 40 (call (.func 568) #[(.global 39)]) 1,
  op 2 (.move (.global 40))])
.ret)))), [(2, 0)]⟩

/-- impl.packPanel -/
def fn180 : AFun := ⟨1,
(.seq (reg [op 1 (.makeChan 3 (.tmp 0)),
  op 2 (.move (.const (S [])))])
(.seq (reg [op 7 (.fieldAddr 0 (.tmp 1) 1) 1,
  op 8 (.lookup 0 (.tmp 1) (.global 7) false) 1,
  op 9 (.convert 0 4 (.global 8)) 1,
  op 10 (.fieldAddr 1 (.tmp 1) 1) 1,
  op 11 (.lookup 0 (.tmp 1) (.global 10) false) 1,
  op 12 (.convert 0 4 (.global 11)) 1,
  op 13 (.buildSlice 1 3 #[(0, (.const (.agg #[(U 0), (U 0), (U 0)]))), (1, (.const (U 77))), (1001, (.global 9)), (2001, (.global 12))]) 1,
  op 3 (.move (.global 13))])
(.seq (.seq (reg [op 4 (.move (.const (I 0)))])
(.block 0
  (.loop
    (.seq (.seq (reg [op 14 (.move (.tmp 4)) 1,
      op 15 (.fieldAddr 2 (.tmp 1) 1) 1,
      op 16 (.lookup 0 (.tmp 1) (.global 15) false) 1,
      op 17 (bi .len #[(.global 16)] 1) 1,
      op 18 (.binOp .lss 0 (.global 14) (.global 17) 0)])
    (.cond (.tmp 18)
      .skip
      (.exit 0)))
    (.seq (.block 1
      (.seq (reg [op 5 (.move (.const (U 0)))])
      (.seq (.seq (reg [op 21 (.move (.tmp 4)) 1,
        op 6 (.move (.global 21))])
      (.block 2
        (.loop
          (.seq (.seq (reg [op 22 (.move (.tmp 6)) 1,
            op 23 (.move (.tmp 4)) 1,
            op 24 (.binOp .add 0 (.global 23) (.const (I 5)) 0) 1,
            op 25 (.binOp .lss 0 (.global 22) (.global 24) 0)])
          (.cond (.tmp 25)
            .skip
            (.exit 2)))
          (.seq (.block 3
            (.seq (reg [op 28 (.move (.tmp 5)) 1,
              op 29 (.binOp .mul 0 (.global 28) (.const (U 3)) 0) 1,
              op 5 (.move (.global 29))])
            (.seq (reg [op 30 (.move (.tmp 6)) 1,
              op 31 (.fieldAddr 2 (.tmp 1) 1) 1,
              op 32 (.lookup 0 (.tmp 1) (.global 31) false) 1,
              op 33 (bi .len #[(.global 32)] 1) 1,
              op 34 (.binOp .lss 0 (.global 30) (.global 33) 0)])
            (.cond (.tmp 34)
              (reg [op 35 (.move (.tmp 5)) 1,
                op 36 (.fieldAddr 2 (.tmp 1) 1) 1,
                op 37 (.lookup 0 (.tmp 1) (.global 36) false) 1,
                op 38 (.move (.tmp 6)) 1,
                op 39 (.indexAddr 3 (.global 37) (.global 38)) 1,
                op 40 (.load 0 (.global 39)) 1,
                op 41 (.convert 0 4 (.global 40)) 1,
                op 42 (.binOp .add 0 (.global 35) (.global 41) 0) 1,
                op 5 (.move (.global 42))])
              .skip))))
          (reg [op 26 (.move (.tmp 6)) 1,
            op 27 (.binOp .add 0 (.global 26) (.const (I 1)) 0) 1,
            op 6 (.move (.global 27))]))))))
      (reg [op 43 (.move (.tmp 3)) 1,
        op 44 (.move (.tmp 5)) 1,
        op 45 (.buildSlice 1 1 #[(0, (.const (.agg #[(U 0)]))), (1, (.global 44))]) 1,
        op 46 (bi .append #[(.global 43), (.global 45)] 1) 1,
        op 3 (.move (.global 46))]))))
    (reg [op 19 (.move (.tmp 4)) 1,
      op 20 (.binOp .add 0 (.global 19) (.const (I 5)) 0) 1,
      op 4 (.move (.global 20))]))))))
(.seq (reg [op 47 (.move (.tmp 3)) 1,
  op 48 (.convert 0 21 (.global 47)) 1,
  op 49 (call (.func 191) #[(.global 48)]) 1,
  op 2 (.move (.global 49))])
.ret)))), [(2, 0)]⟩

/-- impl.summed -/
def fn191 : AFun := ⟨1,
(.seq (reg [op 2 (.move (.const (S [])))])
(.seq (reg [op 4 (.move (.tmp 0)) 1,
  op 5 (call (.func 64) #[(.global 4)]) 1,
  op 3 (.move (.global 5))])
(.seq (reg [op 6 (.move (.tmp 0)) 1,
  op 7 (.move (.tmp 3)) 1,
  op 8 (.binOp .quo 0 (.global 7) (.const (I 256)) 0) 1,
  op 9 (.convert 0 4 (.global 8)) 1,
  op 10 (.move (.tmp 3)) 1,
  op 11 (.binOp .rem 0 (.global 10) (.const (I 256)) 0) 1,
  op 12 (.convert 0 4 (.global 11)) 1,
  op 13 (.buildSlice 1 2 #[(0, (.const (.agg #[(U 0), (U 0)]))), (1, (.global 9)), (1001, (.global 12))]) 1,
  op 14 (.convert 0 21 (.global 13)) 1,
  op 15 (.binOp .add 0 (.global 6) (.global 14) 0) 1,
  op 2 (.move (.global 15))])
.ret))), [(2, 0)]⟩

/-- spec.l24Text -/
def fn545 : AFun := ⟨1,
(.seq (reg [op 2 (.move (.const (S [])))])
(.seq (reg [op 5 (.move (.const (sl 0 0 0 1))) 1,
  op 3 (.move (.global 5))])
(.seq (.seq (reg [op 4 (.move (.const (I 0)))])
(.block 0
  (.loop
    (.seq (.seq (reg [op 6 (.move (.tmp 4)) 1,
      op 7 (.move (.tmp 0)) 1,
      op 8 (bi .len #[(.global 7)] 1) 1,
      op 9 (.binOp .lss 0 (.global 6) (.global 8) 0)])
    (.cond (.tmp 9)
      .skip
      (.exit 0)))
    (.seq (.block 1
      (reg [op 12 (.move (.tmp 3)) 1,
        op 13 (.move (.tmp 0)) 1,
        op 14 (.move (.tmp 4)) 1,
        op 15 (.indexAddr 9 (.global 13) (.global 14)) 1,
        op 16 (.fieldAddr 0 (.global 15) 0) 1,
        op 17 (.load 0 (.global 16)) 1,
        op 18 (.binOp .add 0 (.global 17) (.const (S [32])) 0) 1,
        op 19 (.move (.tmp 0)) 1,
        op 20 (.move (.tmp 4)) 1,
        op 21 (.indexAddr 9 (.global 19) (.global 20)) 1,
        op 22 (.fieldAddr 1 (.global 21) 0) 1,
        op 23 (call (.func 472) #[(.global 22)]) 3,
        op 24 (.binOp .add 0 (.global 18) (.global 23) 0) 1,
        op 25 (.binOp .add 0 (.global 24) (.const (S [10])) 0) 1,
        op 26 (bi .append #[(.global 12), (.global 25)] 1) 1,
        op 3 (.move (.global 26))]))
    (reg [op 10 (.move (.tmp 4)) 1,
      op 11 (.binOp .add 0 (.global 10) (.const (I 1)) 0) 1,
      op 4 (.move (.global 11))]))))))
(.seq (reg [op 27 (.move (.tmp 3)) 1,
  op 28 (.convert 0 21 (.global 27)) 1,
  op 2 (.move (.global 28))])
.ret)))), [(2, 0)]⟩

/-- impl.keptText -/
def fn169 : AFun := ⟨1,
(.seq (reg [op 2 (.move (.const (S [])))])
(.seq (reg [op 3 (.move (.const (S [])))])
(.seq (.seq (reg [op 6 (.move (.tmp 0)),
  op 7 (bi .len #[(.tmp 6)] 1),
  op 8 (.move (.const (I 0)))])
(.block 0
  (.loop
    (.seq (reg [op 9 (.binOp .lss 0 (.tmp 8) (.tmp 7) 0)])
    (.seq (.cond (.tmp 9)
      .skip
      (.exit 0))
    (.seq (.block 1
      (.seq (reg [op 10 (.indexAddr 9 (.tmp 6) (.tmp 8)) 1,
        op 11 (.load 5 (.global 10)) 1,
        op 5 (.move (.const (.agg #[(S []), (I 0), (I 0), (sl 0 0 0 0)]))),
        op 5 (.insert 4 (.tmp 5) (.tmp 5) (.global 11))])
      (reg [op 12 (.move (.tmp 3)) 1,
        op 13 (.fieldAddr 0 (.tmp 5) 1) 1,
        op 14 (.lookup 0 (.tmp 5) (.global 13) false) 1,
        op 15 (.binOp .add 0 (.global 14) (.const (S [32])) 0) 1,
        op 16 (.fieldAddr 1 (.tmp 5) 1) 1,
        op 17 (.lookup 4 (.tmp 5) (.global 16) false) 1,
        op 18 (call (.func 182) #[(.global 17)]) 1,
        op 19 (.binOp .add 0 (.global 15) (.global 18) 0) 1,
        op 20 (.binOp .add 0 (.global 19) (.const (S [10])) 0) 1,
        op 21 (.binOp .add 0 (.global 12) (.global 20) 0) 1,
        op 3 (.move (.global 21))])))
    (reg [op 22 (.binOp .add 0 (.tmp 8) (.const (I 1)) 0) 1,
      op 8 (.move (.global 22))])))))))
(.seq (reg [op 23 (.move (.tmp 3)) 1,
  op 2 (.move (.global 23))])
.ret)))), [(2, 0)]⟩

/-- spec.l24Find -/
def fn538 : AFun := ⟨2,
(.seq (reg [op 4 (.move (.const (I 0)))])
(.seq (.seq (reg [op 5 (.move (.const (I 0)))])
(.block 0
  (.loop
    (.seq (.seq (reg [op 6 (.move (.tmp 5)) 1,
      op 7 (.move (.tmp 0)) 1,
      op 8 (bi .len #[(.global 7)] 1) 1,
      op 9 (.binOp .lss 0 (.global 6) (.global 8) 0)])
    (.cond (.tmp 9)
      .skip
      (.exit 0)))
    (.seq (.block 1
      (.seq (reg [op 12 (.move (.tmp 0)) 1,
        op 13 (.move (.tmp 5)) 1,
        op 14 (.indexAddr 9 (.global 12) (.global 13)) 1,
        op 15 (.fieldAddr 0 (.global 14) 0) 1,
        op 16 (.load 0 (.global 15)) 1,
        op 17 (.move (.tmp 1)) 1,
        op 18 (.binOp .eql 0 (.global 16) (.global 17) 0)])
      (.cond (.tmp 18)
        (.seq (reg [op 19 (.move (.tmp 5)) 1,
          op 4 (.move (.global 19))])
        .ret)
        .skip)))
    (reg [op 10 (.move (.tmp 5)) 1,
      op 11 (.binOp .add 0 (.global 10) (.const (I 1)) 0) 1,
      op 5 (.move (.global 11))]))))))
(.seq (reg [op 4 (.move (.const (I (-1))))])
.ret))), [(4, 0)]⟩

/-- spec.l02Own -/
def fn453 : AFun := ⟨1,
(.seq (reg [op 2 (.move (.const (.agg #[(I 0), (I 0), (sl 0 0 0 0)])))])
(.seq (reg [op 3 (.move (.tmp 0)) 1,
  op 4 (.nilCheck (.global 3)) 1,
  op 5 (.fieldAddr 0 (.global 4) 0) 1,
  op 6 (.load 0 (.global 5)) 1,
  op 7 (.move (.tmp 0)) 1,
  op 8 (.nilCheck (.global 7)) 1,
  op 9 (.fieldAddr 1 (.global 8) 0) 1,
  op 10 (.load 0 (.global 9)) 1,
  op 11 (.move (.tmp 0)) 1,
  op 12 (.nilCheck (.global 11)) 1,
  op 13 (.fieldAddr 2 (.global 12) 0) 1,
  op 14 (.load 0 (.global 13)) 1,
  op 15 (call (.func 435) #[(.global 14)]) 3,
  op 16 (.build 0 #[(0, (.const (.agg #[(I 0), (I 0), (sl 0 0 0 0)]))), (1, (.global 6)), (1001, (.global 10)), (2001, (.global 15))]) 1,
  op 2 (.insert 3 (.tmp 2) (.tmp 2) (.global 16))])
.ret)), [(2, 1000004)]⟩

/-- impl.keptIndex -/
def fn168 : AFun := ⟨2,
(.seq (reg [op 4 (.move (.const (I 0))),
  op 5 (.move (.const (I 0)))])
(.seq (.seq (reg [op 7 (.move (.tmp 0)) 1,
  op 8 (call (.func 139) #[(.global 7)]) 1,
  op 9 (.unOp .not 0 (.global 8))])
(.cond (.tmp 9)
  (.seq (reg [op 4 (.move (.const (I 0))),
    op 5 (.move (.const (I 1)))])
  .ret)
  .skip))
(.seq (reg [op 10 (.move (.tmp 0)) 1,
  op 11 (.move (.tmp 1)) 1,
  op 12 (call (.func 159) #[(.global 10), (.global 11)]) 1,
  op 6 (.move (.global 12))])
(.seq (.seq (reg [op 13 (.move (.tmp 6)) 1,
  op 14 (.binOp .lss 0 (.global 13) (.const (I 0)) 0)])
(.cond (.tmp 14)
  (.seq (reg [op 4 (.move (.const (I 0))),
    op 5 (.move (.const (I 3)))])
  .ret)
  .skip))
(.seq (reg [op 15 (.move (.tmp 6)) 1,
  op 4 (.move (.global 15)),
  op 5 (.move (.const (I 0)))])
.ret))))), [(4, 0), (5, 0)]⟩

/-- impl.clonePanel -/
def fn150 : AFun := ⟨1,
(.seq (reg [op 1 (.makeChan 3 (.tmp 0)),
  op 2 (.move (.const (.agg #[(I 0), (I 0), (sl 0 0 0 0)])))])
(.seq (reg [op 3 (.fieldAddr 2 (.tmp 1) 1) 1,
  op 4 (.lookup 0 (.tmp 1) (.global 3) false) 1,
  op 5 (call (.func 308) #[(.global 4)]) 1,
  op 6 (.fieldAddr 2 (.tmp 1) 1) 1,
  op 1 (.insert 1 (.tmp 1) (.global 6) (.global 5))])
(.seq (reg [op 7 (.lookup 4 (.tmp 1) (.tmp 1) false) 1,
  op 2 (.insert 3 (.tmp 2) (.tmp 2) (.global 7))])
.ret))), [(2, 1000004)]⟩

/-- spec.l24Own -/
def fn542 : AFun := ⟨1,
(.seq (reg [op 2 (.move (.const (sl 0 0 0 0)))])
(.seq (reg [op 5 (.move (.const (sl 0 0 0 4))) 1,
  op 3 (.move (.global 5))])
(.seq (.seq (reg [op 4 (.move (.const (I 0)))])
(.block 0
  (.loop
    (.seq (.seq (reg [op 6 (.move (.tmp 4)) 1,
      op 7 (.move (.tmp 0)) 1,
      op 8 (bi .len #[(.global 7)] 1) 1,
      op 9 (.binOp .lss 0 (.global 6) (.global 8) 0)])
    (.cond (.tmp 9)
      .skip
      (.exit 0)))
    (.seq (.block 1
      (reg [op 12 (.move (.tmp 3)) 1,
        op 13 (.move (.tmp 0)) 1,
        op 14 (.move (.tmp 4)) 1,
        op 15 (.indexAddr 9 (.global 13) (.global 14)) 1,
        op 16 (.fieldAddr 0 (.global 15) 0) 1,
        op 17 (.load 0 (.global 16)) 1,
        op 18 (.move (.tmp 0)) 1,
        op 19 (.move (.tmp 4)) 1,
        op 20 (.indexAddr 9 (.global 18) (.global 19)) 1,
        op 21 (.fieldAddr 1 (.global 20) 0) 1,
        op 22 (call (.func 453) #[(.global 21)]) 3,
        op 23 (.build 0 #[(0, (.const (.agg #[(S []), (I 0), (I 0), (sl 0 0 0 0)]))), (1, (.global 17)), (1003, (.global 22))]) 1,
        op 24 (.buildSlice 4 1 #[(0, (.const (.agg #[(S []), (I 0), (I 0), (sl 0 0 0 0)]))), (4, (.global 23))]) 1,
        op 25 (bi .append #[(.global 12), (.global 24)] 4) 1,
        op 3 (.move (.global 25))]))
    (reg [op 10 (.move (.tmp 4)) 1,
      op 11 (.binOp .add 0 (.global 10) (.const (I 1)) 0) 1,
      op 4 (.move (.global 11))]))))))
(.seq (reg [op 26 (.move (.tmp 3)) 1,
  op 2 (.move (.global 26))])
.ret)))), [(2, 0)]⟩

/-- slices.Delete[[]impl.Kept,impl.Kept] -/
def fn311 : AFun := ⟨3, .goto 9, []⟩

/-- impl.cloneKept -/
def fn149 : AFun := ⟨1,
(.seq (reg [op 2 (.move (.const (sl 0 0 0 0)))])
(.seq (reg [op 6 (.move (.const (sl 0 0 0 4))) 1,
  op 3 (.move (.global 6))])
(.seq (.seq (reg [op 7 (.move (.tmp 0)),
  op 8 (bi .len #[(.tmp 7)] 1),
  op 9 (.move (.const (I 0)))])
(.block 0
  (.loop
    (.seq (reg [op 10 (.binOp .lss 0 (.tmp 9) (.tmp 8) 0)])
    (.seq (.cond (.tmp 10)
      .skip
      (.exit 0))
    (.seq (.block 1
      (.seq (reg [op 11 (.indexAddr 9 (.tmp 7) (.tmp 9)) 1,
        op 12 (.load 5 (.global 11)) 1,
        op 5 (.move (.const (.agg #[(S []), (I 0), (I 0), (sl 0 0 0 0)]))),
        op 5 (.insert 4 (.tmp 5) (.tmp 5) (.global 12))])
      (reg [op 13 (.move (.tmp 3)) 1,
        op 14 (.fieldAddr 0 (.tmp 5) 1) 1,
        op 15 (.lookup 0 (.tmp 5) (.global 14) false) 1,
        op 16 (.fieldAddr 1 (.tmp 5) 1) 1,
        op 17 (.lookup 4 (.tmp 5) (.global 16) false) 1,
        op 18 (call (.func 150) #[(.global 17)]) 1,
        op 19 (.build 0 #[(0, (.const (.agg #[(S []), (I 0), (I 0), (sl 0 0 0 0)]))), (1, (.global 15)), (1003, (.global 18))]) 1,
        op 20 (.buildSlice 4 1 #[(0, (.const (.agg #[(S []), (I 0), (I 0), (sl 0 0 0 0)]))), (4, (.global 19))]) 1,
        op 21 (bi .append #[(.global 13), (.global 20)] 4) 1,
        op 3 (.move (.global 21))])))
    (reg [op 22 (.binOp .add 0 (.tmp 9) (.const (I 1)) 0) 1,
      op 9 (.move (.global 22))])))))))
(.seq (reg [op 23 (.move (.tmp 3)) 1,
  op 2 (.move (.global 23))])
.ret)))), [(2, 0)]⟩

/-- spec.l27Checked -/
def fn566 : AFun := ⟨1,
(.seq (reg [op 2 (.move (.const (B false)))])
(.seq (reg [op 4 (.move (.tmp 0)) 1,
  op 5 (bi .len #[(.global 4)] 0) 1,
  op 3 (.move (.global 5))])
(.seq (.seq (reg [op 6 (.move (.tmp 3)) 1,
  op 7 (.binOp .lss 0 (.global 6) (.const (I 2)) 0)])
(.cond (.tmp 7)
  (.seq (reg [op 2 (.move (.const (B false)))])
  .ret)
  .skip))
(.seq (reg [op 8 (.move (.tmp 0)) 1,
  op 9 (.move (.tmp 3)) 1,
  op 10 (.binOp .sub 0 (.global 9) (.const (I 2)) 0) 1,
  op 11 (.slice 0 (.global 8) none (some (.global 10)) none) 1,
  op 12 (call (.func 573) #[(.global 11)]) 1,
  op 13 (.move (.tmp 0)) 1,
  op 14 (.move (.tmp 3)) 1,
  op 15 (.binOp .sub 0 (.global 14) (.const (I 2)) 0) 1,
  op 16 (.index 0 (.global 13) (.global 15)) 1,
  op 17 (.convert 0 3 (.global 16)) 1,
  op 18 (.binOp .mul 0 (.const (I 256)) (.global 17) 0) 1,
  op 19 (.move (.tmp 0)) 1,
  op 20 (.move (.tmp 3)) 1,
  op 21 (.binOp .sub 0 (.global 20) (.const (I 1)) 0) 1,
  op 22 (.index 0 (.global 19) (.global 21)) 1,
  op 23 (.convert 0 3 (.global 22)) 1,
  op 24 (.binOp .add 0 (.global 18) (.global 23) 0) 1,
  op 25 (.binOp .eql 0 (.global 12) (.global 24) 0) 1,
  op 2 (.move (.global 25))])
.ret)))), [(2, 0)]⟩

/-- spec.l27One -/
def fn570 : AFun := ⟨1,
(.seq (reg [op 2 (.move (.const (.agg #[(S []), (I 0), (I 0), (sl 0 0 0 0)]))),
  op 3 (.move (.const (S []))),
  op 4 (.move (.const (B false)))])
(.seq (.seq (reg [op 10 (.move (.tmp 0)) 1,
  op 11 (.binOp .eql 0 (.global 10) (.const (S [])) 0) 1,
  op 12 (.move (.global 11)) 1,
  op 13 (.move (.tmp 0)) 1 (some (49, false)),
  op 14 (bi .len #[(.global 13)] 0) 1 (some (49, false)),
  op 15 (.move (.tmp 0)) 1 (some (49, false)),
  op 16 (.index 0 (.global 15) (.const (I 0))) 1 (some (49, false)),
  op 17 (.convert 0 3 (.global 16)) 1 (some (49, false)),
  op 18 (.binOp .add 0 (.global 17) (.const (I 4)) 0) 1 (some (49, false)),
  op 19 (.binOp .lss 0 (.global 14) (.global 18) 0) 1 (some (49, false)),
  op 20 (.pick (.global 12) (.const (B true)) (.global 19))])
(.cond (.tmp 20)
  (.seq (reg [op 21 (.build 0 #[(0, (.const (.agg #[(S []), (I 0), (I 0), (sl 0 0 0 0)])))]) 1,
    op 2 (.insert 4 (.tmp 2) (.tmp 2) (.global 21)),
    op 3 (.move (.const (S []))),
    op 4 (.move (.const (B false)))])
  .ret)
  .skip))
(.seq (reg [op 22 (.move (.tmp 0)) 1,
  op 23 (.move (.tmp 0)) 1,
  op 24 (.index 0 (.global 23) (.const (I 0))) 1,
  op 25 (.convert 0 3 (.global 24)) 1,
  op 26 (.binOp .add 0 (.global 25) (.const (I 1)) 0) 1,
  op 27 (.slice 0 (.global 22) (some (.const (I 1))) (some (.global 26)) none) 1,
  op 5 (.move (.global 27))])
(.seq (reg [op 28 (.move (.tmp 0)) 1,
  op 29 (.move (.tmp 0)) 1,
  op 30 (.index 0 (.global 29) (.const (I 0))) 1,
  op 31 (.convert 0 3 (.global 30)) 1,
  op 32 (.binOp .add 0 (.global 31) (.const (I 1)) 0) 1,
  op 33 (.slice 0 (.global 28) (some (.global 32)) none none) 1,
  op 0 (.move (.global 33))])
(.seq (reg [op 34 (.move (.tmp 0)) 1,
  op 35 (.index 0 (.global 34) (.const (I 1))) 1,
  op 36 (.convert 0 3 (.global 35)) 1,
  op 6 (.move (.global 36))])
(.seq (reg [op 37 (.move (.tmp 0)) 1,
  op 38 (.index 0 (.global 37) (.const (I 2))) 1,
  op 39 (.convert 0 3 (.global 38)) 1,
  op 7 (.move (.global 39))])
(.seq (.seq (reg [op 40 (.move (.tmp 6)) 1,
  op 41 (call (.func 457) #[(.global 40)]) 1,
  op 42 (.unOp .not 0 (.global 41)) 1,
  op 43 (.move (.global 42)) 1,
  op 44 (.move (.tmp 7)) 1 (some (173, false)),
  op 45 (call (.func 457) #[(.global 44)]) 1 (some (173, false)),
  op 46 (.unOp .not 0 (.global 45)) 1 (some (173, false)),
  op 47 (.pick (.global 43) (.const (B true)) (.global 46)) 1,
  op 48 (.move (.global 47)) 1,
  op 49 (.move (.tmp 0)) 1 (some (193, false)),
  op 50 (bi .len #[(.global 49)] 0) 1 (some (193, false)),
  op 51 (.move (.tmp 6)) 1 (some (193, false)),
  op 52 (.move (.tmp 7)) 1 (some (193, false)),
  op 53 (call (.func 572) #[(.global 51), (.global 52)]) 1 (some (193, false)),
  op 54 (.binOp .lss 0 (.global 50) (.global 53) 0) 1 (some (193, false)),
  op 55 (.pick (.global 48) (.const (B true)) (.global 54))])
(.cond (.tmp 55)
  (.seq (reg [op 56 (.build 0 #[(0, (.const (.agg #[(S []), (I 0), (I 0), (sl 0 0 0 0)])))]) 1,
    op 2 (.insert 4 (.tmp 2) (.tmp 2) (.global 56)),
    op 3 (.move (.const (S []))),
    op 4 (.move (.const (B false)))])
  .ret)
  .skip))
(.seq (reg [op 58 (.move (.tmp 0)) 1,
  op 59 (.move (.tmp 6)) 1,
  op 60 (.move (.tmp 7)) 1,
  op 61 (call (.func 572) #[(.global 59), (.global 60)]) 1,
  op 62 (.slice 0 (.global 58) none (some (.global 61)) none) 1,
  op 63 (call (.func 574) #[(.global 62)]) 1,
  op 57 (.move (.global 63)) 1,
  op 64 (.extract (.global 57) 0) 1,
  op 65 (.extract (.global 57) 1) 1,
  op 8 (.move (.const (.agg #[(I 0), (I 0), (sl 0 0 0 0)]))),
  op 8 (.insert 3 (.tmp 8) (.tmp 8) (.global 64)),
  op 9 (.move (.global 65))])
(.seq (reg [op 66 (.move (.tmp 5)) 1,
  op 67 (.lookup 4 (.tmp 8) (.tmp 8) false) 1,
  op 68 (.build 0 #[(0, (.const (.agg #[(S []), (I 0), (I 0), (sl 0 0 0 0)]))), (1, (.global 66)), (1003, (.global 67))]) 1,
  op 69 (.move (.tmp 0)) 1,
  op 70 (.move (.tmp 6)) 1,
  op 71 (.move (.tmp 7)) 1,
  op 72 (call (.func 572) #[(.global 70), (.global 71)]) 1,
  op 73 (.slice 0 (.global 69) (some (.global 72)) none none) 1,
  op 74 (.move (.tmp 9)) 1,
  op 75 (.binOp .eql 0 (.global 74) (.const (I 0)) 0) 1,
  op 2 (.insert 4 (.tmp 2) (.tmp 2) (.global 68)),
  op 3 (.move (.global 73)),
  op 4 (.move (.global 75))])
.ret))))))))), [(2, 1000005), (3, 0), (4, 0)]⟩

/-- impl.unpackKept -/
def fn194 : AFun := ⟨1,
(.seq (reg [op 2 (.move (.const (sl 0 0 0 0)))])
(.seq (reg [op 10 (.move (.const (sl 0 0 0 4))) 1,
  op 3 (.move (.global 10))])
(.seq (.seq (reg [op 11 (.move (.tmp 0)) 1,
  op 12 (bi .len #[(.global 11)] 0) 1,
  op 13 (.binOp .lss 0 (.global 12) (.const (I 2)) 0) 1,
  op 14 (.move (.global 13)) 1,
  op 15 (.move (.tmp 0)) 1 (some (57, false)),
  op 16 (.index 0 (.global 15) (.const (I 1))) 1 (some (57, false)),
  op 17 (.binOp .gtr 0 (.global 16) (.const (U 40)) 0) 1 (some (57, false)),
  op 18 (.pick (.global 14) (.const (B true)) (.global 17))])
(.cond (.tmp 18)
  (.seq (reg [op 2 (.move (.const (sl 0 0 0 0)))])
  .ret)
  .skip))
(.seq (reg [op 4 (.move (.const (I 2)))])
(.seq (.seq (reg [op 19 (.move (.tmp 0)) 1,
  op 20 (.index 0 (.global 19) (.const (I 1))),
  op 21 (.move (.const (U 0)))])
(.block 0
  (.loop
    (.seq (reg [op 22 (.binOp .lss 0 (.tmp 21) (.tmp 20) 0)])
    (.seq (.cond (.tmp 22)
      .skip
      (.exit 0))
    (.seq (.block 1
      (.seq (.seq (reg [op 23 (.move (.tmp 4)) 1,
        op 24 (.move (.tmp 0)) 1,
        op 25 (bi .len #[(.global 24)] 0) 1,
        op 26 (.binOp .geq 0 (.global 23) (.global 25) 0)])
      (.cond (.tmp 26)
        (.seq (reg [op 2 (.move (.const (sl 0 0 0 0)))])
        .ret)
        .skip))
      (.seq (reg [op 27 (.move (.tmp 4)) 1,
        op 28 (.binOp .add 0 (.global 27) (.const (I 1)) 0) 1,
        op 5 (.move (.global 28))])
      (.seq (reg [op 29 (.move (.tmp 5)) 1,
        op 30 (.move (.tmp 0)) 1,
        op 31 (.move (.tmp 4)) 1,
        op 32 (.index 0 (.global 30) (.global 31)) 1,
        op 33 (.convert 0 3 (.global 32)) 1,
        op 34 (.binOp .add 0 (.global 29) (.global 33) 0) 1,
        op 4 (.move (.global 34))])
      (.seq (.seq (reg [op 35 (.move (.tmp 4)) 1,
        op 36 (.binOp .add 0 (.global 35) (.const (I 5)) 0) 1,
        op 37 (.move (.tmp 0)) 1,
        op 38 (bi .len #[(.global 37)] 0) 1,
        op 39 (.binOp .gtr 0 (.global 36) (.global 38) 0) 1,
        op 40 (.move (.global 39)) 1,
        op 41 (.move (.tmp 0)) 1 (some (161, false)),
        op 42 (.move (.tmp 4)) 1 (some (161, false)),
        op 43 (.binOp .add 0 (.global 42) (.const (I 1)) 0) 1 (some (161, false)),
        op 44 (.index 0 (.global 41) (.global 43)) 1 (some (161, false)),
        op 45 (.convert 0 3 (.global 44)) 1 (some (161, false)),
        op 46 (.move (.tmp 0)) 1 (some (161, false)),
        op 47 (.move (.tmp 4)) 1 (some (161, false)),
        op 48 (.binOp .add 0 (.global 47) (.const (I 2)) 0) 1 (some (161, false)),
        op 49 (.index 0 (.global 46) (.global 48)) 1 (some (161, false)),
        op 50 (.convert 0 3 (.global 49)) 1 (some (161, false)),
        op 51 (call (.func 198) #[(.global 45), (.global 50)]) 1 (some (161, false)),
        op 52 (.unOp .not 0 (.global 51)) 1 (some (161, false)),
        op 53 (.pick (.global 40) (.const (B true)) (.global 52))])
      (.cond (.tmp 53)
        (.seq (reg [op 2 (.move (.const (sl 0 0 0 0)))])
        .ret)
        .skip))
      (.seq (reg [op 54 (.move (.tmp 0)) 1,
        op 55 (.move (.tmp 5)) 1,
        op 56 (.move (.tmp 4)) 1,
        op 57 (.slice 0 (.global 54) (some (.global 55)) (some (.global 56)) none) 1,
        op 58 (.move (.tmp 4)) 1,
        op 59 (.move (.tmp 0)) 1,
        op 60 (.move (.tmp 4)) 1,
        op 61 (.binOp .add 0 (.global 60) (.const (I 1)) 0) 1,
        op 62 (.index 0 (.global 59) (.global 61)) 1,
        op 63 (.convert 0 3 (.global 62)) 1,
        op 64 (.move (.tmp 0)) 1,
        op 65 (.move (.tmp 4)) 1,
        op 66 (.binOp .add 0 (.global 65) (.const (I 2)) 0) 1,
        op 67 (.index 0 (.global 64) (.global 66)) 1,
        op 68 (.convert 0 3 (.global 67)) 1,
        op 69 (call (.func 181) #[(.global 63), (.global 68)]) 1,
        op 70 (.binOp .add 0 (.global 58) (.global 69) 0) 1,
        op 6 (.move (.global 57)),
        op 7 (.move (.global 70))])
      (.seq (.seq (reg [op 71 (.move (.tmp 7)) 1,
        op 72 (.move (.tmp 0)) 1,
        op 73 (bi .len #[(.global 72)] 0) 1,
        op 74 (.binOp .gtr 0 (.global 71) (.global 73) 0)])
      (.cond (.tmp 74)
        (.seq (reg [op 2 (.move (.const (sl 0 0 0 0)))])
        .ret)
        .skip))
      (.seq (reg [op 76 (.move (.tmp 0)) 1,
        op 77 (.move (.tmp 4)) 1,
        op 78 (.move (.tmp 7)) 1,
        op 79 (.slice 0 (.global 76) (some (.global 77)) (some (.global 78)) none) 1,
        op 80 (call (.func 195) #[(.global 79)]) 1,
        op 75 (.move (.global 80)) 1,
        op 81 (.extract (.global 75) 0) 1,
        op 82 (.extract (.global 75) 1) 1,
        op 8 (.move (.const (.agg #[(I 0), (I 0), (sl 0 0 0 0)]))),
        op 8 (.insert 3 (.tmp 8) (.tmp 8) (.global 81)),
        op 9 (.move (.global 82))])
      (.seq (.seq (reg [op 83 (.move (.tmp 9)) 1,
        op 84 (.unOp .not 0 (.global 83))])
      (.cond (.tmp 84)
        (.seq (reg [op 2 (.move (.const (sl 0 0 0 0)))])
        .ret)
        .skip))
      (.seq (reg [op 85 (.move (.tmp 3)) 1,
        op 86 (.move (.tmp 6)) 1,
        op 87 (.lookup 4 (.tmp 8) (.tmp 8) false) 1,
        op 88 (.build 0 #[(0, (.const (.agg #[(S []), (I 0), (I 0), (sl 0 0 0 0)]))), (1, (.global 86)), (1003, (.global 87))]) 1,
        op 89 (.buildSlice 4 1 #[(0, (.const (.agg #[(S []), (I 0), (I 0), (sl 0 0 0 0)]))), (4, (.global 88))]) 1,
        op 90 (bi .append #[(.global 85), (.global 89)] 4) 1,
        op 3 (.move (.global 90))])
      (reg [op 91 (.move (.tmp 7)) 1,
        op 4 (.move (.global 91))])))))))))))
    (reg [op 92 (.binOp .add 0 (.tmp 21) (.const (U 1)) 0) 1,
      op 21 (.move (.global 92))])))))))
(.seq (reg [op 93 (.move (.tmp 3)) 1,
  op 2 (.move (.global 93))])
.ret)))))), [(2, 0)]⟩

/-- spec.l04Count -/
def fn465 : AFun := ⟨1,
(.seq (reg [op 2 (.move (.const (I 0)))])
(.seq (reg [op 6 (.move (.tmp 0)) 1,
  op 7 (call (.func 463) #[(.global 6)]) 1,
  op 5 (.move (.global 7)) 1,
  op 8 (.extract (.global 5) 0) 1,
  op 9 (.extract (.global 5) 1) 1,
  op 3 (.move (.global 8)),
  op 4 (.move (.global 9)) 1])
(.seq (reg [op 10 (.move (.tmp 3)) 1,
  op 11 (bi .len #[(.global 10)] 1) 1,
  op 2 (.move (.global 11))])
.ret))), [(2, 0)]⟩

/-- impl.countCurves -/
def fn154 : AFun := ⟨1,
(.seq (reg [op 1 (.makeChan 3 (.tmp 0)),
  op 2 (.move (.const (I 0)))])
(.seq (reg [op 6 (.lookup 4 (.tmp 1) (.tmp 1) false) 1,
  op 7 (call (.func 55) #[(.global 6)]) 1,
  op 5 (.move (.global 7)) 1,
  op 8 (.extract (.global 5) 0) 1,
  op 9 (.extract (.global 5) 1) 1,
  op 3 (.move (.global 8)),
  op 4 (.move (.global 9)) 1])
(.seq (reg [op 10 (.move (.tmp 3)) 1,
  op 11 (bi .len #[(.global 10)] 1) 1,
  op 2 (.move (.global 11))])
.ret))), [(2, 0)]⟩

/-- spec.l01Split -/
def fn441 : AFun := ⟨2,
(.seq (reg [op 4 (.move (.const (sl 0 0 0 0)))])
(.seq (reg [op 8 (.move (.const (sl 0 0 0 1))) 1,
  op 5 (.move (.global 8))])
(.seq (reg [op 6 (.move (.const (I 0)))])
(.seq (.seq (reg [op 7 (.move (.const (I 0)))])
(.block 0
  (.loop
    (.seq (.seq (reg [op 9 (.move (.tmp 7)) 1,
      op 10 (.move (.tmp 0)) 1,
      op 11 (bi .len #[(.global 10)] 0) 1,
      op 12 (.binOp .lss 0 (.global 9) (.global 11) 0)])
    (.cond (.tmp 12)
      .skip
      (.exit 0)))
    (.seq (.block 1
      (.seq (reg [op 15 (.move (.tmp 0)) 1,
        op 16 (.move (.tmp 7)) 1,
        op 17 (.index 0 (.global 15) (.global 16)) 1,
        op 18 (.move (.tmp 1)) 1,
        op 19 (.binOp .eql 0 (.global 17) (.global 18) 0)])
      (.cond (.tmp 19)
        (.seq (reg [op 20 (.move (.tmp 5)) 1,
          op 21 (.move (.tmp 0)) 1,
          op 22 (.move (.tmp 6)) 1,
          op 23 (.move (.tmp 7)) 1,
          op 24 (.slice 0 (.global 21) (some (.global 22)) (some (.global 23)) none) 1,
          op 25 (.buildSlice 1 1 #[(0, (.const (.agg #[(S [])]))), (1, (.global 24))]) 1,
          op 26 (bi .append #[(.global 20), (.global 25)] 1) 1,
          op 5 (.move (.global 26))])
        (reg [op 27 (.move (.tmp 7)) 1,
          op 28 (.binOp .add 0 (.global 27) (.const (I 1)) 0) 1,
          op 6 (.move (.global 28))]))
        .skip)))
    (reg [op 13 (.move (.tmp 7)) 1,
      op 14 (.binOp .add 0 (.global 13) (.const (I 1)) 0) 1,
      op 7 (.move (.global 14))]))))))
(.seq (reg [op 29 (.move (.tmp 5)) 1,
  op 30 (.move (.tmp 0)) 1,
  op 31 (.move (.tmp 6)) 1,
  op 32 (.slice 0 (.global 30) (some (.global 31)) none none) 1,
  op 33 (.buildSlice 1 1 #[(0, (.const (.agg #[(S [])]))), (1, (.global 32))]) 1,
  op 34 (bi .append #[(.global 29), (.global 33)] 1) 1,
  op 4 (.move (.global 34))])
.ret))))), [(4, 0)]⟩

/-- spec.ReadPanel -/
def fn413 : AFun := ⟨1,
(.seq (reg [op 2 (.move (.const (.agg #[(I 0), (I 0), (sl 0 0 0 0)]))),
  op 3 (.move (.const (B false)))])
(.seq (reg [op 7 (.move (.tmp 0)) 1,
  op 8 (call (.func 468) #[(.global 7)]) 1,
  op 6 (.move (.global 8)) 1,
  op 9 (.extract (.global 6) 0) 1,
  op 10 (.extract (.global 6) 1) 1,
  op 4 (.box 3 (.const (.agg #[(I 0), (I 0), (sl 0 0 0 0)]))),
  opn (.store 3 (.tmp 4) (.global 9)),
  op 5 (.move (.global 10))])
(.seq (.seq (reg [op 11 (.move (.tmp 5)) 1,
  op 12 (.unOp .not 0 (.global 11)) 1,
  op 13 (.move (.global 12)) 1,
  op 14 (call (.func 452) #[(.tmp 4)]) 1 (some (53, false)),
  op 15 (.unOp .not 0 (.global 14)) 1 (some (53, false)),
  op 16 (.pick (.global 13) (.const (B true)) (.global 15))])
(.cond (.tmp 16)
  (.seq (reg [op 17 (.build 0 #[(0, (.const (.agg #[(I 0), (I 0), (sl 0 0 0 0)])))]) 1,
    op 2 (.insert 3 (.tmp 2) (.tmp 2) (.global 17)),
    op 3 (.move (.const (B false)))])
  .ret)
  .skip))
(.seq (reg [op 18 (.load 4 (.tmp 4)) 1,
  op 2 (.insert 3 (.tmp 2) (.tmp 2) (.global 18)),
  op 3 (.move (.const (B true)))])
.ret)))), [(2, 1000004), (3, 0)]⟩

/-- impl.linesIn -/
def fn170 : AFun := ⟨1,
(.seq (reg [op 2 (.move (.const (sl 0 0 0 0))),
  op 3 (.move (.const (B false)))])
(.seq (.seq (reg [op 4 (.move (.tmp 0)) 1,
  op 5 (.binOp .eql 0 (.global 4) (.const (S [])) 0)])
(.cond (.tmp 5)
  (.seq (reg [op 2 (.move (.const (sl 0 0 0 0))),
    op 3 (.move (.const (B true)))])
  .ret)
  .skip))
(.seq (.seq (reg [op 6 (.move (.tmp 0)) 1,
  op 7 (.move (.tmp 0)) 1,
  op 8 (bi .len #[(.global 7)] 0) 1,
  op 9 (.binOp .sub 0 (.global 8) (.const (I 1)) 0) 1,
  op 10 (.index 0 (.global 6) (.global 9)) 1,
  op 11 (.binOp .neq 0 (.global 10) (.const (U 10)) 0)])
(.cond (.tmp 11)
  (.seq (reg [op 2 (.move (.const (sl 0 0 0 0))),
    op 3 (.move (.const (B false)))])
  .ret)
  .skip))
(.seq (reg [op 12 (.move (.tmp 0)) 1,
  op 13 (.move (.tmp 0)) 1,
  op 14 (bi .len #[(.global 13)] 0) 1,
  op 15 (.binOp .sub 0 (.global 14) (.const (I 1)) 0) 1,
  op 16 (.slice 0 (.global 12) none (some (.global 15)) none) 1,
  op 17 (call (.func 189) #[(.global 16), (.const (U 10))]) 1,
  op 2 (.move (.global 17)),
  op 3 (.move (.const (B true)))])
.ret)))), [(2, 0), (3, 0)]⟩

/-- impl.placeOf -/
def fn183 : AFun := ⟨3,
(.seq (reg [op 6 (.move (.const (I 0)))])
(.seq (.seq (reg [op 8 (.move (.tmp 2)) 1,
  op 7 (.move (.global 8))])
(.block 0
  (.loop
    (.seq (.seq (reg [op 9 (.move (.tmp 7)) 1,
      op 10 (.move (.tmp 0)) 1,
      op 11 (bi .len #[(.global 10)] 0) 1,
      op 12 (.binOp .lss 0 (.global 9) (.global 11) 0)])
    (.cond (.tmp 12)
      .skip
      (.exit 0)))
    (.seq (.block 1
      (.seq (reg [op 15 (.move (.tmp 0)) 1,
        op 16 (.move (.tmp 7)) 1,
        op 17 (.index 0 (.global 15) (.global 16)) 1,
        op 18 (.move (.tmp 1)) 1,
        op 19 (.binOp .eql 0 (.global 17) (.global 18) 0)])
      (.cond (.tmp 19)
        (.seq (reg [op 20 (.move (.tmp 7)) 1,
          op 6 (.move (.global 20))])
        .ret)
        .skip)))
    (reg [op 13 (.move (.tmp 7)) 1,
      op 14 (.binOp .add 0 (.global 13) (.const (I 1)) 0) 1,
      op 7 (.move (.global 14))]))))))
(.seq (reg [op 6 (.move (.const (I (-1))))])
.ret))), [(6, 0)]⟩

/-- impl.ReadPanel -/
def fn122 : AFun := ⟨1,
(.seq (reg [op 2 (.move (.const (.agg #[(I 0), (I 0), (sl 0 0 0 0)]))),
  op 3 (.move (.const (B false)))])
(.seq (reg [op 12 (.move (.tmp 0)) 1,
  op 13 (call (.func 183) #[(.global 12), (.const (U 120)), (.const (I 0))]) 1,
  op 4 (.move (.global 13))])
(.seq (reg [op 14 (.move (.tmp 0)) 1,
  op 15 (call (.func 183) #[(.global 14), (.const (U 58)), (.const (I 0))]) 1,
  op 5 (.move (.global 15))])
(.seq (.seq (reg [op 16 (.move (.tmp 4)) 1,
  op 17 (.binOp .lss 0 (.global 16) (.const (I 0)) 0) 1,
  op 18 (.move (.global 17)) 1,
  op 19 (.move (.tmp 5)) 1 (some (73, false)),
  op 20 (.move (.tmp 4)) 1 (some (73, false)),
  op 21 (.binOp .lss 0 (.global 19) (.global 20) 0) 1 (some (73, false)),
  op 22 (.pick (.global 18) (.const (B true)) (.global 21)) 1,
  op 23 (.move (.global 22)) 1,
  op 24 (.move (.tmp 0)) 1 (some (93, false)),
  op 25 (bi .len #[(.global 24)] 0) 1 (some (93, false)),
  op 26 (.move (.tmp 5)) 1 (some (93, false)),
  op 27 (.binOp .sub 0 (.global 25) (.global 26) 0) 1 (some (93, false)),
  op 28 (.binOp .gtr 0 (.global 27) (.const (I 129)) 0) 1 (some (93, false)),
  op 29 (.pick (.global 23) (.const (B true)) (.global 28))])
(.cond (.tmp 29)
  (.seq (reg [op 30 (.build 0 #[(0, (.const (.agg #[(I 0), (I 0), (sl 0 0 0 0)])))]) 1,
    op 2 (.insert 3 (.tmp 2) (.tmp 2) (.global 30)),
    op 3 (.move (.const (B false)))])
  .ret)
  .skip))
(.seq (reg [op 32 (.move (.tmp 0)) 1,
  op 33 (.move (.tmp 4)) 1,
  op 34 (.slice 0 (.global 32) none (some (.global 33)) none) 1,
  op 35 (call (.func 118) #[(.global 34)]) 1,
  op 31 (.move (.global 35)) 1,
  op 36 (.extract (.global 31) 0) 1,
  op 37 (.extract (.global 31) 1) 1,
  op 6 (.move (.global 36)),
  op 7 (.move (.global 37))])
(.seq (reg [op 39 (.move (.tmp 0)) 1,
  op 40 (.move (.tmp 4)) 1,
  op 41 (.binOp .add 0 (.global 40) (.const (I 1)) 0) 1,
  op 42 (.move (.tmp 5)) 1,
  op 43 (.slice 0 (.global 39) (some (.global 41)) (some (.global 42)) none) 1,
  op 44 (call (.func 118) #[(.global 43)]) 1,
  op 38 (.move (.global 44)) 1,
  op 45 (.extract (.global 38) 0) 1,
  op 46 (.extract (.global 38) 1) 1,
  op 8 (.move (.global 45)),
  op 9 (.move (.global 46))])
(.seq (reg [op 47 (.move (.tmp 6)) 1,
  op 48 (.move (.tmp 8)) 1,
  op 49 (.build 0 #[(0, (.const (.agg #[(I 0), (I 0), (sl 0 0 0 0)]))), (1, (.global 47)), (1001, (.global 48))]) 1,
  op 10 (.move (.const (.agg #[(I 0), (I 0), (sl 0 0 0 0)]))),
  op 10 (.insert 3 (.tmp 10) (.tmp 10) (.global 49))])
(.seq (.seq (reg [op 50 (.move (.tmp 5)) 1,
  op 51 (.binOp .add 0 (.global 50) (.const (I 1)) 0) 1,
  op 11 (.move (.global 51))])
(.block 0
  (.loop
    (.seq (.seq (reg [op 52 (.move (.tmp 11)) 1,
      op 53 (.move (.tmp 0)) 1,
      op 54 (bi .len #[(.global 53)] 0) 1,
      op 55 (.binOp .lss 0 (.global 52) (.global 54) 0)])
    (.cond (.tmp 55)
      .skip
      (.exit 0)))
    (.seq (.block 1
      (reg [op 58 (.fieldAddr 2 (.tmp 10) 1) 1,
        op 59 (.lookup 0 (.tmp 10) (.global 58) false) 1,
        op 60 (.move (.tmp 0)) 1,
        op 61 (.move (.tmp 11)) 1,
        op 62 (.index 0 (.global 60) (.global 61)) 1,
        op 63 (call (.func 174) #[(.global 62)]) 1,
        op 64 (.buildSlice 1 1 #[(0, (.const (.agg #[(I 0)]))), (1, (.global 63))]) 1,
        op 65 (bi .append #[(.global 59), (.global 64)] 1) 1,
        op 66 (.fieldAddr 2 (.tmp 10) 1) 1,
        op 10 (.insert 1 (.tmp 10) (.global 66) (.global 65))]))
    (reg [op 56 (.move (.tmp 11)) 1,
      op 57 (.binOp .add 0 (.global 56) (.const (I 1)) 0) 1,
      op 11 (.move (.global 57))]))))))
(.seq (.seq (reg [op 67 (.move (.tmp 7)) 1,
  op 68 (.unOp .not 0 (.global 67)) 1,
  op 69 (.move (.global 68)) 1,
  op 70 (.move (.tmp 9)) 1 (some (277, false)),
  op 71 (.unOp .not 0 (.global 70)) 1 (some (277, false)),
  op 72 (.pick (.global 69) (.const (B true)) (.global 71)) 1,
  op 73 (.move (.global 72)) 1,
  op 74 (.lookup 4 (.tmp 10) (.tmp 10) false) 1 (some (293, false)),
  op 75 (call (.func 140) #[(.global 74)]) 1 (some (293, false)),
  op 76 (.unOp .not 0 (.global 75)) 1 (some (293, false)),
  op 77 (.pick (.global 73) (.const (B true)) (.global 76)) 1,
  op 78 (.move (.global 77)) 1,
  op 79 (.lookup 4 (.tmp 10) (.tmp 10) false) 1 (some (313, false)),
  op 80 (call (.func 182) #[(.global 79)]) 1 (some (313, false)),
  op 81 (.move (.tmp 0)) 1 (some (313, false)),
  op 82 (.binOp .neq 0 (.global 80) (.global 81) 0) 1 (some (313, false)),
  op 83 (.pick (.global 78) (.const (B true)) (.global 82))])
(.cond (.tmp 83)
  (.seq (reg [op 84 (.build 0 #[(0, (.const (.agg #[(I 0), (I 0), (sl 0 0 0 0)])))]) 1,
    op 2 (.insert 3 (.tmp 2) (.tmp 2) (.global 84)),
    op 3 (.move (.const (B false)))])
  .ret)
  .skip))
(.seq (reg [op 85 (.lookup 4 (.tmp 10) (.tmp 10) false) 1,
  op 2 (.insert 3 (.tmp 2) (.tmp 2) (.global 85)),
  op 3 (.move (.const (B true)))])
.ret)))))))))), [(2, 1000004), (3, 0)]⟩

/-- spec.IsName -/
def fn383 : AFun := ⟨1,
(.seq (reg [op 2 (.move (.const (B false)))])
(.seq (.seq (reg [op 4 (.move (.tmp 0)) 1,
  op 5 (.binOp .eql 0 (.global 4) (.const (S [])) 0) 1,
  op 6 (.move (.global 5)) 1,
  op 7 (.move (.tmp 0)) 1 (some (25, false)),
  op 8 (bi .len #[(.global 7)] 0) 1 (some (25, false)),
  op 9 (.binOp .gtr 0 (.global 8) (.const (I 12)) 0) 1 (some (25, false)),
  op 10 (.pick (.global 6) (.const (B true)) (.global 9)) 1,
  op 11 (.move (.global 10)) 1,
  op 12 (.move (.tmp 0)) 1 (some (45, false)),
  op 13 (.index 0 (.global 12) (.const (I 0))) 1 (some (45, false)),
  op 14 (call (.func 440) #[(.global 13)]) 1 (some (45, false)),
  op 15 (.unOp .not 0 (.global 14)) 1 (some (45, false)),
  op 16 (.pick (.global 11) (.const (B true)) (.global 15))])
(.cond (.tmp 16)
  (.seq (reg [op 2 (.move (.const (B false)))])
  .ret)
  .skip))
(.seq (.seq (reg [op 3 (.move (.const (I 0)))])
(.block 0
  (.loop
    (.seq (.seq (reg [op 17 (.move (.tmp 3)) 1,
      op 18 (.move (.tmp 0)) 1,
      op 19 (bi .len #[(.global 18)] 0) 1,
      op 20 (.binOp .lss 0 (.global 17) (.global 19) 0)])
    (.cond (.tmp 20)
      .skip
      (.exit 0)))
    (.seq (.block 1
      (.seq (reg [op 23 (.move (.tmp 0)) 1,
        op 24 (.move (.tmp 3)) 1,
        op 25 (.index 0 (.global 23) (.global 24)) 1,
        op 26 (call (.func 440) #[(.global 25)]) 1,
        op 27 (.unOp .not 0 (.global 26)) 1,
        op 28 (.move (.global 27)) 1,
        op 29 (.move (.tmp 0)) 1 (some (113, true)),
        op 30 (.move (.tmp 3)) 1 (some (113, true)),
        op 31 (.index 0 (.global 29) (.global 30)) 1 (some (113, true)),
        op 32 (call (.func 438) #[(.global 31)]) 1 (some (113, true)),
        op 33 (.unOp .not 0 (.global 32)) 1 (some (113, true)),
        op 34 (.pick (.global 28) (.global 33) (.const (B false))) 1,
        op 35 (.move (.global 34)) 1,
        op 36 (.move (.tmp 0)) 1 (some (141, true)),
        op 37 (.move (.tmp 3)) 1 (some (141, true)),
        op 38 (.index 0 (.global 36) (.global 37)) 1 (some (141, true)),
        op 39 (.binOp .neq 0 (.global 38) (.const (U 45)) 0) 1 (some (141, true)),
        op 40 (.pick (.global 35) (.global 39) (.const (B false)))])
      (.cond (.tmp 40)
        (.seq (reg [op 2 (.move (.const (B false)))])
        .ret)
        .skip)))
    (reg [op 21 (.move (.tmp 3)) 1,
      op 22 (.binOp .add 0 (.global 21) (.const (I 1)) 0) 1,
      op 3 (.move (.global 22))]))))))
(.seq (reg [op 2 (.move (.const (B true)))])
.ret)))), [(2, 0)]⟩

/-- spec.l24Put -/
def fn544 : AFun := ⟨2,
(.seq (reg [op 3 (.makeChan 4 (.tmp 1)),
  op 4 (.move (.const (sl 0 0 0 0)))])
(.seq (reg [op 7 (.move (.tmp 0)) 1,
  op 8 (bi .len #[(.global 7)] 1) 1,
  op 5 (.move (.global 8))])
(.seq (.block 0
  (.loop
    (.seq (.seq (reg [op 9 (.move (.tmp 5)) 1,
      op 10 (.binOp .gtr 0 (.global 9) (.const (I 0)) 0) 1,
      op 11 (.move (.global 10)) 1,
      op 12 (.move (.tmp 0)) 1 (some (45, true)),
      op 13 (.move (.tmp 5)) 1 (some (45, true)),
      op 14 (.binOp .sub 0 (.global 13) (.const (I 1)) 0) 1 (some (45, true)),
      op 15 (.indexAddr 9 (.global 12) (.global 14)) 1 (some (45, true)),
      op 16 (.fieldAddr 0 (.global 15) 0) 1 (some (45, true)),
      op 17 (.load 0 (.global 16)) 1 (some (45, true)),
      op 18 (.fieldAddr 0 (.tmp 3) 1) 1 (some (45, true)),
      op 19 (.lookup 0 (.tmp 3) (.global 18) false) 1 (some (45, true)),
      op 20 (.binOp .gtr 0 (.global 17) (.global 19) 0) 1 (some (45, true)),
      op 21 (.pick (.global 11) (.global 20) (.const (B false)))])
    (.cond (.tmp 21)
      .skip
      (.exit 0)))
    (.block 1
      (reg [op 22 (.move (.tmp 5)) 1,
        op 23 (.binOp .sub 0 (.global 22) (.const (I 1)) 0) 1,
        op 5 (.move (.global 23))])))))
(.seq (reg [op 24 (.move (.const (sl 0 0 0 4))) 1,
  op 25 (.move (.tmp 0)) 1,
  op 26 (.move (.tmp 5)) 1,
  op 27 (.slice 9 (.global 25) none (some (.global 26)) none) 1,
  op 28 (bi .append #[(.global 24), (.global 27)] 4) 1,
  op 6 (.move (.global 28))])
(.seq (reg [op 29 (.move (.tmp 6)) 1,
  op 30 (.lookup 5 (.tmp 3) (.tmp 3) false) 1,
  op 31 (.buildSlice 4 1 #[(0, (.const (.agg #[(S []), (I 0), (I 0), (sl 0 0 0 0)]))), (4, (.global 30))]) 1,
  op 32 (bi .append #[(.global 29), (.global 31)] 4) 1,
  op 6 (.move (.global 32))])
(.seq (reg [op 33 (.move (.tmp 6)) 1,
  op 34 (.move (.tmp 0)) 1,
  op 35 (.move (.tmp 5)) 1,
  op 36 (.slice 9 (.global 34) (some (.global 35)) none none) 1,
  op 37 (bi .append #[(.global 33), (.global 36)] 4) 1,
  op 4 (.move (.global 37))])
.ret)))))), [(4, 0)]⟩

/-- impl.findKept -/
def fn159 : AFun := ⟨2,
(.seq (reg [op 3 (.box 1 (.tmp 1)),
  op 4 (.move (.const (I 0)))])
(.seq (reg [op 5 (.move (.tmp 0)) 1,
  op 6 (.makeFunc (.func 160) #[] #[(.tmp 3)]) 1,
  op 7 (call (.func 315) #[(.global 5), (.global 6)]) 1,
  op 4 (.move (.global 7))])
.ret)), [(4, 0)]⟩

/-- impl.withKept -/
def fn200 : AFun := ⟨2,
(.seq (reg [op 3 (.makeChan 4 (.tmp 1)),
  op 4 (.move (.const (sl 0 0 0 0)))])
(.seq (reg [op 8 (.move (.tmp 0)) 1,
  op 9 (.lookup 5 (.tmp 3) (.tmp 3) false) 1,
  op 10 (call (.func 306) #[(.global 8), (.global 9), (.func 201)]) 1,
  op 7 (.move (.global 10)) 1,
  op 11 (.extract (.global 7) 0) 1,
  op 12 (.extract (.global 7) 1) 1,
  op 5 (.move (.global 11)),
  op 6 (.move (.global 12)) 1])
(.seq (reg [op 13 (.move (.tmp 0)) 1,
  op 14 (.move (.tmp 5)) 1,
  op 15 (.lookup 5 (.tmp 3) (.tmp 3) false) 1,
  op 16 (.buildSlice 4 1 #[(0, (.const (.agg #[(S []), (I 0), (I 0), (sl 0 0 0 0)]))), (4, (.global 15))]) 1,
  op 17 (call (.func 318) #[(.global 13), (.global 14), (.global 16)]) 1,
  op 4 (.move (.global 17))])
.ret))), [(4, 0)]⟩

/-- impl.innerPoints -/
def fn166 : AFun := ⟨2,
(.seq (reg [op 4 (.move (.const (I 0)))])
(.seq (reg [op 5 (.move (.tmp 0)) 1,
  op 6 (.move (.tmp 1)) 1,
  op 7 (.binOp .sub 0 (.global 6) (.const (I 1)) 0) 1,
  op 8 (.binOp .mul 0 (.global 5) (.global 7) 0) 1,
  op 9 (.move (.tmp 1)) 1,
  op 10 (.move (.tmp 0)) 1,
  op 11 (.binOp .sub 0 (.global 10) (.const (I 1)) 0) 1,
  op 12 (.binOp .mul 0 (.global 9) (.global 11) 0) 1,
  op 13 (.binOp .add 0 (.global 8) (.global 12) 0) 1,
  op 4 (.move (.global 13))])
.ret)), [(4, 0)]⟩

/-- impl.mapPanel -/
def fn173 : AFun := ⟨2,
(.seq (reg [op 2 (.makeChan 3 (.tmp 0)),
  op 4 (.move (.const (.agg #[(I 0), (I 0), (sl 0 0 0 0)])))])
(.seq (reg [op 8 (.fieldAddr 0 (.tmp 2) 1) 1,
  op 9 (.lookup 0 (.tmp 2) (.global 8) false) 1,
  op 10 (.fieldAddr 1 (.tmp 2) 1) 1,
  op 11 (.lookup 0 (.tmp 2) (.global 10) false) 1,
  op 12 (call (.func 177) #[(.global 9), (.global 11)]) 1,
  op 5 (.move (.const (.agg #[(I 0), (I 0), (sl 0 0 0 0)]))),
  op 5 (.insert 3 (.tmp 5) (.tmp 5) (.global 12))])
(.seq (.seq (reg [op 13 (.move (.tmp 1)) 1,
  op 14 (.binOp .geq 0 (.global 13) (.const (I 4)) 0)])
(.cond (.tmp 14)
  (reg [op 15 (.fieldAddr 1 (.tmp 2) 1) 1,
    op 16 (.lookup 0 (.tmp 2) (.global 15) false) 1,
    op 17 (.fieldAddr 0 (.tmp 2) 1) 1,
    op 18 (.lookup 0 (.tmp 2) (.global 17) false) 1,
    op 19 (call (.func 177) #[(.global 16), (.global 18)]) 1,
    op 5 (.insert 3 (.tmp 5) (.tmp 5) (.global 19))])
  .skip))
(.seq (.seq (reg [op 20 (.lookup 4 (.tmp 2) (.tmp 2) false) 1,
  op 21 (call (.func 49) #[(.global 20)]),
  op 22 (bi .len #[(.tmp 21)] 1),
  op 23 (.move (.const (I 0)))])
(.block 0
  (.loop
    (.seq (reg [op 24 (.binOp .lss 0 (.tmp 23) (.tmp 22) 0)])
    (.seq (.cond (.tmp 24)
      .skip
      (.exit 0))
    (.seq (.block 1
      (.seq (reg [op 25 (.move (.tmp 23)) 1,
        op 26 (.indexAddr 5 (.tmp 21) (.tmp 23)) 1,
        op 27 (.load 3 (.global 26)) 1,
        op 7 (.move (.const (.agg #[(I 0), (I 0)]))),
        op 6 (.move (.global 25)),
        op 7 (.insert 2 (.tmp 7) (.tmp 7) (.global 27))])
      (reg [op 28 (.fieldAddr 2 (.tmp 5) 1) 1,
        op 29 (.lookup 0 (.tmp 5) (.global 28) false) 1,
        op 30 (.lookup 4 (.tmp 5) (.tmp 5) false) 1,
        op 31 (.lookup 4 (.tmp 2) (.tmp 2) false) 1,
        op 32 (.lookup 3 (.tmp 7) (.tmp 7) false) 1,
        op 33 (.move (.tmp 1)) 1,
        op 34 (call (.func 38) #[(.global 31), (.global 32), (.global 33)]) 3,
        op 35 (call (.func 40) #[(.global 30), (.global 34)]) 3,
        op 36 (.fieldAddr 2 (.tmp 2) 1) 1,
        op 37 (.lookup 0 (.tmp 2) (.global 36) false) 1,
        op 38 (.move (.tmp 6)) 1,
        op 39 (.indexAddr 3 (.global 37) (.global 38)) 1,
        op 40 (.load 0 (.global 39)) 1,
        op 41 (.move (.tmp 1)) 1,
        op 42 (call (.func 172) #[(.global 40), (.global 41)]) 1,
        op 43 (.indexAddr 3 (.global 29) (.global 35)) 1,
        opn (.store 1 (.global 43) (.global 42))])))
    (reg [op 44 (.binOp .add 0 (.tmp 23) (.const (I 1)) 0) 1,
      op 23 (.move (.global 44))])))))))
(.seq (reg [op 45 (.lookup 4 (.tmp 5) (.tmp 5) false) 1,
  op 4 (.insert 3 (.tmp 4) (.tmp 4) (.global 45))])
.ret))))), [(4, 1000004)]⟩

/-- impl.ComparePanels -/
def fn70 : AFun := ⟨2,
(.seq (reg [op 2 (.makeChan 3 (.tmp 0)),
  op 3 (.makeChan 3 (.tmp 1)),
  op 4 (.move (.const (I 0)))])
(.seq (.seq (reg [op 7 (.fieldAddr 0 (.tmp 2) 1) 1,
  op 8 (.lookup 0 (.tmp 2) (.global 7) false) 1,
  op 9 (.fieldAddr 0 (.tmp 3) 1) 1,
  op 10 (.lookup 0 (.tmp 3) (.global 9) false) 1,
  op 11 (call (.func 152) #[(.global 8), (.global 10)]) 1,
  op 5 (.move (.global 11))])
(.seq (reg [op 12 (.move (.tmp 5)) 1,
  op 13 (.binOp .neq 0 (.global 12) (.const (I 0)) 0)])
(.cond (.tmp 13)
  (.seq (reg [op 14 (.move (.tmp 5)) 1,
    op 4 (.move (.global 14))])
  .ret)
  .skip)))
(.seq (.seq (reg [op 15 (.fieldAddr 1 (.tmp 2) 1) 1,
  op 16 (.lookup 0 (.tmp 2) (.global 15) false) 1,
  op 17 (.fieldAddr 1 (.tmp 3) 1) 1,
  op 18 (.lookup 0 (.tmp 3) (.global 17) false) 1,
  op 19 (call (.func 152) #[(.global 16), (.global 18)]) 1,
  op 6 (.move (.global 19))])
(.seq (reg [op 20 (.move (.tmp 6)) 1,
  op 21 (.binOp .neq 0 (.global 20) (.const (I 0)) 0)])
(.cond (.tmp 21)
  (.seq (reg [op 22 (.move (.tmp 6)) 1,
    op 4 (.move (.global 22))])
  .ret)
  .skip)))
(.seq (reg [op 23 (.fieldAddr 2 (.tmp 2) 1) 1,
  op 24 (.lookup 0 (.tmp 2) (.global 23) false) 1,
  op 25 (.fieldAddr 2 (.tmp 3) 1) 1,
  op 26 (.lookup 0 (.tmp 3) (.global 25) false) 1,
  op 27 (call (.func 309) #[(.global 24), (.global 26)]) 1,
  op 4 (.move (.global 27))])
.ret)))), [(4, 0)]⟩

/-- spec.l02Same -/
def fn456 : AFun := ⟨2,
(.seq (reg [op 4 (.move (.const (B false)))])
(.seq (reg [op 5 (.move (.tmp 0)) 1,
  op 6 (.nilCheck (.global 5)) 1,
  op 7 (.fieldAddr 0 (.global 6) 0) 1,
  op 8 (.load 0 (.global 7)) 1,
  op 9 (.move (.tmp 1)) 1,
  op 10 (.nilCheck (.global 9)) 1,
  op 11 (.fieldAddr 0 (.global 10) 0) 1,
  op 12 (.load 0 (.global 11)) 1,
  op 13 (.binOp .eql 0 (.global 8) (.global 12) 0) 1,
  op 14 (.move (.global 13)) 1,
  op 15 (.move (.tmp 0)) 1 (some (57, true)),
  op 16 (.nilCheck (.global 15)) 1 (some (57, true)),
  op 17 (.fieldAddr 1 (.global 16) 0) 1 (some (57, true)),
  op 18 (.load 0 (.global 17)) 1 (some (57, true)),
  op 19 (.move (.tmp 1)) 1 (some (57, true)),
  op 20 (.nilCheck (.global 19)) 1 (some (57, true)),
  op 21 (.fieldAddr 1 (.global 20) 0) 1 (some (57, true)),
  op 22 (.load 0 (.global 21)) 1 (some (57, true)),
  op 23 (.binOp .eql 0 (.global 18) (.global 22) 0) 1 (some (57, true)),
  op 24 (.pick (.global 14) (.global 23) (.const (B false))) 1,
  op 25 (.move (.global 24)) 1,
  op 26 (.move (.tmp 0)) 1 (some (101, true)),
  op 27 (.nilCheck (.global 26)) 1 (some (101, true)),
  op 28 (.fieldAddr 2 (.global 27) 0) 1 (some (101, true)),
  op 29 (.load 0 (.global 28)) 1 (some (101, true)),
  op 30 (.move (.tmp 1)) 1 (some (101, true)),
  op 31 (.nilCheck (.global 30)) 1 (some (101, true)),
  op 32 (.fieldAddr 2 (.global 31) 0) 1 (some (101, true)),
  op 33 (.load 0 (.global 32)) 1 (some (101, true)),
  op 34 (call (.func 436) #[(.global 29), (.global 33)]) 1 (some (101, true)),
  op 35 (.pick (.global 25) (.global 34) (.const (B false))) 1,
  op 4 (.move (.global 35))])
.ret)), [(4, 0)]⟩

/-- impl.validSize -/
def fn198 : AFun := ⟨2,
(.seq (reg [op 4 (.move (.const (B false)))])
(.seq (reg [op 5 (.move (.tmp 0)) 1,
  op 6 (call (.func 164) #[(.global 5), (.const (I 1)), (.const (I 8))]) 1,
  op 7 (.move (.global 6)) 1,
  op 8 (.move (.tmp 1)) 1 (some (29, true)),
  op 9 (call (.func 164) #[(.global 8), (.const (I 1)), (.const (I 8))]) 1 (some (29, true)),
  op 10 (.pick (.global 7) (.global 9) (.const (B false))) 1,
  op 4 (.move (.global 10))])
.ret)), [(4, 0)]⟩

/-- impl.validBreak -/
def fn196 : AFun := ⟨1,
(.seq (reg [op 2 (.move (.const (B false)))])
(.seq (reg [op 3 (.move (.tmp 0)) 1,
  op 4 (call (.func 164) #[(.global 3), (.const (I 0)), (.const (I 2))]) 1,
  op 2 (.move (.global 4))])
.ret)), [(2, 0)]⟩

/-- slices.Equal[[]int64,int64] -/
def fn314 : AFun := ⟨2,
(.seq (reg [op 4 (.move (.const (B false)))])
(.seq (.seq (reg [op 6 (.move (.tmp 0)) 1,
  op 7 (bi .len #[(.global 6)] 1) 1,
  op 8 (.move (.tmp 1)) 1,
  op 9 (bi .len #[(.global 8)] 1) 1,
  op 10 (.binOp .neq 0 (.global 7) (.global 9) 0)])
(.cond (.tmp 10)
  (.seq (reg [op 4 (.move (.const (B false)))])
  .ret)
  .skip))
(.seq (.seq (reg [op 11 (.move (.tmp 0)) 1,
  op 12 (bi .len #[(.global 11)] 1),
  op 13 (.move (.const (I 0)))])
(.block 0
  (.loop
    (.seq (reg [op 14 (.binOp .lss 0 (.tmp 13) (.tmp 12) 0)])
    (.seq (.cond (.tmp 14)
      .skip
      (.exit 0))
    (.seq (.block 1
      (.seq (reg [op 15 (.move (.tmp 13)) 1,
        op 5 (.move (.global 15))])
      (.seq (reg [op 16 (.move (.tmp 0)) 1,
        op 17 (.move (.tmp 5)) 1,
        op 18 (.indexAddr 3 (.global 16) (.global 17)) 1,
        op 19 (.load 0 (.global 18)) 1,
        op 20 (.move (.tmp 1)) 1,
        op 21 (.move (.tmp 5)) 1,
        op 22 (.indexAddr 3 (.global 20) (.global 21)) 1,
        op 23 (.load 0 (.global 22)) 1,
        op 24 (.binOp .neq 0 (.global 19) (.global 23) 0)])
      (.cond (.tmp 24)
        (.seq (reg [op 4 (.move (.const (B false)))])
        .ret)
        .skip))))
    (reg [op 25 (.binOp .add 0 (.tmp 13) (.const (I 1)) 0) 1,
      op 13 (.move (.global 25))])))))))
(.seq (reg [op 4 (.move (.const (B true)))])
.ret)))), [(4, 0)]⟩

/-- slices.IndexFunc[[]impl.Kept,impl.Kept] -/
def fn315 : AFun := ⟨2,
(.seq (reg [op 4 (.move (.const (I 0)))])
(.seq (.seq (reg [op 6 (.move (.tmp 0)) 1,
  op 7 (bi .len #[(.global 6)] 1),
  op 8 (.move (.const (I 0)))])
(.block 0
  (.loop
    (.seq (reg [op 9 (.binOp .lss 0 (.tmp 8) (.tmp 7) 0)])
    (.seq (.cond (.tmp 9)
      .skip
      (.exit 0))
    (.seq (.block 1
      (.seq (reg [op 10 (.move (.tmp 8)) 1,
        op 5 (.move (.global 10))])
      (.seq (reg [op 11 (.move (.tmp 1)) 1,
        op 12 (.move (.tmp 0)) 1,
        op 13 (.move (.tmp 5)) 1,
        op 14 (.indexAddr 9 (.global 12) (.global 13)) 1,
        op 15 (.load 5 (.global 14)) 1,
        op 16 (call (.global 11) #[(.global 15)])])
      (.cond (.tmp 16)
        (.seq (reg [op 17 (.move (.tmp 5)) 1,
          op 4 (.move (.global 17))])
        .ret)
        .skip))))
    (reg [op 18 (.binOp .add 0 (.tmp 8) (.const (I 1)) 0) 1,
      op 8 (.move (.global 18))])))))))
(.seq (reg [op 4 (.move (.const (I (-1))))])
.ret))), [(4, 0)]⟩

/-- impl.findPanel$1 -/
def fn162 : AFun := ⟨2,
(.seq (reg [op 2 (.makeChan 4 (.tmp 0)),
  op 3 (.move (.const (B false)))])
(.seq (reg [op 4 (.fieldAddr 1 (.tmp 2) 1) 1,
  op 5 (.lookup 4 (.tmp 2) (.global 4) false) 1,
  op 6 (.load 4 (.tmp 1)) 1,
  op 7 (call (.func 130) #[(.global 5), (.global 6)]) 1,
  op 3 (.move (.global 7))])
.ret)), [(3, 0)]⟩

/-- spec.l02Side -/
def fn457 : AFun := ⟨1,
(.seq (reg [op 2 (.move (.const (B false)))])
(.seq (reg [op 3 (.move (.tmp 0)) 1,
  op 4 (call (.func 432) #[(.global 3), (.const (I 1)), (.const (I 8))]) 1,
  op 2 (.move (.global 4))])
.ret)), [(2, 0)]⟩

/-- spec.l02Inner -/
def fn448 : AFun := ⟨2,
(.seq (reg [op 4 (.move (.const (I 0)))])
(.seq (reg [op 5 (.move (.tmp 0)) 1,
  op 6 (.move (.tmp 1)) 1,
  op 7 (.binOp .sub 0 (.global 6) (.const (I 1)) 0) 1,
  op 8 (.binOp .mul 0 (.global 5) (.global 7) 0) 1,
  op 9 (.move (.tmp 1)) 1,
  op 10 (.move (.tmp 0)) 1,
  op 11 (.binOp .sub 0 (.global 10) (.const (I 1)) 0) 1,
  op 12 (.binOp .mul 0 (.global 9) (.global 11) 0) 1,
  op 13 (.binOp .add 0 (.global 8) (.global 12) 0) 1,
  op 4 (.move (.global 13))])
.ret)), [(4, 0)]⟩

/-- spec.l00In -/
def fn432 : AFun := ⟨3,
(.seq (reg [op 6 (.move (.const (B false)))])
(.seq (reg [op 7 (.move (.tmp 0)) 1,
  op 8 (.move (.tmp 1)) 1,
  op 9 (.binOp .geq 0 (.global 7) (.global 8) 0) 1,
  op 10 (.move (.global 9)) 1,
  op 11 (.move (.tmp 0)) 1 (some (41, true)),
  op 12 (.move (.tmp 2)) 1 (some (41, true)),
  op 13 (.binOp .leq 0 (.global 11) (.global 12) 0) 1 (some (41, true)),
  op 14 (.pick (.global 10) (.global 13) (.const (B false))) 1,
  op 6 (.move (.global 14))])
.ret)), [(6, 0)]⟩

/-- spec.l06Map -/
def fn477 : AFun := ⟨2,
(.seq (reg [op 4 (.move (.const (.agg #[(I 0), (I 0), (sl 0 0 0 0)])))])
(.seq (reg [op 8 (.move (.tmp 0)) 1,
  op 9 (.nilCheck (.global 8)) 1,
  op 10 (.fieldAddr 0 (.global 9) 0) 1,
  op 11 (.load 0 (.global 10)) 1,
  op 12 (.move (.tmp 0)) 1,
  op 13 (.nilCheck (.global 12)) 1,
  op 14 (.fieldAddr 1 (.global 13) 0) 1,
  op 15 (.load 0 (.global 14)) 1,
  op 16 (call (.func 450) #[(.global 11), (.global 15)]) 1,
  op 5 (.box 3 (.const (.agg #[(I 0), (I 0), (sl 0 0 0 0)]))),
  opn (.store 3 (.tmp 5) (.global 16))])
(.seq (.seq (reg [op 17 (.move (.tmp 1)) 1,
  op 18 (.binOp .and 0 (.global 17) (.const (I 4)) 0) 1,
  op 19 (.binOp .neq 0 (.global 18) (.const (I 0)) 0)])
(.cond (.tmp 19)
  (reg [op 20 (.move (.tmp 0)) 1,
    op 21 (.nilCheck (.global 20)) 1,
    op 22 (.fieldAddr 1 (.global 21) 0) 1,
    op 23 (.load 0 (.global 22)) 1,
    op 24 (.move (.tmp 0)) 1,
    op 25 (.nilCheck (.global 24)) 1,
    op 26 (.fieldAddr 0 (.global 25) 0) 1,
    op 27 (.load 0 (.global 26)) 1,
    op 28 (call (.func 450) #[(.global 23), (.global 27)]) 1,
    opn (.store 3 (.tmp 5) (.global 28))])
  .skip))
(.seq (.seq (reg [op 6 (.move (.const (I 0)))])
(.block 0
  (.loop
    (.seq (.seq (reg [op 29 (.move (.tmp 6)) 1,
      op 30 (.move (.tmp 0)) 1,
      op 31 (.nilCheck (.global 30)) 1,
      op 32 (.fieldAddr 2 (.global 31) 0) 1,
      op 33 (.load 0 (.global 32)) 1,
      op 34 (bi .len #[(.global 33)] 1) 1,
      op 35 (.binOp .lss 0 (.global 29) (.global 34) 0)])
    (.cond (.tmp 35)
      .skip
      (.exit 0)))
    (.seq (.block 1
      (.seq (reg [op 38 (.move (.tmp 0)) 1,
        op 39 (.nilCheck (.global 38)) 1,
        op 40 (.fieldAddr 0 (.global 39) 0) 1,
        op 41 (.load 0 (.global 40)) 1,
        op 42 (.move (.tmp 0)) 1,
        op 43 (.nilCheck (.global 42)) 1,
        op 44 (.fieldAddr 1 (.global 43) 0) 1,
        op 45 (.load 0 (.global 44)) 1,
        op 46 (.move (.tmp 0)) 1,
        op 47 (.move (.tmp 6)) 1,
        op 48 (call (.func 454) #[(.global 46), (.global 47)]) 3,
        op 49 (.move (.tmp 1)) 1,
        op 50 (call (.func 479) #[(.global 41), (.global 45), (.global 48), (.global 49)]) 1,
        op 7 (.move (.const (.agg #[(I 0), (I 0)]))),
        op 7 (.insert 2 (.tmp 7) (.tmp 7) (.global 50))])
      (reg [op 51 (.fieldAddr 2 (.tmp 5) 0) 1,
        op 52 (.load 0 (.global 51)) 1,
        op 53 (.lookup 3 (.tmp 7) (.tmp 7) false) 1,
        op 54 (call (.func 451) #[(.tmp 5), (.global 53)]) 3,
        op 55 (.move (.tmp 0)) 1,
        op 56 (.nilCheck (.global 55)) 1,
        op 57 (.fieldAddr 2 (.global 56) 0) 1,
        op 58 (.load 0 (.global 57)) 1,
        op 59 (.move (.tmp 6)) 1,
        op 60 (.indexAddr 3 (.global 58) (.global 59)) 1,
        op 61 (.load 0 (.global 60)) 1,
        op 62 (.move (.tmp 1)) 1,
        op 63 (call (.func 475) #[(.global 61), (.global 62)]) 3,
        op 64 (.indexAddr 3 (.global 52) (.global 54)) 1,
        opn (.store 1 (.global 64) (.global 63))])))
    (reg [op 36 (.move (.tmp 6)) 1,
      op 37 (.binOp .add 0 (.global 36) (.const (I 1)) 0) 1,
      op 6 (.move (.global 37))]))))))
(.seq (reg [op 65 (.load 4 (.tmp 5)) 1,
  op 4 (.insert 3 (.tmp 4) (.tmp 4) (.global 65))])
.ret))))), [(4, 1000004)]⟩
end Am
