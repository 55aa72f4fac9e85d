/- The functions that are reached, in their normal form; written by a program. -/
import Derived.Test.YtpdhmojncndobaaAmRules
set_option linter.unusedVariables false
set_option maxRecDepth 100000
namespace Am
open Go
/-- laws.FnExactPastePart -/
def fn233 : AFun := ⟨4,
(.seq (reg [op 4 (.makeChan 3 (.tmp 0)),
  op 7 (.makeChan 3 (.tmp 3)),
  op 8 (.move (.const (B false)))])
(.seq (reg [op 9 (.move (.const (I 1048576)))])
(.seq (reg [op 21 (.lookup 4 (.tmp 4) (.tmp 4) false) 1,
  op 22 (.move (.tmp 9)) 1,
  op 23 (call (.func 295) #[(.global 21), (.global 22)]) 1,
  op 9 (.move (.global 23))])
(.seq (.seq (reg [op 24 (.move (.tmp 9)) 1,
  op 25 (.binOp .lss 0 (.global 24) (.const (I 0)) 0)])
(.cond (.tmp 25)
  (.seq (reg [op 8 (.move (.const (B true)))])
  .ret)
  .skip))
(.seq (reg [op 26 (.lookup 4 (.tmp 7) (.tmp 7) false) 1,
  op 27 (.move (.tmp 9)) 1,
  op 28 (call (.func 295) #[(.global 26), (.global 27)]) 1,
  op 9 (.move (.global 28))])
(.seq (.seq (reg [op 29 (.move (.tmp 9)) 1,
  op 30 (.binOp .lss 0 (.global 29) (.const (I 0)) 0)])
(.cond (.tmp 30)
  (.seq (reg [op 8 (.move (.const (B true)))])
  .ret)
  .skip))
(.seq (reg [op 32 (.lookup 4 (.tmp 4) (.tmp 4) false) 1,
  op 33 (call (.func 303) #[(.global 32)]) 1,
  op 34 (.move (.tmp 1)) 1,
  op 35 (.move (.tmp 2)) 1,
  op 36 (.lookup 4 (.tmp 7) (.tmp 7) false) 1,
  op 37 (call (.func 303) #[(.global 36)]) 1,
  op 38 (call (.func 406) #[(.global 33), (.global 34), (.global 35), (.global 37)]) 1,
  op 31 (.move (.global 38)) 1,
  op 39 (.extract (.global 31) 0) 1,
  op 40 (.extract (.global 31) 1) 1,
  op 10 (.move (.const (.agg #[(I 0), (I 0), (sl 0 0 0 0)]))),
  op 10 (.insert 3 (.tmp 10) (.tmp 10) (.global 39)),
  op 11 (.move (.global 40))])
(.seq (reg [op 41 (.lookup 4 (.tmp 4) (.tmp 4) false) 1,
  op 42 (call (.func 303) #[(.global 41)]) 1,
  op 12 (.move (.const (.agg #[(I 0), (I 0), (sl 0 0 0 0)]))),
  op 12 (.insert 3 (.tmp 12) (.tmp 12) (.global 42))])
(.seq (reg [op 43 (.lookup 4 (.tmp 7) (.tmp 7) false) 1,
  op 44 (call (.func 303) #[(.global 43)]) 1,
  op 13 (.move (.const (.agg #[(I 0), (I 0), (sl 0 0 0 0)]))),
  op 13 (.insert 3 (.tmp 13) (.tmp 13) (.global 44))])
(.seq (reg [op 46 (.lookup 4 (.tmp 12) (.tmp 12) false) 1,
  op 47 (.move (.tmp 1)) 1,
  op 48 (.move (.tmp 2)) 1,
  op 49 (.lookup 4 (.tmp 13) (.tmp 13) false) 1,
  op 50 (call (.func 114) #[(.global 46), (.global 47), (.global 48), (.global 49)]) 1,
  op 45 (.move (.global 50)) 1,
  op 51 (.extract (.global 45) 0) 1,
  op 52 (.extract (.global 45) 1) 1,
  op 14 (.move (.const (.agg #[(I 0), (I 0), (sl 0 0 0 0)]))),
  op 14 (.insert 3 (.tmp 14) (.tmp 14) (.global 51)),
  op 15 (.move (.global 52))])
(.seq (.seq (reg [op 53 (.lookup 4 (.tmp 14) (.tmp 14) false) 1,
  op 54 (.lookup 4 (.tmp 10) (.tmp 10) false) 1,
  op 55 (call (.func 265) #[(.global 53), (.global 54)]) 1,
  op 56 (.unOp .not 0 (.global 55)) 1,
  op 57 (.move (.global 56)) 1,
  op 58 (.move (.tmp 15)) 1 (some (115, false)),
  op 59 (.move (.tmp 11)) 1 (some (115, false)),
  op 60 (.binOp .neq 0 (.global 58) (.global 59) 0) 1 (some (115, false)),
  op 61 (.pick (.global 57) (.const (B true)) (.global 60))])
(.cond (.tmp 61)
  (.seq (reg [op 8 (.move (.const (B false)))])
  .ret)
  .skip))
(.seq (.seq (reg [op 62 (.lookup 4 (.tmp 12) (.tmp 12) false) 1,
  op 63 (.lookup 4 (.tmp 4) (.tmp 4) false) 1,
  op 64 (call (.func 303) #[(.global 63)]) 1,
  op 65 (call (.func 265) #[(.global 62), (.global 64)]) 1,
  op 66 (.unOp .not 0 (.global 65))])
(.cond (.tmp 66)
  (.seq (reg [op 8 (.move (.const (B false)))])
  .ret)
  .skip))
(.seq (.seq (reg [op 67 (.lookup 4 (.tmp 13) (.tmp 13) false) 1,
  op 68 (.lookup 4 (.tmp 7) (.tmp 7) false) 1,
  op 69 (call (.func 303) #[(.global 68)]) 1,
  op 70 (call (.func 265) #[(.global 67), (.global 69)]) 1,
  op 71 (.unOp .not 0 (.global 70))])
(.cond (.tmp 71)
  (.seq (reg [op 8 (.move (.const (B false)))])
  .ret)
  .skip))
(.seq (reg [op 16 (.move (.const (I 1)))])
(.seq (reg [op 72 (.lookup 4 (.tmp 12) (.tmp 12) false) 1,
  op 73 (.move (.tmp 16)) 1,
  op 74 (call (.func 286) #[(.global 72), (.global 73)]) 1,
  op 16 (.move (.global 74))])
(.seq (reg [op 75 (.lookup 4 (.tmp 13) (.tmp 13) false) 1,
  op 76 (.move (.tmp 16)) 1,
  op 77 (call (.func 286) #[(.global 75), (.global 76)]) 1,
  op 16 (.move (.global 77))])
(.seq (.seq (reg [op 78 (.move (.tmp 16)) 1,
  op 79 (.binOp .lss 0 (.global 78) (.const (I 0)) 0) 1,
  op 80 (.move (.global 79)) 1,
  op 81 (.lookup 4 (.tmp 14) (.tmp 14) false) 1 (some (161, false)),
  op 82 (.lookup 4 (.tmp 10) (.tmp 10) false) 1 (some (161, false)),
  op 83 (call (.func 265) #[(.global 81), (.global 82)]) 1 (some (161, false)),
  op 84 (.unOp .not 0 (.global 83)) 1 (some (161, false)),
  op 85 (.pick (.global 80) (.const (B true)) (.global 84)) 1,
  op 86 (.move (.global 85)) 1,
  op 87 (.move (.tmp 15)) 1 (some (173, false)),
  op 88 (.move (.tmp 11)) 1 (some (173, false)),
  op 89 (.binOp .neq 0 (.global 87) (.global 88) 0) 1 (some (173, false)),
  op 90 (.pick (.global 86) (.const (B true)) (.global 89))])
(.cond (.tmp 90)
  (.seq (reg [op 8 (.move (.const (B false)))])
  .ret)
  .skip))
(.seq (reg [op 17 (.move (.const (I 1)))])
(.seq (reg [op 91 (.lookup 4 (.tmp 14) (.tmp 14) false) 1,
  op 92 (.move (.tmp 17)) 1,
  op 93 (call (.func 286) #[(.global 91), (.global 92)]) 1,
  op 17 (.move (.global 93))])
(.seq (reg [op 18 (.move (.const (I 1)))])
(.seq (reg [op 94 (.lookup 4 (.tmp 14) (.tmp 14) false) 1,
  op 95 (.move (.tmp 18)) 1,
  op 96 (call (.func 279) #[(.global 94), (.global 95)]) 1,
  op 18 (.move (.global 96))])
(.seq (.seq (reg [op 97 (.move (.tmp 18)) 1,
  op 98 (.binOp .lss 0 (.global 97) (.const (I 0)) 0)])
(.cond (.tmp 98)
  (.seq (reg [op 8 (.move (.const (B false)))])
  .ret)
  .skip))
(.seq (.seq (reg [op 99 (.move (.tmp 18)) 1,
  op 100 (.move (.tmp 17)) 1,
  op 101 (.binOp .neq 0 (.global 99) (.global 100) 0)])
(.cond (.tmp 101)
  (.seq (reg [op 8 (.move (.const (B false)))])
  .ret)
  .skip))
(.seq (reg [op 103 (.lookup 4 (.tmp 4) (.tmp 4) false) 1,
  op 104 (call (.func 303) #[(.global 103)]) 1,
  op 105 (.move (.tmp 1)) 1,
  op 106 (.move (.tmp 2)) 1,
  op 107 (.lookup 4 (.tmp 7) (.tmp 7) false) 1,
  op 108 (call (.func 303) #[(.global 107)]) 1,
  op 109 (call (.func 114) #[(.global 104), (.global 105), (.global 106), (.global 108)]) 1,
  op 102 (.move (.global 109)) 1,
  op 110 (.extract (.global 102) 0) 1,
  op 111 (.extract (.global 102) 1) 1,
  op 19 (.move (.const (.agg #[(I 0), (I 0), (sl 0 0 0 0)]))),
  op 19 (.insert 3 (.tmp 19) (.tmp 19) (.global 110)),
  op 20 (.move (.global 111))])
(.seq (.seq (reg [op 112 (.lookup 4 (.tmp 19) (.tmp 19) false) 1,
  op 113 (.lookup 4 (.tmp 10) (.tmp 10) false) 1,
  op 114 (call (.func 265) #[(.global 112), (.global 113)]) 1,
  op 115 (.unOp .not 0 (.global 114)) 1,
  op 116 (.move (.global 115)) 1,
  op 117 (.move (.tmp 20)) 1 (some (233, false)),
  op 118 (.move (.tmp 11)) 1 (some (233, false)),
  op 119 (.binOp .neq 0 (.global 117) (.global 118) 0) 1 (some (233, false)),
  op 120 (.pick (.global 116) (.const (B true)) (.global 119))])
(.cond (.tmp 120)
  (.seq (reg [op 8 (.move (.const (B false)))])
  .ret)
  .skip))
(.seq (reg [op 18 (.move (.const (I 1)))])
(.seq (reg [op 121 (.lookup 4 (.tmp 14) (.tmp 14) false) 1,
  op 122 (.move (.tmp 18)) 1,
  op 123 (call (.func 279) #[(.global 121), (.global 122)]) 1,
  op 18 (.move (.global 123))])
(.seq (.seq (reg [op 124 (.move (.tmp 18)) 1,
  op 125 (.binOp .lss 0 (.global 124) (.const (I 0)) 0)])
(.cond (.tmp 125)
  (.seq (reg [op 8 (.move (.const (B false)))])
  .ret)
  .skip))
(.seq (.seq (reg [op 126 (.move (.tmp 18)) 1,
  op 127 (.move (.tmp 17)) 1,
  op 128 (.binOp .neq 0 (.global 126) (.global 127) 0)])
(.cond (.tmp 128)
  (.seq (reg [op 8 (.move (.const (B false)))])
  .ret)
  .skip))
(.seq (reg [op 8 (.move (.const (B true)))])
.ret)))))))))))))))))))))))))))))), [(8, 0)]⟩

/-- laws.FnExactApplyDiff -/
def fn206 : AFun := ⟨2,
(.seq (reg [op 2 (.makeChan 3 (.tmp 0)),
  op 4 (.move (.const (B false)))])
(.seq (reg [op 5 (.move (.const (I 1048576)))])
(.seq (reg [op 17 (.lookup 4 (.tmp 2) (.tmp 2) false) 1,
  op 18 (.move (.tmp 5)) 1,
  op 19 (call (.func 295) #[(.global 17), (.global 18)]) 1,
  op 5 (.move (.global 19))])
(.seq (.seq (reg [op 20 (.move (.tmp 5)) 1,
  op 21 (.binOp .lss 0 (.global 20) (.const (I 0)) 0)])
(.cond (.tmp 21)
  (.seq (reg [op 4 (.move (.const (B true)))])
  .ret)
  .skip))
(.seq (reg [op 22 (.move (.tmp 1)) 1,
  op 23 (.move (.tmp 5)) 1,
  op 24 (call (.func 296) #[(.global 22), (.global 23)]) 1,
  op 5 (.move (.global 24))])
(.seq (.seq (reg [op 25 (.move (.tmp 5)) 1,
  op 26 (.binOp .lss 0 (.global 25) (.const (I 0)) 0)])
(.cond (.tmp 26)
  (.seq (reg [op 4 (.move (.const (B true)))])
  .ret)
  .skip))
(.seq (reg [op 28 (.lookup 4 (.tmp 2) (.tmp 2) false) 1,
  op 29 (call (.func 303) #[(.global 28)]) 1,
  op 30 (.move (.tmp 1)) 1,
  op 31 (call (.func 305) #[(.global 30)]) 1,
  op 32 (call (.func 331) #[(.global 29), (.global 31)]) 1,
  op 27 (.move (.global 32)) 1,
  op 33 (.extract (.global 27) 0) 1,
  op 34 (.extract (.global 27) 1) 1,
  op 6 (.move (.const (.agg #[(I 0), (I 0), (sl 0 0 0 0)]))),
  op 6 (.insert 3 (.tmp 6) (.tmp 6) (.global 33)),
  op 7 (.move (.global 34))])
(.seq (reg [op 35 (.lookup 4 (.tmp 2) (.tmp 2) false) 1,
  op 36 (call (.func 303) #[(.global 35)]) 1,
  op 8 (.move (.const (.agg #[(I 0), (I 0), (sl 0 0 0 0)]))),
  op 8 (.insert 3 (.tmp 8) (.tmp 8) (.global 36))])
(.seq (reg [op 37 (.move (.tmp 1)) 1,
  op 38 (call (.func 305) #[(.global 37)]) 1,
  op 9 (.move (.global 38))])
(.seq (reg [op 40 (.lookup 4 (.tmp 8) (.tmp 8) false) 1,
  op 41 (.move (.tmp 9)) 1,
  op 42 (call (.func 62) #[(.global 40), (.global 41)]) 1,
  op 39 (.move (.global 42)) 1,
  op 43 (.extract (.global 39) 0) 1,
  op 44 (.extract (.global 39) 1) 1,
  op 10 (.move (.const (.agg #[(I 0), (I 0), (sl 0 0 0 0)]))),
  op 10 (.insert 3 (.tmp 10) (.tmp 10) (.global 43)),
  op 11 (.move (.global 44))])
(.seq (.seq (reg [op 45 (.lookup 4 (.tmp 10) (.tmp 10) false) 1,
  op 46 (.lookup 4 (.tmp 6) (.tmp 6) false) 1,
  op 47 (call (.func 265) #[(.global 45), (.global 46)]) 1,
  op 48 (.unOp .not 0 (.global 47)) 1,
  op 49 (.move (.global 48)) 1,
  op 50 (.move (.tmp 11)) 1 (some (99, false)),
  op 51 (.move (.tmp 7)) 1 (some (99, false)),
  op 52 (.binOp .neq 0 (.global 50) (.global 51) 0) 1 (some (99, false)),
  op 53 (.pick (.global 49) (.const (B true)) (.global 52))])
(.cond (.tmp 53)
  (.seq (reg [op 4 (.move (.const (B false)))])
  .ret)
  .skip))
(.seq (.seq (reg [op 54 (.lookup 4 (.tmp 8) (.tmp 8) false) 1,
  op 55 (.lookup 4 (.tmp 2) (.tmp 2) false) 1,
  op 56 (call (.func 303) #[(.global 55)]) 1,
  op 57 (call (.func 265) #[(.global 54), (.global 56)]) 1,
  op 58 (.unOp .not 0 (.global 57))])
(.cond (.tmp 58)
  (.seq (reg [op 4 (.move (.const (B false)))])
  .ret)
  .skip))
(.seq (.seq (reg [op 59 (.move (.tmp 9)) 1,
  op 60 (.move (.tmp 1)) 1,
  op 61 (call (.func 305) #[(.global 60)]) 1,
  op 62 (call (.func 267) #[(.global 59), (.global 61)]) 1,
  op 63 (.unOp .not 0 (.global 62))])
(.cond (.tmp 63)
  (.seq (reg [op 4 (.move (.const (B false)))])
  .ret)
  .skip))
(.seq (reg [op 12 (.move (.const (I 1)))])
(.seq (reg [op 64 (.lookup 4 (.tmp 8) (.tmp 8) false) 1,
  op 65 (.move (.tmp 12)) 1,
  op 66 (call (.func 286) #[(.global 64), (.global 65)]) 1,
  op 12 (.move (.global 66))])
(.seq (reg [op 67 (.move (.tmp 9)) 1,
  op 68 (.move (.tmp 12)) 1,
  op 69 (call (.func 287) #[(.global 67), (.global 68)]) 1,
  op 12 (.move (.global 69))])
(.seq (.seq (reg [op 70 (.move (.tmp 12)) 1,
  op 71 (.binOp .lss 0 (.global 70) (.const (I 0)) 0) 1,
  op 72 (.move (.global 71)) 1,
  op 73 (.lookup 4 (.tmp 10) (.tmp 10) false) 1 (some (145, false)),
  op 74 (.lookup 4 (.tmp 6) (.tmp 6) false) 1 (some (145, false)),
  op 75 (call (.func 265) #[(.global 73), (.global 74)]) 1 (some (145, false)),
  op 76 (.unOp .not 0 (.global 75)) 1 (some (145, false)),
  op 77 (.pick (.global 72) (.const (B true)) (.global 76)) 1,
  op 78 (.move (.global 77)) 1,
  op 79 (.move (.tmp 11)) 1 (some (157, false)),
  op 80 (.move (.tmp 7)) 1 (some (157, false)),
  op 81 (.binOp .neq 0 (.global 79) (.global 80) 0) 1 (some (157, false)),
  op 82 (.pick (.global 78) (.const (B true)) (.global 81))])
(.cond (.tmp 82)
  (.seq (reg [op 4 (.move (.const (B false)))])
  .ret)
  .skip))
(.seq (reg [op 13 (.move (.const (I 1)))])
(.seq (reg [op 83 (.lookup 4 (.tmp 10) (.tmp 10) false) 1,
  op 84 (.move (.tmp 13)) 1,
  op 85 (call (.func 286) #[(.global 83), (.global 84)]) 1,
  op 13 (.move (.global 85))])
(.seq (reg [op 14 (.move (.const (I 1)))])
(.seq (reg [op 86 (.lookup 4 (.tmp 10) (.tmp 10) false) 1,
  op 87 (.move (.tmp 14)) 1,
  op 88 (call (.func 279) #[(.global 86), (.global 87)]) 1,
  op 14 (.move (.global 88))])
(.seq (.seq (reg [op 89 (.move (.tmp 14)) 1,
  op 90 (.binOp .lss 0 (.global 89) (.const (I 0)) 0)])
(.cond (.tmp 90)
  (.seq (reg [op 4 (.move (.const (B false)))])
  .ret)
  .skip))
(.seq (.seq (reg [op 91 (.move (.tmp 14)) 1,
  op 92 (.move (.tmp 13)) 1,
  op 93 (.binOp .neq 0 (.global 91) (.global 92) 0)])
(.cond (.tmp 93)
  (.seq (reg [op 4 (.move (.const (B false)))])
  .ret)
  .skip))
(.seq (reg [op 95 (.lookup 4 (.tmp 2) (.tmp 2) false) 1,
  op 96 (call (.func 303) #[(.global 95)]) 1,
  op 97 (.move (.tmp 1)) 1,
  op 98 (call (.func 305) #[(.global 97)]) 1,
  op 99 (call (.func 62) #[(.global 96), (.global 98)]) 1,
  op 94 (.move (.global 99)) 1,
  op 100 (.extract (.global 94) 0) 1,
  op 101 (.extract (.global 94) 1) 1,
  op 15 (.move (.const (.agg #[(I 0), (I 0), (sl 0 0 0 0)]))),
  op 15 (.insert 3 (.tmp 15) (.tmp 15) (.global 100)),
  op 16 (.move (.global 101))])
(.seq (.seq (reg [op 102 (.lookup 4 (.tmp 15) (.tmp 15) false) 1,
  op 103 (.lookup 4 (.tmp 6) (.tmp 6) false) 1,
  op 104 (call (.func 265) #[(.global 102), (.global 103)]) 1,
  op 105 (.unOp .not 0 (.global 104)) 1,
  op 106 (.move (.global 105)) 1,
  op 107 (.move (.tmp 16)) 1 (some (213, false)),
  op 108 (.move (.tmp 7)) 1 (some (213, false)),
  op 109 (.binOp .neq 0 (.global 107) (.global 108) 0) 1 (some (213, false)),
  op 110 (.pick (.global 106) (.const (B true)) (.global 109))])
(.cond (.tmp 110)
  (.seq (reg [op 4 (.move (.const (B false)))])
  .ret)
  .skip))
(.seq (reg [op 14 (.move (.const (I 1)))])
(.seq (reg [op 111 (.lookup 4 (.tmp 10) (.tmp 10) false) 1,
  op 112 (.move (.tmp 14)) 1,
  op 113 (call (.func 279) #[(.global 111), (.global 112)]) 1,
  op 14 (.move (.global 113))])
(.seq (.seq (reg [op 114 (.move (.tmp 14)) 1,
  op 115 (.binOp .lss 0 (.global 114) (.const (I 0)) 0)])
(.cond (.tmp 115)
  (.seq (reg [op 4 (.move (.const (B false)))])
  .ret)
  .skip))
(.seq (.seq (reg [op 116 (.move (.tmp 14)) 1,
  op 117 (.move (.tmp 13)) 1,
  op 118 (.binOp .neq 0 (.global 116) (.global 117) 0)])
(.cond (.tmp 118)
  (.seq (reg [op 4 (.move (.const (B false)))])
  .ret)
  .skip))
(.seq (reg [op 4 (.move (.const (B true)))])
.ret)))))))))))))))))))))))))))))), [(4, 0)]⟩

/-- laws.FnExactNewJournal -/
def fn228 : AFun := ⟨1,
(.seq (reg [op 1 (.makeChan 3 (.tmp 0)),
  op 2 (.move (.const (B false)))])
(.seq (reg [op 3 (.move (.const (I 1048576)))])
(.seq (reg [op 14 (.lookup 4 (.tmp 1) (.tmp 1) false) 1,
  op 15 (.move (.tmp 3)) 1,
  op 16 (call (.func 295) #[(.global 14), (.global 15)]) 1,
  op 3 (.move (.global 16))])
(.seq (.seq (reg [op 17 (.move (.tmp 3)) 1,
  op 18 (.binOp .lss 0 (.global 17) (.const (I 0)) 0)])
(.cond (.tmp 18)
  (.seq (reg [op 2 (.move (.const (B true)))])
  .ret)
  .skip))
(.seq (reg [op 20 (.lookup 4 (.tmp 1) (.tmp 1) false) 1,
  op 21 (call (.func 303) #[(.global 20)]) 1,
  op 22 (call (.func 394) #[(.global 21)]) 1,
  op 19 (.move (.global 22)) 1,
  op 23 (.extract (.global 19) 0) 1,
  op 24 (.extract (.global 19) 1) 1,
  op 4 (.move (.const (.agg #[(I 0), (I 0), (sl 0 0 0 0), (sl 0 0 0 0), (sl 0 0 0 0)]))),
  op 4 (.insert 5 (.tmp 4) (.tmp 4) (.global 23)),
  op 5 (.move (.global 24))])
(.seq (reg [op 25 (.lookup 4 (.tmp 1) (.tmp 1) false) 1,
  op 26 (call (.func 303) #[(.global 25)]) 1,
  op 6 (.move (.const (.agg #[(I 0), (I 0), (sl 0 0 0 0)]))),
  op 6 (.insert 3 (.tmp 6) (.tmp 6) (.global 26))])
(.seq (reg [op 28 (.lookup 4 (.tmp 6) (.tmp 6) false) 1,
  op 29 (call (.func 101) #[(.global 28)]) 1,
  op 27 (.move (.global 29)) 1,
  op 30 (.extract (.global 27) 0) 1,
  op 31 (.extract (.global 27) 1) 1,
  op 7 (.move (.const (.agg #[(I 0), (I 0), (sl 0 0 0 0), (sl 0 0 0 0), (sl 0 0 0 0)]))),
  op 7 (.insert 5 (.tmp 7) (.tmp 7) (.global 30)),
  op 8 (.move (.global 31))])
(.seq (.seq (reg [op 32 (.lookup 6 (.tmp 7) (.tmp 7) false) 1,
  op 33 (.lookup 6 (.tmp 4) (.tmp 4) false) 1,
  op 34 (call (.func 260) #[(.global 32), (.global 33)]) 1,
  op 35 (.unOp .not 0 (.global 34)) 1,
  op 36 (.move (.global 35)) 1,
  op 37 (.move (.tmp 8)) 1 (some (73, false)),
  op 38 (.move (.tmp 5)) 1 (some (73, false)),
  op 39 (.binOp .neq 0 (.global 37) (.global 38) 0) 1 (some (73, false)),
  op 40 (.pick (.global 36) (.const (B true)) (.global 39))])
(.cond (.tmp 40)
  (.seq (reg [op 2 (.move (.const (B false)))])
  .ret)
  .skip))
(.seq (.seq (reg [op 41 (.lookup 4 (.tmp 6) (.tmp 6) false) 1,
  op 42 (.lookup 4 (.tmp 1) (.tmp 1) false) 1,
  op 43 (call (.func 303) #[(.global 42)]) 1,
  op 44 (call (.func 265) #[(.global 41), (.global 43)]) 1,
  op 45 (.unOp .not 0 (.global 44))])
(.cond (.tmp 45)
  (.seq (reg [op 2 (.move (.const (B false)))])
  .ret)
  .skip))
(.seq (reg [op 9 (.move (.const (I 1)))])
(.seq (reg [op 46 (.lookup 4 (.tmp 6) (.tmp 6) false) 1,
  op 47 (.move (.tmp 9)) 1,
  op 48 (call (.func 286) #[(.global 46), (.global 47)]) 1,
  op 9 (.move (.global 48))])
(.seq (.seq (reg [op 49 (.move (.tmp 9)) 1,
  op 50 (.binOp .lss 0 (.global 49) (.const (I 0)) 0) 1,
  op 51 (.move (.global 50)) 1,
  op 52 (.lookup 6 (.tmp 7) (.tmp 7) false) 1 (some (103, false)),
  op 53 (.lookup 6 (.tmp 4) (.tmp 4) false) 1 (some (103, false)),
  op 54 (call (.func 260) #[(.global 52), (.global 53)]) 1 (some (103, false)),
  op 55 (.unOp .not 0 (.global 54)) 1 (some (103, false)),
  op 56 (.pick (.global 51) (.const (B true)) (.global 55)) 1,
  op 57 (.move (.global 56)) 1,
  op 58 (.move (.tmp 8)) 1 (some (115, false)),
  op 59 (.move (.tmp 5)) 1 (some (115, false)),
  op 60 (.binOp .neq 0 (.global 58) (.global 59) 0) 1 (some (115, false)),
  op 61 (.pick (.global 57) (.const (B true)) (.global 60))])
(.cond (.tmp 61)
  (.seq (reg [op 2 (.move (.const (B false)))])
  .ret)
  .skip))
(.seq (reg [op 10 (.move (.const (I 1)))])
(.seq (reg [op 62 (.lookup 6 (.tmp 7) (.tmp 7) false) 1,
  op 63 (.move (.tmp 10)) 1,
  op 64 (call (.func 283) #[(.global 62), (.global 63)]) 1,
  op 10 (.move (.global 64))])
(.seq (reg [op 11 (.move (.const (I 1)))])
(.seq (reg [op 65 (.lookup 6 (.tmp 7) (.tmp 7) false) 1,
  op 66 (.move (.tmp 11)) 1,
  op 67 (call (.func 276) #[(.global 65), (.global 66)]) 1,
  op 11 (.move (.global 67))])
(.seq (.seq (reg [op 68 (.move (.tmp 11)) 1,
  op 69 (.binOp .lss 0 (.global 68) (.const (I 0)) 0)])
(.cond (.tmp 69)
  (.seq (reg [op 2 (.move (.const (B false)))])
  .ret)
  .skip))
(.seq (.seq (reg [op 70 (.move (.tmp 11)) 1,
  op 71 (.move (.tmp 10)) 1,
  op 72 (.binOp .neq 0 (.global 70) (.global 71) 0)])
(.cond (.tmp 72)
  (.seq (reg [op 2 (.move (.const (B false)))])
  .ret)
  .skip))
(.seq (reg [op 74 (.lookup 4 (.tmp 1) (.tmp 1) false) 1,
  op 75 (call (.func 303) #[(.global 74)]) 1,
  op 76 (call (.func 101) #[(.global 75)]) 1,
  op 73 (.move (.global 76)) 1,
  op 77 (.extract (.global 73) 0) 1,
  op 78 (.extract (.global 73) 1) 1,
  op 12 (.move (.const (.agg #[(I 0), (I 0), (sl 0 0 0 0), (sl 0 0 0 0), (sl 0 0 0 0)]))),
  op 12 (.insert 5 (.tmp 12) (.tmp 12) (.global 77)),
  op 13 (.move (.global 78))])
(.seq (.seq (reg [op 79 (.lookup 6 (.tmp 12) (.tmp 12) false) 1,
  op 80 (.lookup 6 (.tmp 4) (.tmp 4) false) 1,
  op 81 (call (.func 260) #[(.global 79), (.global 80)]) 1,
  op 82 (.unOp .not 0 (.global 81)) 1,
  op 83 (.move (.global 82)) 1,
  op 84 (.move (.tmp 13)) 1 (some (167, false)),
  op 85 (.move (.tmp 5)) 1 (some (167, false)),
  op 86 (.binOp .neq 0 (.global 84) (.global 85) 0) 1 (some (167, false)),
  op 87 (.pick (.global 83) (.const (B true)) (.global 86))])
(.cond (.tmp 87)
  (.seq (reg [op 2 (.move (.const (B false)))])
  .ret)
  .skip))
(.seq (reg [op 11 (.move (.const (I 1)))])
(.seq (reg [op 88 (.lookup 6 (.tmp 7) (.tmp 7) false) 1,
  op 89 (.move (.tmp 11)) 1,
  op 90 (call (.func 276) #[(.global 88), (.global 89)]) 1,
  op 11 (.move (.global 90))])
(.seq (.seq (reg [op 91 (.move (.tmp 11)) 1,
  op 92 (.binOp .lss 0 (.global 91) (.const (I 0)) 0)])
(.cond (.tmp 92)
  (.seq (reg [op 2 (.move (.const (B false)))])
  .ret)
  .skip))
(.seq (.seq (reg [op 93 (.move (.tmp 11)) 1,
  op 94 (.move (.tmp 10)) 1,
  op 95 (.binOp .neq 0 (.global 93) (.global 94) 0)])
(.cond (.tmp 95)
  (.seq (reg [op 2 (.move (.const (B false)))])
  .ret)
  .skip))
(.seq (reg [op 2 (.move (.const (B true)))])
.ret))))))))))))))))))))))))), [(2, 0)]⟩

/-- laws.FnExactValidJournal -/
def fn248 : AFun := ⟨1,
(.seq (reg [op 1 (.makeChan 5 (.tmp 0)),
  op 2 (.move (.const (B false)))])
(.seq (reg [op 3 (.move (.const (I 1048576)))])
(.seq (reg [op 7 (.lookup 6 (.tmp 1) (.tmp 1) false) 1,
  op 8 (.move (.tmp 3)) 1,
  op 9 (call (.func 291) #[(.global 7), (.global 8)]) 1,
  op 3 (.move (.global 9))])
(.seq (.seq (reg [op 10 (.move (.tmp 3)) 1,
  op 11 (.binOp .lss 0 (.global 10) (.const (I 0)) 0)])
(.cond (.tmp 11)
  (.seq (reg [op 2 (.move (.const (B true)))])
  .ret)
  .skip))
(.seq (reg [op 12 (.lookup 6 (.tmp 1) (.tmp 1) false) 1,
  op 13 (call (.func 298) #[(.global 12)]) 1,
  op 14 (call (.func 427) #[(.global 13)]) 1,
  op 4 (.move (.global 14))])
(.seq (reg [op 15 (.lookup 6 (.tmp 1) (.tmp 1) false) 1,
  op 16 (call (.func 298) #[(.global 15)]) 1,
  op 5 (.move (.const (.agg #[(I 0), (I 0), (sl 0 0 0 0), (sl 0 0 0 0), (sl 0 0 0 0)]))),
  op 5 (.insert 5 (.tmp 5) (.tmp 5) (.global 16))])
(.seq (reg [op 17 (.lookup 6 (.tmp 5) (.tmp 5) false) 1,
  op 18 (call (.func 138) #[(.global 17)]) 1,
  op 6 (.move (.global 18))])
(.seq (.seq (reg [op 19 (.move (.tmp 6)) 1,
  op 20 (.move (.tmp 4)) 1,
  op 21 (.binOp .neq 1 (.global 19) (.global 20) 0)])
(.cond (.tmp 21)
  (.seq (reg [op 2 (.move (.const (B false)))])
  .ret)
  .skip))
(.seq (.seq (reg [op 22 (.lookup 6 (.tmp 5) (.tmp 5) false) 1,
  op 23 (.lookup 6 (.tmp 1) (.tmp 1) false) 1,
  op 24 (call (.func 298) #[(.global 23)]) 1,
  op 25 (call (.func 260) #[(.global 22), (.global 24)]) 1,
  op 26 (.unOp .not 0 (.global 25))])
(.cond (.tmp 26)
  (.seq (reg [op 2 (.move (.const (B false)))])
  .ret)
  .skip))
(.seq (reg [op 2 (.move (.const (B true)))])
.ret)))))))))), [(2, 0)]⟩

/-- laws.FnExactReadDiff -/
def fn234 : AFun := ⟨1,
(.seq (reg [op 2 (.move (.const (B false)))])
(.seq (.seq (reg [op 11 (.move (.tmp 0)) 1,
  op 12 (bi .len #[(.global 11)] 0) 1,
  op 13 (.binOp .gtr 0 (.global 12) (.const (I 1048576)) 0)])
(.cond (.tmp 13)
  (.seq (reg [op 2 (.move (.const (B true)))])
  .ret)
  .skip))
(.seq (reg [op 15 (.move (.tmp 0)) 1,
  op 16 (call (.func 410) #[(.global 15)]) 1,
  op 14 (.move (.global 16)) 1,
  op 17 (.extract (.global 14) 0) 1,
  op 18 (.extract (.global 14) 1) 1,
  op 3 (.move (.global 17)),
  op 4 (.move (.global 18))])
(.seq (reg [op 20 (.move (.tmp 0)) 1,
  op 21 (call (.func 119) #[(.global 20)]) 1,
  op 19 (.move (.global 21)) 1,
  op 22 (.extract (.global 19) 0) 1,
  op 23 (.extract (.global 19) 1) 1,
  op 5 (.move (.global 22)),
  op 6 (.move (.global 23))])
(.seq (.seq (reg [op 24 (.move (.tmp 5)) 1,
  op 25 (.move (.tmp 3)) 1,
  op 26 (call (.func 267) #[(.global 24), (.global 25)]) 1,
  op 27 (.unOp .not 0 (.global 26)) 1,
  op 28 (.move (.global 27)) 1,
  op 29 (.move (.tmp 6)) 1 (some (57, false)),
  op 30 (.move (.tmp 4)) 1 (some (57, false)),
  op 31 (.binOp .neq 1 (.global 29) (.global 30) 0) 1 (some (57, false)),
  op 32 (.pick (.global 28) (.const (B true)) (.global 31))])
(.cond (.tmp 32)
  (.seq (reg [op 2 (.move (.const (B false)))])
  .ret)
  .skip))
(.seq (reg [op 7 (.move (.const (I 1)))])
(.seq (reg [op 33 (.move (.tmp 5)) 1,
  op 34 (.move (.tmp 7)) 1,
  op 35 (call (.func 287) #[(.global 33), (.global 34)]) 1,
  op 7 (.move (.global 35))])
(.seq (reg [op 8 (.move (.const (I 1)))])
(.seq (reg [op 36 (.move (.tmp 5)) 1,
  op 37 (.move (.tmp 8)) 1,
  op 38 (call (.func 280) #[(.global 36), (.global 37)]) 1,
  op 8 (.move (.global 38))])
(.seq (.seq (reg [op 39 (.move (.tmp 8)) 1,
  op 40 (.binOp .lss 0 (.global 39) (.const (I 0)) 0)])
(.cond (.tmp 40)
  (.seq (reg [op 2 (.move (.const (B false)))])
  .ret)
  .skip))
(.seq (.seq (reg [op 41 (.move (.tmp 8)) 1,
  op 42 (.move (.tmp 7)) 1,
  op 43 (.binOp .neq 0 (.global 41) (.global 42) 0)])
(.cond (.tmp 43)
  (.seq (reg [op 2 (.move (.const (B false)))])
  .ret)
  .skip))
(.seq (reg [op 45 (.move (.tmp 0)) 1,
  op 46 (call (.func 119) #[(.global 45)]) 1,
  op 44 (.move (.global 46)) 1,
  op 47 (.extract (.global 44) 0) 1,
  op 48 (.extract (.global 44) 1) 1,
  op 9 (.move (.global 47)),
  op 10 (.move (.global 48))])
(.seq (.seq (reg [op 49 (.move (.tmp 9)) 1,
  op 50 (.move (.tmp 3)) 1,
  op 51 (call (.func 267) #[(.global 49), (.global 50)]) 1,
  op 52 (.unOp .not 0 (.global 51)) 1,
  op 53 (.move (.global 52)) 1,
  op 54 (.move (.tmp 10)) 1 (some (107, false)),
  op 55 (.move (.tmp 4)) 1 (some (107, false)),
  op 56 (.binOp .neq 1 (.global 54) (.global 55) 0) 1 (some (107, false)),
  op 57 (.pick (.global 53) (.const (B true)) (.global 56))])
(.cond (.tmp 57)
  (.seq (reg [op 2 (.move (.const (B false)))])
  .ret)
  .skip))
(.seq (reg [op 8 (.move (.const (I 1)))])
(.seq (reg [op 58 (.move (.tmp 5)) 1,
  op 59 (.move (.tmp 8)) 1,
  op 60 (call (.func 280) #[(.global 58), (.global 59)]) 1,
  op 8 (.move (.global 60))])
(.seq (.seq (reg [op 61 (.move (.tmp 8)) 1,
  op 62 (.binOp .lss 0 (.global 61) (.const (I 0)) 0)])
(.cond (.tmp 62)
  (.seq (reg [op 2 (.move (.const (B false)))])
  .ret)
  .skip))
(.seq (.seq (reg [op 63 (.move (.tmp 8)) 1,
  op 64 (.move (.tmp 7)) 1,
  op 65 (.binOp .neq 0 (.global 63) (.global 64) 0)])
(.cond (.tmp 65)
  (.seq (reg [op 2 (.move (.const (B false)))])
  .ret)
  .skip))
(.seq (reg [op 2 (.move (.const (B true)))])
.ret)))))))))))))))))), [(2, 0)]⟩

/-- laws.FnExactStartOf -/
def fn244 : AFun := ⟨1,
(.seq (reg [op 1 (.makeChan 5 (.tmp 0)),
  op 2 (.move (.const (B false)))])
(.seq (reg [op 3 (.move (.const (I 1048576)))])
(.seq (reg [op 14 (.lookup 6 (.tmp 1) (.tmp 1) false) 1,
  op 15 (.move (.tmp 3)) 1,
  op 16 (call (.func 291) #[(.global 14), (.global 15)]) 1,
  op 3 (.move (.global 16))])
(.seq (.seq (reg [op 17 (.move (.tmp 3)) 1,
  op 18 (.binOp .lss 0 (.global 17) (.const (I 0)) 0)])
(.cond (.tmp 18)
  (.seq (reg [op 2 (.move (.const (B true)))])
  .ret)
  .skip))
(.seq (reg [op 20 (.lookup 6 (.tmp 1) (.tmp 1) false) 1,
  op 21 (call (.func 298) #[(.global 20)]) 1,
  op 22 (call (.func 423) #[(.global 21)]) 1,
  op 19 (.move (.global 22)) 1,
  op 23 (.extract (.global 19) 0) 1,
  op 24 (.extract (.global 19) 1) 1,
  op 4 (.move (.const (.agg #[(I 0), (I 0), (sl 0 0 0 0)]))),
  op 4 (.insert 3 (.tmp 4) (.tmp 4) (.global 23)),
  op 5 (.move (.global 24))])
(.seq (reg [op 25 (.lookup 6 (.tmp 1) (.tmp 1) false) 1,
  op 26 (call (.func 298) #[(.global 25)]) 1,
  op 6 (.move (.const (.agg #[(I 0), (I 0), (sl 0 0 0 0), (sl 0 0 0 0), (sl 0 0 0 0)]))),
  op 6 (.insert 5 (.tmp 6) (.tmp 6) (.global 26))])
(.seq (reg [op 28 (.lookup 6 (.tmp 6) (.tmp 6) false) 1,
  op 29 (call (.func 133) #[(.global 28)]) 1,
  op 27 (.move (.global 29)) 1,
  op 30 (.extract (.global 27) 0) 1,
  op 31 (.extract (.global 27) 1) 1,
  op 7 (.move (.const (.agg #[(I 0), (I 0), (sl 0 0 0 0)]))),
  op 7 (.insert 3 (.tmp 7) (.tmp 7) (.global 30)),
  op 8 (.move (.global 31))])
(.seq (.seq (reg [op 32 (.lookup 4 (.tmp 7) (.tmp 7) false) 1,
  op 33 (.lookup 4 (.tmp 4) (.tmp 4) false) 1,
  op 34 (call (.func 265) #[(.global 32), (.global 33)]) 1,
  op 35 (.unOp .not 0 (.global 34)) 1,
  op 36 (.move (.global 35)) 1,
  op 37 (.move (.tmp 8)) 1 (some (73, false)),
  op 38 (.move (.tmp 5)) 1 (some (73, false)),
  op 39 (.binOp .neq 0 (.global 37) (.global 38) 0) 1 (some (73, false)),
  op 40 (.pick (.global 36) (.const (B true)) (.global 39))])
(.cond (.tmp 40)
  (.seq (reg [op 2 (.move (.const (B false)))])
  .ret)
  .skip))
(.seq (.seq (reg [op 41 (.lookup 6 (.tmp 6) (.tmp 6) false) 1,
  op 42 (.lookup 6 (.tmp 1) (.tmp 1) false) 1,
  op 43 (call (.func 298) #[(.global 42)]) 1,
  op 44 (call (.func 260) #[(.global 41), (.global 43)]) 1,
  op 45 (.unOp .not 0 (.global 44))])
(.cond (.tmp 45)
  (.seq (reg [op 2 (.move (.const (B false)))])
  .ret)
  .skip))
(.seq (reg [op 9 (.move (.const (I 1)))])
(.seq (reg [op 46 (.lookup 6 (.tmp 6) (.tmp 6) false) 1,
  op 47 (.move (.tmp 9)) 1,
  op 48 (call (.func 283) #[(.global 46), (.global 47)]) 1,
  op 9 (.move (.global 48))])
(.seq (.seq (reg [op 49 (.move (.tmp 9)) 1,
  op 50 (.binOp .lss 0 (.global 49) (.const (I 0)) 0) 1,
  op 51 (.move (.global 50)) 1,
  op 52 (.lookup 4 (.tmp 7) (.tmp 7) false) 1 (some (103, false)),
  op 53 (.lookup 4 (.tmp 4) (.tmp 4) false) 1 (some (103, false)),
  op 54 (call (.func 265) #[(.global 52), (.global 53)]) 1 (some (103, false)),
  op 55 (.unOp .not 0 (.global 54)) 1 (some (103, false)),
  op 56 (.pick (.global 51) (.const (B true)) (.global 55)) 1,
  op 57 (.move (.global 56)) 1,
  op 58 (.move (.tmp 8)) 1 (some (115, false)),
  op 59 (.move (.tmp 5)) 1 (some (115, false)),
  op 60 (.binOp .neq 0 (.global 58) (.global 59) 0) 1 (some (115, false)),
  op 61 (.pick (.global 57) (.const (B true)) (.global 60))])
(.cond (.tmp 61)
  (.seq (reg [op 2 (.move (.const (B false)))])
  .ret)
  .skip))
(.seq (reg [op 10 (.move (.const (I 1)))])
(.seq (reg [op 62 (.lookup 4 (.tmp 7) (.tmp 7) false) 1,
  op 63 (.move (.tmp 10)) 1,
  op 64 (call (.func 286) #[(.global 62), (.global 63)]) 1,
  op 10 (.move (.global 64))])
(.seq (reg [op 11 (.move (.const (I 1)))])
(.seq (reg [op 65 (.lookup 4 (.tmp 7) (.tmp 7) false) 1,
  op 66 (.move (.tmp 11)) 1,
  op 67 (call (.func 279) #[(.global 65), (.global 66)]) 1,
  op 11 (.move (.global 67))])
(.seq (.seq (reg [op 68 (.move (.tmp 11)) 1,
  op 69 (.binOp .lss 0 (.global 68) (.const (I 0)) 0)])
(.cond (.tmp 69)
  (.seq (reg [op 2 (.move (.const (B false)))])
  .ret)
  .skip))
(.seq (.seq (reg [op 70 (.move (.tmp 11)) 1,
  op 71 (.move (.tmp 10)) 1,
  op 72 (.binOp .neq 0 (.global 70) (.global 71) 0)])
(.cond (.tmp 72)
  (.seq (reg [op 2 (.move (.const (B false)))])
  .ret)
  .skip))
(.seq (reg [op 74 (.lookup 6 (.tmp 1) (.tmp 1) false) 1,
  op 75 (call (.func 298) #[(.global 74)]) 1,
  op 76 (call (.func 133) #[(.global 75)]) 1,
  op 73 (.move (.global 76)) 1,
  op 77 (.extract (.global 73) 0) 1,
  op 78 (.extract (.global 73) 1) 1,
  op 12 (.move (.const (.agg #[(I 0), (I 0), (sl 0 0 0 0)]))),
  op 12 (.insert 3 (.tmp 12) (.tmp 12) (.global 77)),
  op 13 (.move (.global 78))])
(.seq (.seq (reg [op 79 (.lookup 4 (.tmp 12) (.tmp 12) false) 1,
  op 80 (.lookup 4 (.tmp 4) (.tmp 4) false) 1,
  op 81 (call (.func 265) #[(.global 79), (.global 80)]) 1,
  op 82 (.unOp .not 0 (.global 81)) 1,
  op 83 (.move (.global 82)) 1,
  op 84 (.move (.tmp 13)) 1 (some (167, false)),
  op 85 (.move (.tmp 5)) 1 (some (167, false)),
  op 86 (.binOp .neq 0 (.global 84) (.global 85) 0) 1 (some (167, false)),
  op 87 (.pick (.global 83) (.const (B true)) (.global 86))])
(.cond (.tmp 87)
  (.seq (reg [op 2 (.move (.const (B false)))])
  .ret)
  .skip))
(.seq (reg [op 11 (.move (.const (I 1)))])
(.seq (reg [op 88 (.lookup 4 (.tmp 7) (.tmp 7) false) 1,
  op 89 (.move (.tmp 11)) 1,
  op 90 (call (.func 279) #[(.global 88), (.global 89)]) 1,
  op 11 (.move (.global 90))])
(.seq (.seq (reg [op 91 (.move (.tmp 11)) 1,
  op 92 (.binOp .lss 0 (.global 91) (.const (I 0)) 0)])
(.cond (.tmp 92)
  (.seq (reg [op 2 (.move (.const (B false)))])
  .ret)
  .skip))
(.seq (.seq (reg [op 93 (.move (.tmp 11)) 1,
  op 94 (.move (.tmp 10)) 1,
  op 95 (.binOp .neq 0 (.global 93) (.global 94) 0)])
(.cond (.tmp 95)
  (.seq (reg [op 2 (.move (.const (B false)))])
  .ret)
  .skip))
(.seq (reg [op 2 (.move (.const (B true)))])
.ret))))))))))))))))))))))))), [(2, 0)]⟩

/-- laws.FnExactDeskText -/
def fn211 : AFun := ⟨1,
(.seq (reg [op 1 (.makeChan 5 (.tmp 0)),
  op 2 (.move (.const (B false)))])
(.seq (reg [op 3 (.move (.const (I 1048576)))])
(.seq (reg [op 7 (.lookup 6 (.tmp 1) (.tmp 1) false) 1,
  op 8 (.move (.tmp 3)) 1,
  op 9 (call (.func 291) #[(.global 7), (.global 8)]) 1,
  op 3 (.move (.global 9))])
(.seq (.seq (reg [op 10 (.move (.tmp 3)) 1,
  op 11 (.binOp .lss 0 (.global 10) (.const (I 0)) 0)])
(.cond (.tmp 11)
  (.seq (reg [op 2 (.move (.const (B true)))])
  .ret)
  .skip))
(.seq (reg [op 12 (.lookup 6 (.tmp 1) (.tmp 1) false) 1,
  op 13 (call (.func 298) #[(.global 12)]) 1,
  op 14 (call (.func 344) #[(.global 13)]) 1,
  op 4 (.move (.global 14))])
(.seq (reg [op 15 (.lookup 6 (.tmp 1) (.tmp 1) false) 1,
  op 16 (call (.func 298) #[(.global 15)]) 1,
  op 5 (.move (.const (.agg #[(I 0), (I 0), (sl 0 0 0 0), (sl 0 0 0 0), (sl 0 0 0 0)]))),
  op 5 (.insert 5 (.tmp 5) (.tmp 5) (.global 16))])
(.seq (reg [op 17 (.lookup 6 (.tmp 5) (.tmp 5) false) 1,
  op 18 (call (.func 77) #[(.global 17)]) 1,
  op 6 (.move (.global 18))])
(.seq (.seq (reg [op 19 (.move (.tmp 6)) 1,
  op 20 (.move (.tmp 4)) 1,
  op 21 (.binOp .neq 0 (.global 19) (.global 20) 0)])
(.cond (.tmp 21)
  (.seq (reg [op 2 (.move (.const (B false)))])
  .ret)
  .skip))
(.seq (.seq (reg [op 22 (.lookup 6 (.tmp 5) (.tmp 5) false) 1,
  op 23 (.lookup 6 (.tmp 1) (.tmp 1) false) 1,
  op 24 (call (.func 298) #[(.global 23)]) 1,
  op 25 (call (.func 260) #[(.global 22), (.global 24)]) 1,
  op 26 (.unOp .not 0 (.global 25))])
(.cond (.tmp 26)
  (.seq (reg [op 2 (.move (.const (B false)))])
  .ret)
  .skip))
(.seq (reg [op 2 (.move (.const (B true)))])
.ret)))))))))), [(2, 0)]⟩

/-- laws.FnExactSquashJournal -/
def fn242 : AFun := ⟨1,
(.seq (reg [op 1 (.makeChan 5 (.tmp 0)),
  op 2 (.move (.const (B false)))])
(.seq (reg [op 3 (.move (.const (I 1048576)))])
(.seq (reg [op 14 (.lookup 6 (.tmp 1) (.tmp 1) false) 1,
  op 15 (.move (.tmp 3)) 1,
  op 16 (call (.func 291) #[(.global 14), (.global 15)]) 1,
  op 3 (.move (.global 16))])
(.seq (.seq (reg [op 17 (.move (.tmp 3)) 1,
  op 18 (.binOp .lss 0 (.global 17) (.const (I 0)) 0)])
(.cond (.tmp 18)
  (.seq (reg [op 2 (.move (.const (B true)))])
  .ret)
  .skip))
(.seq (reg [op 20 (.lookup 6 (.tmp 1) (.tmp 1) false) 1,
  op 21 (call (.func 298) #[(.global 20)]) 1,
  op 22 (call (.func 421) #[(.global 21)]) 1,
  op 19 (.move (.global 22)) 1,
  op 23 (.extract (.global 19) 0) 1,
  op 24 (.extract (.global 19) 1) 1,
  op 4 (.move (.const (.agg #[(I 0), (I 0), (sl 0 0 0 0), (sl 0 0 0 0), (sl 0 0 0 0)]))),
  op 4 (.insert 5 (.tmp 4) (.tmp 4) (.global 23)),
  op 5 (.move (.global 24))])
(.seq (reg [op 25 (.lookup 6 (.tmp 1) (.tmp 1) false) 1,
  op 26 (call (.func 298) #[(.global 25)]) 1,
  op 6 (.move (.const (.agg #[(I 0), (I 0), (sl 0 0 0 0), (sl 0 0 0 0), (sl 0 0 0 0)]))),
  op 6 (.insert 5 (.tmp 6) (.tmp 6) (.global 26))])
(.seq (reg [op 28 (.lookup 6 (.tmp 6) (.tmp 6) false) 1,
  op 29 (call (.func 131) #[(.global 28)]) 1,
  op 27 (.move (.global 29)) 1,
  op 30 (.extract (.global 27) 0) 1,
  op 31 (.extract (.global 27) 1) 1,
  op 7 (.move (.const (.agg #[(I 0), (I 0), (sl 0 0 0 0), (sl 0 0 0 0), (sl 0 0 0 0)]))),
  op 7 (.insert 5 (.tmp 7) (.tmp 7) (.global 30)),
  op 8 (.move (.global 31))])
(.seq (.seq (reg [op 32 (.lookup 6 (.tmp 7) (.tmp 7) false) 1,
  op 33 (.lookup 6 (.tmp 4) (.tmp 4) false) 1,
  op 34 (call (.func 260) #[(.global 32), (.global 33)]) 1,
  op 35 (.unOp .not 0 (.global 34)) 1,
  op 36 (.move (.global 35)) 1,
  op 37 (.move (.tmp 8)) 1 (some (73, false)),
  op 38 (.move (.tmp 5)) 1 (some (73, false)),
  op 39 (.binOp .neq 0 (.global 37) (.global 38) 0) 1 (some (73, false)),
  op 40 (.pick (.global 36) (.const (B true)) (.global 39))])
(.cond (.tmp 40)
  (.seq (reg [op 2 (.move (.const (B false)))])
  .ret)
  .skip))
(.seq (.seq (reg [op 41 (.lookup 6 (.tmp 6) (.tmp 6) false) 1,
  op 42 (.lookup 6 (.tmp 1) (.tmp 1) false) 1,
  op 43 (call (.func 298) #[(.global 42)]) 1,
  op 44 (call (.func 260) #[(.global 41), (.global 43)]) 1,
  op 45 (.unOp .not 0 (.global 44))])
(.cond (.tmp 45)
  (.seq (reg [op 2 (.move (.const (B false)))])
  .ret)
  .skip))
(.seq (reg [op 9 (.move (.const (I 1)))])
(.seq (reg [op 46 (.lookup 6 (.tmp 6) (.tmp 6) false) 1,
  op 47 (.move (.tmp 9)) 1,
  op 48 (call (.func 283) #[(.global 46), (.global 47)]) 1,
  op 9 (.move (.global 48))])
(.seq (.seq (reg [op 49 (.move (.tmp 9)) 1,
  op 50 (.binOp .lss 0 (.global 49) (.const (I 0)) 0) 1,
  op 51 (.move (.global 50)) 1,
  op 52 (.lookup 6 (.tmp 7) (.tmp 7) false) 1 (some (103, false)),
  op 53 (.lookup 6 (.tmp 4) (.tmp 4) false) 1 (some (103, false)),
  op 54 (call (.func 260) #[(.global 52), (.global 53)]) 1 (some (103, false)),
  op 55 (.unOp .not 0 (.global 54)) 1 (some (103, false)),
  op 56 (.pick (.global 51) (.const (B true)) (.global 55)) 1,
  op 57 (.move (.global 56)) 1,
  op 58 (.move (.tmp 8)) 1 (some (115, false)),
  op 59 (.move (.tmp 5)) 1 (some (115, false)),
  op 60 (.binOp .neq 0 (.global 58) (.global 59) 0) 1 (some (115, false)),
  op 61 (.pick (.global 57) (.const (B true)) (.global 60))])
(.cond (.tmp 61)
  (.seq (reg [op 2 (.move (.const (B false)))])
  .ret)
  .skip))
(.seq (reg [op 10 (.move (.const (I 1)))])
(.seq (reg [op 62 (.lookup 6 (.tmp 7) (.tmp 7) false) 1,
  op 63 (.move (.tmp 10)) 1,
  op 64 (call (.func 283) #[(.global 62), (.global 63)]) 1,
  op 10 (.move (.global 64))])
(.seq (reg [op 11 (.move (.const (I 1)))])
(.seq (reg [op 65 (.lookup 6 (.tmp 7) (.tmp 7) false) 1,
  op 66 (.move (.tmp 11)) 1,
  op 67 (call (.func 276) #[(.global 65), (.global 66)]) 1,
  op 11 (.move (.global 67))])
(.seq (.seq (reg [op 68 (.move (.tmp 11)) 1,
  op 69 (.binOp .lss 0 (.global 68) (.const (I 0)) 0)])
(.cond (.tmp 69)
  (.seq (reg [op 2 (.move (.const (B false)))])
  .ret)
  .skip))
(.seq (.seq (reg [op 70 (.move (.tmp 11)) 1,
  op 71 (.move (.tmp 10)) 1,
  op 72 (.binOp .neq 0 (.global 70) (.global 71) 0)])
(.cond (.tmp 72)
  (.seq (reg [op 2 (.move (.const (B false)))])
  .ret)
  .skip))
(.seq (reg [op 74 (.lookup 6 (.tmp 1) (.tmp 1) false) 1,
  op 75 (call (.func 298) #[(.global 74)]) 1,
  op 76 (call (.func 131) #[(.global 75)]) 1,
  op 73 (.move (.global 76)) 1,
  op 77 (.extract (.global 73) 0) 1,
  op 78 (.extract (.global 73) 1) 1,
  op 12 (.move (.const (.agg #[(I 0), (I 0), (sl 0 0 0 0), (sl 0 0 0 0), (sl 0 0 0 0)]))),
  op 12 (.insert 5 (.tmp 12) (.tmp 12) (.global 77)),
  op 13 (.move (.global 78))])
(.seq (.seq (reg [op 79 (.lookup 6 (.tmp 12) (.tmp 12) false) 1,
  op 80 (.lookup 6 (.tmp 4) (.tmp 4) false) 1,
  op 81 (call (.func 260) #[(.global 79), (.global 80)]) 1,
  op 82 (.unOp .not 0 (.global 81)) 1,
  op 83 (.move (.global 82)) 1,
  op 84 (.move (.tmp 13)) 1 (some (167, false)),
  op 85 (.move (.tmp 5)) 1 (some (167, false)),
  op 86 (.binOp .neq 0 (.global 84) (.global 85) 0) 1 (some (167, false)),
  op 87 (.pick (.global 83) (.const (B true)) (.global 86))])
(.cond (.tmp 87)
  (.seq (reg [op 2 (.move (.const (B false)))])
  .ret)
  .skip))
(.seq (reg [op 11 (.move (.const (I 1)))])
(.seq (reg [op 88 (.lookup 6 (.tmp 7) (.tmp 7) false) 1,
  op 89 (.move (.tmp 11)) 1,
  op 90 (call (.func 276) #[(.global 88), (.global 89)]) 1,
  op 11 (.move (.global 90))])
(.seq (.seq (reg [op 91 (.move (.tmp 11)) 1,
  op 92 (.binOp .lss 0 (.global 91) (.const (I 0)) 0)])
(.cond (.tmp 92)
  (.seq (reg [op 2 (.move (.const (B false)))])
  .ret)
  .skip))
(.seq (.seq (reg [op 93 (.move (.tmp 11)) 1,
  op 94 (.move (.tmp 10)) 1,
  op 95 (.binOp .neq 0 (.global 93) (.global 94) 0)])
(.cond (.tmp 95)
  (.seq (reg [op 2 (.move (.const (B false)))])
  .ret)
  .skip))
(.seq (reg [op 2 (.move (.const (B true)))])
.ret))))))))))))))))))))))))), [(2, 0)]⟩

/-- laws.FnExactDoStep -/
def fn215 : AFun := ⟨3,
(.seq (reg [op 3 (.makeChan 5 (.tmp 0)),
  op 6 (.move (.const (B false)))])
(.seq (reg [op 7 (.move (.const (I 1048576)))])
(.seq (reg [op 18 (.lookup 6 (.tmp 3) (.tmp 3) false) 1,
  op 19 (.move (.tmp 7)) 1,
  op 20 (call (.func 291) #[(.global 18), (.global 19)]) 1,
  op 7 (.move (.global 20))])
(.seq (.seq (reg [op 21 (.move (.tmp 7)) 1,
  op 22 (.binOp .lss 0 (.global 21) (.const (I 0)) 0)])
(.cond (.tmp 22)
  (.seq (reg [op 6 (.move (.const (B true)))])
  .ret)
  .skip))
(.seq (reg [op 24 (.lookup 6 (.tmp 3) (.tmp 3) false) 1,
  op 25 (call (.func 298) #[(.global 24)]) 1,
  op 26 (.move (.tmp 1)) 1,
  op 27 (.move (.tmp 2)) 1,
  op 28 (call (.func 348) #[(.global 25), (.global 26), (.global 27)]) 1,
  op 23 (.move (.global 28)) 1,
  op 29 (.extract (.global 23) 0) 1,
  op 30 (.extract (.global 23) 1) 1,
  op 8 (.move (.const (.agg #[(I 0), (I 0), (sl 0 0 0 0), (sl 0 0 0 0), (sl 0 0 0 0)]))),
  op 8 (.insert 5 (.tmp 8) (.tmp 8) (.global 29)),
  op 9 (.move (.global 30))])
(.seq (reg [op 31 (.lookup 6 (.tmp 3) (.tmp 3) false) 1,
  op 32 (call (.func 298) #[(.global 31)]) 1,
  op 10 (.move (.const (.agg #[(I 0), (I 0), (sl 0 0 0 0), (sl 0 0 0 0), (sl 0 0 0 0)]))),
  op 10 (.insert 5 (.tmp 10) (.tmp 10) (.global 32))])
(.seq (reg [op 34 (.lookup 6 (.tmp 10) (.tmp 10) false) 1,
  op 35 (.move (.tmp 1)) 1,
  op 36 (.move (.tmp 2)) 1,
  op 37 (call (.func 82) #[(.global 34), (.global 35), (.global 36)]) 1,
  op 33 (.move (.global 37)) 1,
  op 38 (.extract (.global 33) 0) 1,
  op 39 (.extract (.global 33) 1) 1,
  op 11 (.move (.const (.agg #[(I 0), (I 0), (sl 0 0 0 0), (sl 0 0 0 0), (sl 0 0 0 0)]))),
  op 11 (.insert 5 (.tmp 11) (.tmp 11) (.global 38)),
  op 12 (.move (.global 39))])
(.seq (.seq (reg [op 40 (.lookup 6 (.tmp 11) (.tmp 11) false) 1,
  op 41 (.lookup 6 (.tmp 8) (.tmp 8) false) 1,
  op 42 (call (.func 260) #[(.global 40), (.global 41)]) 1,
  op 43 (.unOp .not 0 (.global 42)) 1,
  op 44 (.move (.global 43)) 1,
  op 45 (.move (.tmp 12)) 1 (some (89, false)),
  op 46 (.move (.tmp 9)) 1 (some (89, false)),
  op 47 (.binOp .neq 0 (.global 45) (.global 46) 0) 1 (some (89, false)),
  op 48 (.pick (.global 44) (.const (B true)) (.global 47))])
(.cond (.tmp 48)
  (.seq (reg [op 6 (.move (.const (B false)))])
  .ret)
  .skip))
(.seq (.seq (reg [op 49 (.lookup 6 (.tmp 10) (.tmp 10) false) 1,
  op 50 (.lookup 6 (.tmp 3) (.tmp 3) false) 1,
  op 51 (call (.func 298) #[(.global 50)]) 1,
  op 52 (call (.func 260) #[(.global 49), (.global 51)]) 1,
  op 53 (.unOp .not 0 (.global 52))])
(.cond (.tmp 53)
  (.seq (reg [op 6 (.move (.const (B false)))])
  .ret)
  .skip))
(.seq (reg [op 13 (.move (.const (I 1)))])
(.seq (reg [op 54 (.lookup 6 (.tmp 10) (.tmp 10) false) 1,
  op 55 (.move (.tmp 13)) 1,
  op 56 (call (.func 283) #[(.global 54), (.global 55)]) 1,
  op 13 (.move (.global 56))])
(.seq (.seq (reg [op 57 (.move (.tmp 13)) 1,
  op 58 (.binOp .lss 0 (.global 57) (.const (I 0)) 0) 1,
  op 59 (.move (.global 58)) 1,
  op 60 (.lookup 6 (.tmp 11) (.tmp 11) false) 1 (some (119, false)),
  op 61 (.lookup 6 (.tmp 8) (.tmp 8) false) 1 (some (119, false)),
  op 62 (call (.func 260) #[(.global 60), (.global 61)]) 1 (some (119, false)),
  op 63 (.unOp .not 0 (.global 62)) 1 (some (119, false)),
  op 64 (.pick (.global 59) (.const (B true)) (.global 63)) 1,
  op 65 (.move (.global 64)) 1,
  op 66 (.move (.tmp 12)) 1 (some (131, false)),
  op 67 (.move (.tmp 9)) 1 (some (131, false)),
  op 68 (.binOp .neq 0 (.global 66) (.global 67) 0) 1 (some (131, false)),
  op 69 (.pick (.global 65) (.const (B true)) (.global 68))])
(.cond (.tmp 69)
  (.seq (reg [op 6 (.move (.const (B false)))])
  .ret)
  .skip))
(.seq (reg [op 14 (.move (.const (I 1)))])
(.seq (reg [op 70 (.lookup 6 (.tmp 11) (.tmp 11) false) 1,
  op 71 (.move (.tmp 14)) 1,
  op 72 (call (.func 283) #[(.global 70), (.global 71)]) 1,
  op 14 (.move (.global 72))])
(.seq (reg [op 15 (.move (.const (I 1)))])
(.seq (reg [op 73 (.lookup 6 (.tmp 11) (.tmp 11) false) 1,
  op 74 (.move (.tmp 15)) 1,
  op 75 (call (.func 276) #[(.global 73), (.global 74)]) 1,
  op 15 (.move (.global 75))])
(.seq (.seq (reg [op 76 (.move (.tmp 15)) 1,
  op 77 (.binOp .lss 0 (.global 76) (.const (I 0)) 0)])
(.cond (.tmp 77)
  (.seq (reg [op 6 (.move (.const (B false)))])
  .ret)
  .skip))
(.seq (.seq (reg [op 78 (.move (.tmp 15)) 1,
  op 79 (.move (.tmp 14)) 1,
  op 80 (.binOp .neq 0 (.global 78) (.global 79) 0)])
(.cond (.tmp 80)
  (.seq (reg [op 6 (.move (.const (B false)))])
  .ret)
  .skip))
(.seq (reg [op 82 (.lookup 6 (.tmp 3) (.tmp 3) false) 1,
  op 83 (call (.func 298) #[(.global 82)]) 1,
  op 84 (.move (.tmp 1)) 1,
  op 85 (.move (.tmp 2)) 1,
  op 86 (call (.func 82) #[(.global 83), (.global 84), (.global 85)]) 1,
  op 81 (.move (.global 86)) 1,
  op 87 (.extract (.global 81) 0) 1,
  op 88 (.extract (.global 81) 1) 1,
  op 16 (.move (.const (.agg #[(I 0), (I 0), (sl 0 0 0 0), (sl 0 0 0 0), (sl 0 0 0 0)]))),
  op 16 (.insert 5 (.tmp 16) (.tmp 16) (.global 87)),
  op 17 (.move (.global 88))])
(.seq (.seq (reg [op 89 (.lookup 6 (.tmp 16) (.tmp 16) false) 1,
  op 90 (.lookup 6 (.tmp 8) (.tmp 8) false) 1,
  op 91 (call (.func 260) #[(.global 89), (.global 90)]) 1,
  op 92 (.unOp .not 0 (.global 91)) 1,
  op 93 (.move (.global 92)) 1,
  op 94 (.move (.tmp 17)) 1 (some (187, false)),
  op 95 (.move (.tmp 9)) 1 (some (187, false)),
  op 96 (.binOp .neq 0 (.global 94) (.global 95) 0) 1 (some (187, false)),
  op 97 (.pick (.global 93) (.const (B true)) (.global 96))])
(.cond (.tmp 97)
  (.seq (reg [op 6 (.move (.const (B false)))])
  .ret)
  .skip))
(.seq (reg [op 15 (.move (.const (I 1)))])
(.seq (reg [op 98 (.lookup 6 (.tmp 11) (.tmp 11) false) 1,
  op 99 (.move (.tmp 15)) 1,
  op 100 (call (.func 276) #[(.global 98), (.global 99)]) 1,
  op 15 (.move (.global 100))])
(.seq (.seq (reg [op 101 (.move (.tmp 15)) 1,
  op 102 (.binOp .lss 0 (.global 101) (.const (I 0)) 0)])
(.cond (.tmp 102)
  (.seq (reg [op 6 (.move (.const (B false)))])
  .ret)
  .skip))
(.seq (.seq (reg [op 103 (.move (.tmp 15)) 1,
  op 104 (.move (.tmp 14)) 1,
  op 105 (.binOp .neq 0 (.global 103) (.global 104) 0)])
(.cond (.tmp 105)
  (.seq (reg [op 6 (.move (.const (B false)))])
  .ret)
  .skip))
(.seq (reg [op 6 (.move (.const (B true)))])
.ret))))))))))))))))))))))))), [(6, 0)]⟩

/-- laws.FnExactRedoStep -/
def fn237 : AFun := ⟨1,
(.seq (reg [op 1 (.makeChan 5 (.tmp 0)),
  op 2 (.move (.const (B false)))])
(.seq (reg [op 3 (.move (.const (I 1048576)))])
(.seq (reg [op 14 (.lookup 6 (.tmp 1) (.tmp 1) false) 1,
  op 15 (.move (.tmp 3)) 1,
  op 16 (call (.func 291) #[(.global 14), (.global 15)]) 1,
  op 3 (.move (.global 16))])
(.seq (.seq (reg [op 17 (.move (.tmp 3)) 1,
  op 18 (.binOp .lss 0 (.global 17) (.const (I 0)) 0)])
(.cond (.tmp 18)
  (.seq (reg [op 2 (.move (.const (B true)))])
  .ret)
  .skip))
(.seq (reg [op 20 (.lookup 6 (.tmp 1) (.tmp 1) false) 1,
  op 21 (call (.func 298) #[(.global 20)]) 1,
  op 22 (call (.func 414) #[(.global 21)]) 1,
  op 19 (.move (.global 22)) 1,
  op 23 (.extract (.global 19) 0) 1,
  op 24 (.extract (.global 19) 1) 1,
  op 4 (.move (.const (.agg #[(I 0), (I 0), (sl 0 0 0 0), (sl 0 0 0 0), (sl 0 0 0 0)]))),
  op 4 (.insert 5 (.tmp 4) (.tmp 4) (.global 23)),
  op 5 (.move (.global 24))])
(.seq (reg [op 25 (.lookup 6 (.tmp 1) (.tmp 1) false) 1,
  op 26 (call (.func 298) #[(.global 25)]) 1,
  op 6 (.move (.const (.agg #[(I 0), (I 0), (sl 0 0 0 0), (sl 0 0 0 0), (sl 0 0 0 0)]))),
  op 6 (.insert 5 (.tmp 6) (.tmp 6) (.global 26))])
(.seq (reg [op 28 (.lookup 6 (.tmp 6) (.tmp 6) false) 1,
  op 29 (call (.func 123) #[(.global 28)]) 1,
  op 27 (.move (.global 29)) 1,
  op 30 (.extract (.global 27) 0) 1,
  op 31 (.extract (.global 27) 1) 1,
  op 7 (.move (.const (.agg #[(I 0), (I 0), (sl 0 0 0 0), (sl 0 0 0 0), (sl 0 0 0 0)]))),
  op 7 (.insert 5 (.tmp 7) (.tmp 7) (.global 30)),
  op 8 (.move (.global 31))])
(.seq (.seq (reg [op 32 (.lookup 6 (.tmp 7) (.tmp 7) false) 1,
  op 33 (.lookup 6 (.tmp 4) (.tmp 4) false) 1,
  op 34 (call (.func 260) #[(.global 32), (.global 33)]) 1,
  op 35 (.unOp .not 0 (.global 34)) 1,
  op 36 (.move (.global 35)) 1,
  op 37 (.move (.tmp 8)) 1 (some (73, false)),
  op 38 (.move (.tmp 5)) 1 (some (73, false)),
  op 39 (.binOp .neq 0 (.global 37) (.global 38) 0) 1 (some (73, false)),
  op 40 (.pick (.global 36) (.const (B true)) (.global 39))])
(.cond (.tmp 40)
  (.seq (reg [op 2 (.move (.const (B false)))])
  .ret)
  .skip))
(.seq (.seq (reg [op 41 (.lookup 6 (.tmp 6) (.tmp 6) false) 1,
  op 42 (.lookup 6 (.tmp 1) (.tmp 1) false) 1,
  op 43 (call (.func 298) #[(.global 42)]) 1,
  op 44 (call (.func 260) #[(.global 41), (.global 43)]) 1,
  op 45 (.unOp .not 0 (.global 44))])
(.cond (.tmp 45)
  (.seq (reg [op 2 (.move (.const (B false)))])
  .ret)
  .skip))
(.seq (reg [op 9 (.move (.const (I 1)))])
(.seq (reg [op 46 (.lookup 6 (.tmp 6) (.tmp 6) false) 1,
  op 47 (.move (.tmp 9)) 1,
  op 48 (call (.func 283) #[(.global 46), (.global 47)]) 1,
  op 9 (.move (.global 48))])
(.seq (.seq (reg [op 49 (.move (.tmp 9)) 1,
  op 50 (.binOp .lss 0 (.global 49) (.const (I 0)) 0) 1,
  op 51 (.move (.global 50)) 1,
  op 52 (.lookup 6 (.tmp 7) (.tmp 7) false) 1 (some (103, false)),
  op 53 (.lookup 6 (.tmp 4) (.tmp 4) false) 1 (some (103, false)),
  op 54 (call (.func 260) #[(.global 52), (.global 53)]) 1 (some (103, false)),
  op 55 (.unOp .not 0 (.global 54)) 1 (some (103, false)),
  op 56 (.pick (.global 51) (.const (B true)) (.global 55)) 1,
  op 57 (.move (.global 56)) 1,
  op 58 (.move (.tmp 8)) 1 (some (115, false)),
  op 59 (.move (.tmp 5)) 1 (some (115, false)),
  op 60 (.binOp .neq 0 (.global 58) (.global 59) 0) 1 (some (115, false)),
  op 61 (.pick (.global 57) (.const (B true)) (.global 60))])
(.cond (.tmp 61)
  (.seq (reg [op 2 (.move (.const (B false)))])
  .ret)
  .skip))
(.seq (reg [op 10 (.move (.const (I 1)))])
(.seq (reg [op 62 (.lookup 6 (.tmp 7) (.tmp 7) false) 1,
  op 63 (.move (.tmp 10)) 1,
  op 64 (call (.func 283) #[(.global 62), (.global 63)]) 1,
  op 10 (.move (.global 64))])
(.seq (reg [op 11 (.move (.const (I 1)))])
(.seq (reg [op 65 (.lookup 6 (.tmp 7) (.tmp 7) false) 1,
  op 66 (.move (.tmp 11)) 1,
  op 67 (call (.func 276) #[(.global 65), (.global 66)]) 1,
  op 11 (.move (.global 67))])
(.seq (.seq (reg [op 68 (.move (.tmp 11)) 1,
  op 69 (.binOp .lss 0 (.global 68) (.const (I 0)) 0)])
(.cond (.tmp 69)
  (.seq (reg [op 2 (.move (.const (B false)))])
  .ret)
  .skip))
(.seq (.seq (reg [op 70 (.move (.tmp 11)) 1,
  op 71 (.move (.tmp 10)) 1,
  op 72 (.binOp .neq 0 (.global 70) (.global 71) 0)])
(.cond (.tmp 72)
  (.seq (reg [op 2 (.move (.const (B false)))])
  .ret)
  .skip))
(.seq (reg [op 74 (.lookup 6 (.tmp 1) (.tmp 1) false) 1,
  op 75 (call (.func 298) #[(.global 74)]) 1,
  op 76 (call (.func 123) #[(.global 75)]) 1,
  op 73 (.move (.global 76)) 1,
  op 77 (.extract (.global 73) 0) 1,
  op 78 (.extract (.global 73) 1) 1,
  op 12 (.move (.const (.agg #[(I 0), (I 0), (sl 0 0 0 0), (sl 0 0 0 0), (sl 0 0 0 0)]))),
  op 12 (.insert 5 (.tmp 12) (.tmp 12) (.global 77)),
  op 13 (.move (.global 78))])
(.seq (.seq (reg [op 79 (.lookup 6 (.tmp 12) (.tmp 12) false) 1,
  op 80 (.lookup 6 (.tmp 4) (.tmp 4) false) 1,
  op 81 (call (.func 260) #[(.global 79), (.global 80)]) 1,
  op 82 (.unOp .not 0 (.global 81)) 1,
  op 83 (.move (.global 82)) 1,
  op 84 (.move (.tmp 13)) 1 (some (167, false)),
  op 85 (.move (.tmp 5)) 1 (some (167, false)),
  op 86 (.binOp .neq 0 (.global 84) (.global 85) 0) 1 (some (167, false)),
  op 87 (.pick (.global 83) (.const (B true)) (.global 86))])
(.cond (.tmp 87)
  (.seq (reg [op 2 (.move (.const (B false)))])
  .ret)
  .skip))
(.seq (reg [op 11 (.move (.const (I 1)))])
(.seq (reg [op 88 (.lookup 6 (.tmp 7) (.tmp 7) false) 1,
  op 89 (.move (.tmp 11)) 1,
  op 90 (call (.func 276) #[(.global 88), (.global 89)]) 1,
  op 11 (.move (.global 90))])
(.seq (.seq (reg [op 91 (.move (.tmp 11)) 1,
  op 92 (.binOp .lss 0 (.global 91) (.const (I 0)) 0)])
(.cond (.tmp 92)
  (.seq (reg [op 2 (.move (.const (B false)))])
  .ret)
  .skip))
(.seq (.seq (reg [op 93 (.move (.tmp 11)) 1,
  op 94 (.move (.tmp 10)) 1,
  op 95 (.binOp .neq 0 (.global 93) (.global 94) 0)])
(.cond (.tmp 95)
  (.seq (reg [op 2 (.move (.const (B false)))])
  .ret)
  .skip))
(.seq (reg [op 2 (.move (.const (B true)))])
.ret))))))))))))))))))))))))), [(2, 0)]⟩

/-- laws.FnExactUndoStep -/
def fn245 : AFun := ⟨1,
(.seq (reg [op 1 (.makeChan 5 (.tmp 0)),
  op 2 (.move (.const (B false)))])
(.seq (reg [op 3 (.move (.const (I 1048576)))])
(.seq (reg [op 14 (.lookup 6 (.tmp 1) (.tmp 1) false) 1,
  op 15 (.move (.tmp 3)) 1,
  op 16 (call (.func 291) #[(.global 14), (.global 15)]) 1,
  op 3 (.move (.global 16))])
(.seq (.seq (reg [op 17 (.move (.tmp 3)) 1,
  op 18 (.binOp .lss 0 (.global 17) (.const (I 0)) 0)])
(.cond (.tmp 18)
  (.seq (reg [op 2 (.move (.const (B true)))])
  .ret)
  .skip))
(.seq (reg [op 20 (.lookup 6 (.tmp 1) (.tmp 1) false) 1,
  op 21 (call (.func 298) #[(.global 20)]) 1,
  op 22 (call (.func 424) #[(.global 21)]) 1,
  op 19 (.move (.global 22)) 1,
  op 23 (.extract (.global 19) 0) 1,
  op 24 (.extract (.global 19) 1) 1,
  op 4 (.move (.const (.agg #[(I 0), (I 0), (sl 0 0 0 0), (sl 0 0 0 0), (sl 0 0 0 0)]))),
  op 4 (.insert 5 (.tmp 4) (.tmp 4) (.global 23)),
  op 5 (.move (.global 24))])
(.seq (reg [op 25 (.lookup 6 (.tmp 1) (.tmp 1) false) 1,
  op 26 (call (.func 298) #[(.global 25)]) 1,
  op 6 (.move (.const (.agg #[(I 0), (I 0), (sl 0 0 0 0), (sl 0 0 0 0), (sl 0 0 0 0)]))),
  op 6 (.insert 5 (.tmp 6) (.tmp 6) (.global 26))])
(.seq (reg [op 28 (.lookup 6 (.tmp 6) (.tmp 6) false) 1,
  op 29 (call (.func 134) #[(.global 28)]) 1,
  op 27 (.move (.global 29)) 1,
  op 30 (.extract (.global 27) 0) 1,
  op 31 (.extract (.global 27) 1) 1,
  op 7 (.move (.const (.agg #[(I 0), (I 0), (sl 0 0 0 0), (sl 0 0 0 0), (sl 0 0 0 0)]))),
  op 7 (.insert 5 (.tmp 7) (.tmp 7) (.global 30)),
  op 8 (.move (.global 31))])
(.seq (.seq (reg [op 32 (.lookup 6 (.tmp 7) (.tmp 7) false) 1,
  op 33 (.lookup 6 (.tmp 4) (.tmp 4) false) 1,
  op 34 (call (.func 260) #[(.global 32), (.global 33)]) 1,
  op 35 (.unOp .not 0 (.global 34)) 1,
  op 36 (.move (.global 35)) 1,
  op 37 (.move (.tmp 8)) 1 (some (73, false)),
  op 38 (.move (.tmp 5)) 1 (some (73, false)),
  op 39 (.binOp .neq 0 (.global 37) (.global 38) 0) 1 (some (73, false)),
  op 40 (.pick (.global 36) (.const (B true)) (.global 39))])
(.cond (.tmp 40)
  (.seq (reg [op 2 (.move (.const (B false)))])
  .ret)
  .skip))
(.seq (.seq (reg [op 41 (.lookup 6 (.tmp 6) (.tmp 6) false) 1,
  op 42 (.lookup 6 (.tmp 1) (.tmp 1) false) 1,
  op 43 (call (.func 298) #[(.global 42)]) 1,
  op 44 (call (.func 260) #[(.global 41), (.global 43)]) 1,
  op 45 (.unOp .not 0 (.global 44))])
(.cond (.tmp 45)
  (.seq (reg [op 2 (.move (.const (B false)))])
  .ret)
  .skip))
(.seq (reg [op 9 (.move (.const (I 1)))])
(.seq (reg [op 46 (.lookup 6 (.tmp 6) (.tmp 6) false) 1,
  op 47 (.move (.tmp 9)) 1,
  op 48 (call (.func 283) #[(.global 46), (.global 47)]) 1,
  op 9 (.move (.global 48))])
(.seq (.seq (reg [op 49 (.move (.tmp 9)) 1,
  op 50 (.binOp .lss 0 (.global 49) (.const (I 0)) 0) 1,
  op 51 (.move (.global 50)) 1,
  op 52 (.lookup 6 (.tmp 7) (.tmp 7) false) 1 (some (103, false)),
  op 53 (.lookup 6 (.tmp 4) (.tmp 4) false) 1 (some (103, false)),
  op 54 (call (.func 260) #[(.global 52), (.global 53)]) 1 (some (103, false)),
  op 55 (.unOp .not 0 (.global 54)) 1 (some (103, false)),
  op 56 (.pick (.global 51) (.const (B true)) (.global 55)) 1,
  op 57 (.move (.global 56)) 1,
  op 58 (.move (.tmp 8)) 1 (some (115, false)),
  op 59 (.move (.tmp 5)) 1 (some (115, false)),
  op 60 (.binOp .neq 0 (.global 58) (.global 59) 0) 1 (some (115, false)),
  op 61 (.pick (.global 57) (.const (B true)) (.global 60))])
(.cond (.tmp 61)
  (.seq (reg [op 2 (.move (.const (B false)))])
  .ret)
  .skip))
(.seq (reg [op 10 (.move (.const (I 1)))])
(.seq (reg [op 62 (.lookup 6 (.tmp 7) (.tmp 7) false) 1,
  op 63 (.move (.tmp 10)) 1,
  op 64 (call (.func 283) #[(.global 62), (.global 63)]) 1,
  op 10 (.move (.global 64))])
(.seq (reg [op 11 (.move (.const (I 1)))])
(.seq (reg [op 65 (.lookup 6 (.tmp 7) (.tmp 7) false) 1,
  op 66 (.move (.tmp 11)) 1,
  op 67 (call (.func 276) #[(.global 65), (.global 66)]) 1,
  op 11 (.move (.global 67))])
(.seq (.seq (reg [op 68 (.move (.tmp 11)) 1,
  op 69 (.binOp .lss 0 (.global 68) (.const (I 0)) 0)])
(.cond (.tmp 69)
  (.seq (reg [op 2 (.move (.const (B false)))])
  .ret)
  .skip))
(.seq (.seq (reg [op 70 (.move (.tmp 11)) 1,
  op 71 (.move (.tmp 10)) 1,
  op 72 (.binOp .neq 0 (.global 70) (.global 71) 0)])
(.cond (.tmp 72)
  (.seq (reg [op 2 (.move (.const (B false)))])
  .ret)
  .skip))
(.seq (reg [op 74 (.lookup 6 (.tmp 1) (.tmp 1) false) 1,
  op 75 (call (.func 298) #[(.global 74)]) 1,
  op 76 (call (.func 134) #[(.global 75)]) 1,
  op 73 (.move (.global 76)) 1,
  op 77 (.extract (.global 73) 0) 1,
  op 78 (.extract (.global 73) 1) 1,
  op 12 (.move (.const (.agg #[(I 0), (I 0), (sl 0 0 0 0), (sl 0 0 0 0), (sl 0 0 0 0)]))),
  op 12 (.insert 5 (.tmp 12) (.tmp 12) (.global 77)),
  op 13 (.move (.global 78))])
(.seq (.seq (reg [op 79 (.lookup 6 (.tmp 12) (.tmp 12) false) 1,
  op 80 (.lookup 6 (.tmp 4) (.tmp 4) false) 1,
  op 81 (call (.func 260) #[(.global 79), (.global 80)]) 1,
  op 82 (.unOp .not 0 (.global 81)) 1,
  op 83 (.move (.global 82)) 1,
  op 84 (.move (.tmp 13)) 1 (some (167, false)),
  op 85 (.move (.tmp 5)) 1 (some (167, false)),
  op 86 (.binOp .neq 0 (.global 84) (.global 85) 0) 1 (some (167, false)),
  op 87 (.pick (.global 83) (.const (B true)) (.global 86))])
(.cond (.tmp 87)
  (.seq (reg [op 2 (.move (.const (B false)))])
  .ret)
  .skip))
(.seq (reg [op 11 (.move (.const (I 1)))])
(.seq (reg [op 88 (.lookup 6 (.tmp 7) (.tmp 7) false) 1,
  op 89 (.move (.tmp 11)) 1,
  op 90 (call (.func 276) #[(.global 88), (.global 89)]) 1,
  op 11 (.move (.global 90))])
(.seq (.seq (reg [op 91 (.move (.tmp 11)) 1,
  op 92 (.binOp .lss 0 (.global 91) (.const (I 0)) 0)])
(.cond (.tmp 92)
  (.seq (reg [op 2 (.move (.const (B false)))])
  .ret)
  .skip))
(.seq (.seq (reg [op 93 (.move (.tmp 11)) 1,
  op 94 (.move (.tmp 10)) 1,
  op 95 (.binOp .neq 0 (.global 93) (.global 94) 0)])
(.cond (.tmp 95)
  (.seq (reg [op 2 (.move (.const (B false)))])
  .ret)
  .skip))
(.seq (reg [op 2 (.move (.const (B true)))])
.ret))))))))))))))))))))))))), [(2, 0)]⟩

/-- laws.FnExactGoToStep -/
def fn216 : AFun := ⟨2,
(.seq (reg [op 2 (.makeChan 5 (.tmp 0)),
  op 4 (.move (.const (B false)))])
(.seq (reg [op 5 (.move (.const (I 1048576)))])
(.seq (reg [op 16 (.lookup 6 (.tmp 2) (.tmp 2) false) 1,
  op 17 (.move (.tmp 5)) 1,
  op 18 (call (.func 291) #[(.global 16), (.global 17)]) 1,
  op 5 (.move (.global 18))])
(.seq (.seq (reg [op 19 (.move (.tmp 5)) 1,
  op 20 (.binOp .lss 0 (.global 19) (.const (I 0)) 0)])
(.cond (.tmp 20)
  (.seq (reg [op 4 (.move (.const (B true)))])
  .ret)
  .skip))
(.seq (reg [op 22 (.lookup 6 (.tmp 2) (.tmp 2) false) 1,
  op 23 (call (.func 298) #[(.global 22)]) 1,
  op 24 (.move (.tmp 1)) 1,
  op 25 (call (.func 379) #[(.global 23), (.global 24)]) 1,
  op 21 (.move (.global 25)) 1,
  op 26 (.extract (.global 21) 0) 1,
  op 27 (.extract (.global 21) 1) 1,
  op 6 (.move (.const (.agg #[(I 0), (I 0), (sl 0 0 0 0), (sl 0 0 0 0), (sl 0 0 0 0)]))),
  op 6 (.insert 5 (.tmp 6) (.tmp 6) (.global 26)),
  op 7 (.move (.global 27))])
(.seq (reg [op 28 (.lookup 6 (.tmp 2) (.tmp 2) false) 1,
  op 29 (call (.func 298) #[(.global 28)]) 1,
  op 8 (.move (.const (.agg #[(I 0), (I 0), (sl 0 0 0 0), (sl 0 0 0 0), (sl 0 0 0 0)]))),
  op 8 (.insert 5 (.tmp 8) (.tmp 8) (.global 29))])
(.seq (reg [op 31 (.lookup 6 (.tmp 8) (.tmp 8) false) 1,
  op 32 (.move (.tmp 1)) 1,
  op 33 (call (.func 86) #[(.global 31), (.global 32)]) 1,
  op 30 (.move (.global 33)) 1,
  op 34 (.extract (.global 30) 0) 1,
  op 35 (.extract (.global 30) 1) 1,
  op 9 (.move (.const (.agg #[(I 0), (I 0), (sl 0 0 0 0), (sl 0 0 0 0), (sl 0 0 0 0)]))),
  op 9 (.insert 5 (.tmp 9) (.tmp 9) (.global 34)),
  op 10 (.move (.global 35))])
(.seq (.seq (reg [op 36 (.lookup 6 (.tmp 9) (.tmp 9) false) 1,
  op 37 (.lookup 6 (.tmp 6) (.tmp 6) false) 1,
  op 38 (call (.func 260) #[(.global 36), (.global 37)]) 1,
  op 39 (.unOp .not 0 (.global 38)) 1,
  op 40 (.move (.global 39)) 1,
  op 41 (.move (.tmp 10)) 1 (some (81, false)),
  op 42 (.move (.tmp 7)) 1 (some (81, false)),
  op 43 (.binOp .neq 0 (.global 41) (.global 42) 0) 1 (some (81, false)),
  op 44 (.pick (.global 40) (.const (B true)) (.global 43))])
(.cond (.tmp 44)
  (.seq (reg [op 4 (.move (.const (B false)))])
  .ret)
  .skip))
(.seq (.seq (reg [op 45 (.lookup 6 (.tmp 8) (.tmp 8) false) 1,
  op 46 (.lookup 6 (.tmp 2) (.tmp 2) false) 1,
  op 47 (call (.func 298) #[(.global 46)]) 1,
  op 48 (call (.func 260) #[(.global 45), (.global 47)]) 1,
  op 49 (.unOp .not 0 (.global 48))])
(.cond (.tmp 49)
  (.seq (reg [op 4 (.move (.const (B false)))])
  .ret)
  .skip))
(.seq (reg [op 11 (.move (.const (I 1)))])
(.seq (reg [op 50 (.lookup 6 (.tmp 8) (.tmp 8) false) 1,
  op 51 (.move (.tmp 11)) 1,
  op 52 (call (.func 283) #[(.global 50), (.global 51)]) 1,
  op 11 (.move (.global 52))])
(.seq (.seq (reg [op 53 (.move (.tmp 11)) 1,
  op 54 (.binOp .lss 0 (.global 53) (.const (I 0)) 0) 1,
  op 55 (.move (.global 54)) 1,
  op 56 (.lookup 6 (.tmp 9) (.tmp 9) false) 1 (some (111, false)),
  op 57 (.lookup 6 (.tmp 6) (.tmp 6) false) 1 (some (111, false)),
  op 58 (call (.func 260) #[(.global 56), (.global 57)]) 1 (some (111, false)),
  op 59 (.unOp .not 0 (.global 58)) 1 (some (111, false)),
  op 60 (.pick (.global 55) (.const (B true)) (.global 59)) 1,
  op 61 (.move (.global 60)) 1,
  op 62 (.move (.tmp 10)) 1 (some (123, false)),
  op 63 (.move (.tmp 7)) 1 (some (123, false)),
  op 64 (.binOp .neq 0 (.global 62) (.global 63) 0) 1 (some (123, false)),
  op 65 (.pick (.global 61) (.const (B true)) (.global 64))])
(.cond (.tmp 65)
  (.seq (reg [op 4 (.move (.const (B false)))])
  .ret)
  .skip))
(.seq (reg [op 12 (.move (.const (I 1)))])
(.seq (reg [op 66 (.lookup 6 (.tmp 9) (.tmp 9) false) 1,
  op 67 (.move (.tmp 12)) 1,
  op 68 (call (.func 283) #[(.global 66), (.global 67)]) 1,
  op 12 (.move (.global 68))])
(.seq (reg [op 13 (.move (.const (I 1)))])
(.seq (reg [op 69 (.lookup 6 (.tmp 9) (.tmp 9) false) 1,
  op 70 (.move (.tmp 13)) 1,
  op 71 (call (.func 276) #[(.global 69), (.global 70)]) 1,
  op 13 (.move (.global 71))])
(.seq (.seq (reg [op 72 (.move (.tmp 13)) 1,
  op 73 (.binOp .lss 0 (.global 72) (.const (I 0)) 0)])
(.cond (.tmp 73)
  (.seq (reg [op 4 (.move (.const (B false)))])
  .ret)
  .skip))
(.seq (.seq (reg [op 74 (.move (.tmp 13)) 1,
  op 75 (.move (.tmp 12)) 1,
  op 76 (.binOp .neq 0 (.global 74) (.global 75) 0)])
(.cond (.tmp 76)
  (.seq (reg [op 4 (.move (.const (B false)))])
  .ret)
  .skip))
(.seq (reg [op 78 (.lookup 6 (.tmp 2) (.tmp 2) false) 1,
  op 79 (call (.func 298) #[(.global 78)]) 1,
  op 80 (.move (.tmp 1)) 1,
  op 81 (call (.func 86) #[(.global 79), (.global 80)]) 1,
  op 77 (.move (.global 81)) 1,
  op 82 (.extract (.global 77) 0) 1,
  op 83 (.extract (.global 77) 1) 1,
  op 14 (.move (.const (.agg #[(I 0), (I 0), (sl 0 0 0 0), (sl 0 0 0 0), (sl 0 0 0 0)]))),
  op 14 (.insert 5 (.tmp 14) (.tmp 14) (.global 82)),
  op 15 (.move (.global 83))])
(.seq (.seq (reg [op 84 (.lookup 6 (.tmp 14) (.tmp 14) false) 1,
  op 85 (.lookup 6 (.tmp 6) (.tmp 6) false) 1,
  op 86 (call (.func 260) #[(.global 84), (.global 85)]) 1,
  op 87 (.unOp .not 0 (.global 86)) 1,
  op 88 (.move (.global 87)) 1,
  op 89 (.move (.tmp 15)) 1 (some (177, false)),
  op 90 (.move (.tmp 7)) 1 (some (177, false)),
  op 91 (.binOp .neq 0 (.global 89) (.global 90) 0) 1 (some (177, false)),
  op 92 (.pick (.global 88) (.const (B true)) (.global 91))])
(.cond (.tmp 92)
  (.seq (reg [op 4 (.move (.const (B false)))])
  .ret)
  .skip))
(.seq (reg [op 13 (.move (.const (I 1)))])
(.seq (reg [op 93 (.lookup 6 (.tmp 9) (.tmp 9) false) 1,
  op 94 (.move (.tmp 13)) 1,
  op 95 (call (.func 276) #[(.global 93), (.global 94)]) 1,
  op 13 (.move (.global 95))])
(.seq (.seq (reg [op 96 (.move (.tmp 13)) 1,
  op 97 (.binOp .lss 0 (.global 96) (.const (I 0)) 0)])
(.cond (.tmp 97)
  (.seq (reg [op 4 (.move (.const (B false)))])
  .ret)
  .skip))
(.seq (.seq (reg [op 98 (.move (.tmp 13)) 1,
  op 99 (.move (.tmp 12)) 1,
  op 100 (.binOp .neq 0 (.global 98) (.global 99) 0)])
(.cond (.tmp 100)
  (.seq (reg [op 4 (.move (.const (B false)))])
  .ret)
  .skip))
(.seq (reg [op 4 (.move (.const (B true)))])
.ret))))))))))))))))))))))))), [(4, 0)]⟩

/-- laws.szPanel -/
def fn295 : AFun := ⟨2,
(.seq (reg [op 2 (.makeChan 3 (.tmp 0)),
  op 4 (.move (.const (I 0)))])
(.seq (reg [op 5 (.fieldAddr 2 (.tmp 2) 1) 1,
  op 6 (.lookup 0 (.tmp 2) (.global 5) false) 1,
  op 7 (.move (.tmp 1)) 1,
  op 8 (call (.func 290) #[(.global 6), (.global 7)]) 1,
  op 1 (.move (.global 8))])
(.seq (.seq (reg [op 9 (.move (.tmp 1)) 1,
  op 10 (.binOp .lss 0 (.global 9) (.const (I 0)) 0)])
(.cond (.tmp 10)
  (.seq (reg [op 4 (.move (.const (I (-1))))])
  .ret)
  .skip))
(.seq (reg [op 11 (.move (.tmp 1)) 1,
  op 4 (.move (.global 11))])
.ret)))), [(4, 0)]⟩

/-- spec.PastePart -/
def fn406 : AFun := ⟨4,
(.seq (reg [op 4 (.box 3 (.tmp 0)),
  op 7 (.box 3 (.tmp 3)),
  op 8 (.move (.const (.agg #[(I 0), (I 0), (sl 0 0 0 0)]))),
  op 9 (.move (.const (I 0)))])
(.seq (.seq (reg [op 11 (call (.func 452) #[(.tmp 4)]) 1,
  op 12 (.unOp .not 0 (.global 11)) 1,
  op 13 (.move (.global 12)) 1,
  op 14 (call (.func 452) #[(.tmp 7)]) 1 (some (27, false)),
  op 15 (.unOp .not 0 (.global 14)) 1 (some (27, false)),
  op 16 (.pick (.global 13) (.const (B true)) (.global 15))])
(.cond (.tmp 16)
  (.seq (reg [op 17 (.build 0 #[(0, (.const (.agg #[(I 0), (I 0), (sl 0 0 0 0)])))]) 1,
    op 8 (.insert 3 (.tmp 8) (.tmp 8) (.global 17)),
    op 9 (.move (.const (I 1)))])
  .ret)
  .skip))
(.seq (.seq (reg [op 18 (.move (.tmp 1)) 1,
  op 19 (.move (.tmp 2)) 1,
  op 20 (.fieldAddr 0 (.tmp 7) 0) 1,
  op 21 (.load 0 (.global 20)) 1,
  op 22 (.fieldAddr 1 (.tmp 7) 0) 1,
  op 23 (.load 0 (.global 22)) 1,
  op 24 (call (.func 549) #[(.tmp 4), (.global 18), (.global 19), (.global 21), (.global 23)]) 1,
  op 25 (.unOp .not 0 (.global 24))])
(.cond (.tmp 25)
  (.seq (reg [op 26 (.build 0 #[(0, (.const (.agg #[(I 0), (I 0), (sl 0 0 0 0)])))]) 1,
    op 8 (.insert 3 (.tmp 8) (.tmp 8) (.global 26)),
    op 9 (.move (.const (I 2)))])
  .ret)
  .skip))
(.seq (reg [op 27 (call (.func 453) #[(.tmp 4)]) 1,
  op 10 (.box 3 (.const (.agg #[(I 0), (I 0), (sl 0 0 0 0)]))),
  opn (.store 3 (.tmp 10) (.global 27))])
(.seq (reg [op 28 (.move (.tmp 1)) 1,
  op 29 (.move (.tmp 2)) 1,
  op 30 (call (.func 551) #[(.tmp 10), (.global 28), (.global 29), (.tmp 7)]) 1])
(.seq (reg [op 31 (.load 4 (.tmp 10)) 1,
  op 8 (.insert 3 (.tmp 8) (.tmp 8) (.global 31)),
  op 9 (.move (.const (I 0)))])
.ret)))))), [(8, 1000004), (9, 0)]⟩

/-- laws.toPanel -/
def fn303 : AFun := ⟨1,
(.seq (reg [op 1 (.makeChan 3 (.tmp 0)),
  op 2 (.move (.const (.agg #[(I 0), (I 0), (sl 0 0 0 0)])))])
(.seq (reg [op 3 (.move (.const (.agg #[(I 0), (I 0), (sl 0 0 0 0)])))])
(.seq (reg [op 4 (.fieldAddr 0 (.tmp 1) 1) 1,
  op 5 (.lookup 0 (.tmp 1) (.global 4) false) 1,
  op 6 (.fieldAddr 0 (.tmp 3) 1) 1,
  op 3 (.insert 1 (.tmp 3) (.global 6) (.global 5))])
(.seq (reg [op 7 (.fieldAddr 1 (.tmp 1) 1) 1,
  op 8 (.lookup 0 (.tmp 1) (.global 7) false) 1,
  op 9 (.fieldAddr 1 (.tmp 3) 1) 1,
  op 3 (.insert 1 (.tmp 3) (.global 9) (.global 8))])
(.seq (reg [op 10 (.fieldAddr 2 (.tmp 1) 1) 1,
  op 11 (.lookup 0 (.tmp 1) (.global 10) false) 1,
  op 12 (call (.func 297) #[(.global 11)]) 1,
  op 13 (.fieldAddr 2 (.tmp 3) 1) 1,
  op 3 (.insert 1 (.tmp 3) (.global 13) (.global 12))])
(.seq (reg [op 14 (.lookup 4 (.tmp 3) (.tmp 3) false) 1,
  op 2 (.insert 3 (.tmp 2) (.tmp 2) (.global 14))])
.ret)))))), [(2, 1000004)]⟩

/-- impl.PastePart -/
def fn114 : AFun := ⟨4,
(.seq (reg [op 4 (.makeChan 3 (.tmp 0)),
  op 7 (.makeChan 3 (.tmp 3)),
  op 8 (.move (.const (.agg #[(I 0), (I 0), (sl 0 0 0 0)]))),
  op 9 (.move (.const (I 0)))])
(.seq (.seq (reg [op 11 (.lookup 4 (.tmp 4) (.tmp 4) false) 1,
  op 12 (call (.func 140) #[(.global 11)]) 1,
  op 13 (.unOp .not 0 (.global 12)) 1,
  op 14 (.move (.global 13)) 1,
  op 15 (.lookup 4 (.tmp 7) (.tmp 7) false) 1 (some (29, false)),
  op 16 (call (.func 140) #[(.global 15)]) 1 (some (29, false)),
  op 17 (.unOp .not 0 (.global 16)) 1 (some (29, false)),
  op 18 (.pick (.global 14) (.const (B true)) (.global 17))])
(.cond (.tmp 18)
  (.seq (reg [op 19 (.build 0 #[(0, (.const (.agg #[(I 0), (I 0), (sl 0 0 0 0)])))]) 1,
    op 8 (.insert 3 (.tmp 8) (.tmp 8) (.global 19)),
    op 9 (.move (.const (I 1)))])
  .ret)
  .skip))
(.seq (.seq (reg [op 20 (.lookup 4 (.tmp 4) (.tmp 4) false) 1,
  op 21 (.move (.tmp 1)) 1,
  op 22 (.move (.tmp 2)) 1,
  op 23 (.fieldAddr 0 (.tmp 7) 1) 1,
  op 24 (.lookup 0 (.tmp 7) (.global 23) false) 1,
  op 25 (.fieldAddr 1 (.tmp 7) 1) 1,
  op 26 (.lookup 0 (.tmp 7) (.global 25) false) 1,
  op 27 (call (.func 33) #[(.global 20), (.global 21), (.global 22), (.global 24), (.global 26)]) 1,
  op 28 (.unOp .not 0 (.global 27))])
(.cond (.tmp 28)
  (.seq (reg [op 29 (.build 0 #[(0, (.const (.agg #[(I 0), (I 0), (sl 0 0 0 0)])))]) 1,
    op 8 (.insert 3 (.tmp 8) (.tmp 8) (.global 29)),
    op 9 (.move (.const (I 2)))])
  .ret)
  .skip))
(.seq (reg [op 30 (.lookup 4 (.tmp 4) (.tmp 4) false) 1,
  op 31 (call (.func 150) #[(.global 30)]) 1,
  op 10 (.move (.const (.agg #[(I 0), (I 0), (sl 0 0 0 0)]))),
  op 10 (.insert 3 (.tmp 10) (.tmp 10) (.global 31))])
(.seq (reg [op 32 (.lookup 4 (.tmp 10) (.tmp 10) false) 1,
  op 33 (.move (.tmp 1)) 1,
  op 34 (.move (.tmp 2)) 1,
  op 35 (.lookup 4 (.tmp 7) (.tmp 7) false) 1,
  op 36 (call (.func 46) #[(.global 32), (.global 33), (.global 34), (.global 35)]) 1])
(.seq (reg [op 37 (.lookup 4 (.tmp 10) (.tmp 10) false) 1,
  op 8 (.insert 3 (.tmp 8) (.tmp 8) (.global 37)),
  op 9 (.move (.const (I 0)))])
.ret)))))), [(8, 1000004), (9, 0)]⟩

/-- laws.eqPanel -/
def fn265 : AFun := ⟨2,
(.seq (reg [op 2 (.makeChan 3 (.tmp 0)),
  op 3 (.makeChan 3 (.tmp 1)),
  op 4 (.move (.const (B false)))])
(.seq (.seq (reg [op 5 (.fieldAddr 0 (.tmp 2) 1) 1,
  op 6 (.lookup 0 (.tmp 2) (.global 5) false) 1,
  op 7 (.fieldAddr 0 (.tmp 3) 1) 1,
  op 8 (.lookup 0 (.tmp 3) (.global 7) false) 1,
  op 9 (.binOp .neq 0 (.global 6) (.global 8) 0)])
(.cond (.tmp 9)
  (.seq (reg [op 4 (.move (.const (B false)))])
  .ret)
  .skip))
(.seq (.seq (reg [op 10 (.fieldAddr 1 (.tmp 2) 1) 1,
  op 11 (.lookup 0 (.tmp 2) (.global 10) false) 1,
  op 12 (.fieldAddr 1 (.tmp 3) 1) 1,
  op 13 (.lookup 0 (.tmp 3) (.global 12) false) 1,
  op 14 (.binOp .neq 0 (.global 11) (.global 13) 0)])
(.cond (.tmp 14)
  (.seq (reg [op 4 (.move (.const (B false)))])
  .ret)
  .skip))
(.seq (.seq (reg [op 15 (.fieldAddr 2 (.tmp 2) 1) 1,
  op 16 (.lookup 0 (.tmp 2) (.global 15) false) 1,
  op 17 (.fieldAddr 2 (.tmp 3) 1) 1,
  op 18 (.lookup 0 (.tmp 3) (.global 17) false) 1,
  op 19 (call (.func 259) #[(.global 16), (.global 18)]) 1,
  op 20 (.unOp .not 0 (.global 19))])
(.cond (.tmp 20)
  (.seq (reg [op 4 (.move (.const (B false)))])
  .ret)
  .skip))
(.seq (reg [op 4 (.move (.const (B true)))])
.ret))))), [(4, 0)]⟩

/-- laws.markPanel -/
def fn286 : AFun := ⟨2,
(.seq (reg [op 2 (.makeChan 3 (.tmp 0)),
  op 4 (.move (.const (I 0)))])
(.seq (reg [op 5 (.fieldAddr 2 (.tmp 2) 1) 1,
  op 6 (.lookup 0 (.tmp 2) (.global 5) false) 1,
  op 7 (.move (.tmp 1)) 1,
  op 8 (call (.func 282) #[(.global 6), (.global 7)]) 1,
  op 1 (.move (.global 8))])
(.seq (reg [op 9 (.move (.tmp 1)) 1,
  op 4 (.move (.global 9))])
.ret))), [(4, 0)]⟩

/-- laws.heldPanel -/
def fn279 : AFun := ⟨2,
(.seq (reg [op 2 (.makeChan 3 (.tmp 0)),
  op 4 (.move (.const (I 0)))])
(.seq (reg [op 5 (.fieldAddr 2 (.tmp 2) 1) 1,
  op 6 (.lookup 0 (.tmp 2) (.global 5) false) 1,
  op 7 (.move (.tmp 1)) 1,
  op 8 (call (.func 275) #[(.global 6), (.global 7)]) 1,
  op 1 (.move (.global 8))])
(.seq (.seq (reg [op 9 (.move (.tmp 1)) 1,
  op 10 (.binOp .lss 0 (.global 9) (.const (I 0)) 0)])
(.cond (.tmp 10)
  (.seq (reg [op 4 (.move (.const (I (-1))))])
  .ret)
  .skip))
(.seq (reg [op 11 (.move (.tmp 1)) 1,
  op 4 (.move (.global 11))])
.ret)))), [(4, 0)]⟩

/-- laws.szPanelChangeS -/
def fn296 : AFun := ⟨2,
(.seq (reg [op 4 (.move (.const (I 0)))])
(.seq (reg [op 5 (.move (.tmp 1)) 1,
  op 6 (.move (.tmp 0)) 1,
  op 7 (bi .len #[(.global 6)] 1) 1,
  op 8 (.binOp .sub 0 (.global 5) (.global 7) 0) 1,
  op 1 (.move (.global 8))])
(.seq (.seq (reg [op 9 (.move (.tmp 1)) 1,
  op 10 (.binOp .lss 0 (.global 9) (.const (I 0)) 0)])
(.cond (.tmp 10)
  (.seq (reg [op 4 (.move (.const (I (-1))))])
  .ret)
  .skip))
(.seq (reg [op 11 (.move (.tmp 1)) 1,
  op 4 (.move (.global 11))])
.ret)))), [(4, 0)]⟩

/-- spec.ApplyDiff -/
def fn331 : AFun := ⟨2,
(.seq (reg [op 2 (.box 3 (.tmp 0)),
  op 4 (.move (.const (.agg #[(I 0), (I 0), (sl 0 0 0 0)]))),
  op 5 (.move (.const (I 0)))])
(.seq (.seq (reg [op 9 (call (.func 452) #[(.tmp 2)]) 1,
  op 10 (.unOp .not 0 (.global 9))])
(.cond (.tmp 10)
  (.seq (reg [op 11 (.build 0 #[(0, (.const (.agg #[(I 0), (I 0), (sl 0 0 0 0)])))]) 1,
    op 4 (.insert 3 (.tmp 4) (.tmp 4) (.global 11)),
    op 5 (.move (.const (I 1)))])
  .ret)
  .skip))
(.seq (reg [op 12 (call (.func 453) #[(.tmp 2)]) 1,
  op 6 (.move (.const (.agg #[(I 0), (I 0), (sl 0 0 0 0)]))),
  op 6 (.insert 3 (.tmp 6) (.tmp 6) (.global 12))])
(.seq (.seq (reg [op 7 (.move (.const (I 0)))])
(.block 0
  (.loop
    (.seq (.seq (reg [op 13 (.move (.tmp 7)) 1,
      op 14 (.move (.tmp 1)) 1,
      op 15 (bi .len #[(.global 14)] 1) 1,
      op 16 (.binOp .lss 0 (.global 13) (.global 15) 0)])
    (.cond (.tmp 16)
      .skip
      (.exit 0)))
    (.seq (.block 1
      (.seq (reg [op 19 (.move (.tmp 1)) 1,
        op 20 (.move (.tmp 7)) 1,
        op 21 (.indexAddr 7 (.global 19) (.global 20)) 1,
        op 22 (.load 4 (.global 21)) 1,
        op 8 (.move (.const (.agg #[(I 0), (I 0), (I 0)]))),
        op 8 (.insert 3 (.tmp 8) (.tmp 8) (.global 22))])
      (.seq (.seq (reg [op 23 (.fieldAddr 0 (.tmp 8) 1) 1,
        op 24 (.lookup 0 (.tmp 8) (.global 23) false) 1,
        op 25 (.fieldAddr 2 (.tmp 6) 1) 1,
        op 26 (.lookup 0 (.tmp 6) (.global 25) false) 1,
        op 27 (bi .len #[(.global 26)] 1) 1,
        op 28 (.binOp .sub 0 (.global 27) (.const (I 1)) 0) 1,
        op 29 (call (.func 432) #[(.global 24), (.const (I 0)), (.global 28)]) 1,
        op 30 (.unOp .not 0 (.global 29)) 1,
        op 31 (.move (.global 30)) 1,
        op 32 (.fieldAddr 2 (.tmp 8) 1) 1 (some (63, false)),
        op 33 (.lookup 0 (.tmp 8) (.global 32) false) 1 (some (63, false)),
        op 34 (call (.func 449) #[(.global 33)]) 1 (some (63, false)),
        op 35 (.unOp .not 0 (.global 34)) 1 (some (63, false)),
        op 36 (.pick (.global 31) (.const (B true)) (.global 35))])
      (.cond (.tmp 36)
        (.seq (reg [op 37 (.build 0 #[(0, (.const (.agg #[(I 0), (I 0), (sl 0 0 0 0)])))]) 1,
          op 4 (.insert 3 (.tmp 4) (.tmp 4) (.global 37)),
          op 5 (.move (.const (I 2)))])
        .ret)
        .skip))
      (.seq (.seq (reg [op 38 (.fieldAddr 2 (.tmp 6) 1) 1,
        op 39 (.lookup 0 (.tmp 6) (.global 38) false) 1,
        op 40 (.fieldAddr 0 (.tmp 8) 1) 1,
        op 41 (.lookup 0 (.tmp 8) (.global 40) false) 1,
        op 42 (.indexAddr 3 (.global 39) (.global 41)) 1,
        op 43 (.load 0 (.global 42)) 1,
        op 44 (.fieldAddr 1 (.tmp 8) 1) 1,
        op 45 (.lookup 0 (.tmp 8) (.global 44) false) 1,
        op 46 (.binOp .neq 0 (.global 43) (.global 45) 0)])
      (.cond (.tmp 46)
        (.seq (reg [op 47 (.build 0 #[(0, (.const (.agg #[(I 0), (I 0), (sl 0 0 0 0)])))]) 1,
          op 4 (.insert 3 (.tmp 4) (.tmp 4) (.global 47)),
          op 5 (.move (.const (I 9)))])
        .ret)
        .skip))
      (reg [op 48 (.fieldAddr 2 (.tmp 6) 1) 1,
        op 49 (.lookup 0 (.tmp 6) (.global 48) false) 1,
        op 50 (.fieldAddr 0 (.tmp 8) 1) 1,
        op 51 (.lookup 0 (.tmp 8) (.global 50) false) 1,
        op 52 (.fieldAddr 2 (.tmp 8) 1) 1,
        op 53 (.lookup 0 (.tmp 8) (.global 52) false) 1,
        op 54 (.indexAddr 3 (.global 49) (.global 51)) 1,
        opn (.store 1 (.global 54) (.global 53))])))))
    (reg [op 17 (.move (.tmp 7)) 1,
      op 18 (.binOp .add 0 (.global 17) (.const (I 1)) 0) 1,
      op 7 (.move (.global 18))]))))))
(.seq (reg [op 55 (.lookup 4 (.tmp 6) (.tmp 6) false) 1,
  op 4 (.insert 3 (.tmp 4) (.tmp 4) (.global 55)),
  op 5 (.move (.const (I 0)))])
.ret))))), [(4, 1000004), (5, 0)]⟩

/-- laws.toPanelChangeS -/
def fn305 : AFun := ⟨1,
(.seq (reg [op 2 (.move (.const (sl 0 0 0 0)))])
(.seq (reg [op 5 (.move (.tmp 0)) 1,
  op 6 (bi .len #[(.global 5)] 1) 1,
  op 7 (.mapUpdate 3 (.global 6) (.global 6) (.const (.agg #[(I 0), (I 0), (I 0)]))) 1,
  op 3 (.move (.global 7))])
(.seq (.seq (reg [op 4 (.move (.const (I 0)))])
(.block 0
  (.loop
    (.seq (.seq (reg [op 8 (.move (.tmp 4)) 1,
      op 9 (.move (.tmp 0)) 1,
      op 10 (bi .len #[(.global 9)] 1) 1,
      op 11 (.binOp .lss 0 (.global 8) (.global 10) 0)])
    (.cond (.tmp 11)
      .skip
      (.exit 0)))
    (.seq (.block 1
      (reg [op 14 (.move (.tmp 3)) 1,
        op 15 (.move (.tmp 4)) 1,
        op 16 (.move (.tmp 0)) 1,
        op 17 (.move (.tmp 4)) 1,
        op 18 (.indexAddr 7 (.global 16) (.global 17)) 1,
        op 19 (.load 4 (.global 18)) 1,
        op 20 (call (.func 304) #[(.global 19)]) 1,
        op 21 (.indexAddr 7 (.global 14) (.global 15)) 1,
        opn (.store 3 (.global 21) (.global 20))]))
    (reg [op 12 (.move (.tmp 4)) 1,
      op 13 (.binOp .add 0 (.global 12) (.const (I 1)) 0) 1,
      op 4 (.move (.global 13))]))))))
(.seq (reg [op 22 (.move (.tmp 3)) 1,
  op 2 (.move (.global 22))])
.ret)))), [(2, 0)]⟩

/-- impl.ApplyDiff -/
def fn62 : AFun := ⟨2,
(.seq (reg [op 2 (.makeChan 3 (.tmp 0)),
  op 4 (.move (.const (.agg #[(I 0), (I 0), (sl 0 0 0 0)]))),
  op 5 (.move (.const (I 0)))])
(.seq (.seq (reg [op 9 (.lookup 4 (.tmp 2) (.tmp 2) false) 1,
  op 10 (call (.func 140) #[(.global 9)]) 1,
  op 11 (.unOp .not 0 (.global 10))])
(.cond (.tmp 11)
  (.seq (reg [op 12 (.build 0 #[(0, (.const (.agg #[(I 0), (I 0), (sl 0 0 0 0)])))]) 1,
    op 4 (.insert 3 (.tmp 4) (.tmp 4) (.global 12)),
    op 5 (.move (.const (I 1)))])
  .ret)
  .skip))
(.seq (reg [op 13 (.lookup 4 (.tmp 2) (.tmp 2) false) 1,
  op 14 (call (.func 150) #[(.global 13)]) 1,
  op 6 (.move (.const (.agg #[(I 0), (I 0), (sl 0 0 0 0)]))),
  op 6 (.insert 3 (.tmp 6) (.tmp 6) (.global 14))])
(.seq (.seq (reg [op 15 (.move (.tmp 1)),
  op 16 (bi .len #[(.tmp 15)] 1),
  op 17 (.move (.const (I 0)))])
(.block 0
  (.loop
    (.seq (reg [op 18 (.binOp .lss 0 (.tmp 17) (.tmp 16) 0)])
    (.seq (.cond (.tmp 18)
      .skip
      (.exit 0))
    (.seq (.block 1
      (.seq (reg [op 19 (.indexAddr 7 (.tmp 15) (.tmp 17)) 1,
        op 20 (.load 4 (.global 19)) 1,
        op 8 (.move (.const (.agg #[(I 0), (I 0), (I 0)]))),
        op 8 (.insert 3 (.tmp 8) (.tmp 8) (.global 20))])
      (.seq (.seq (reg [op 21 (.fieldAddr 0 (.tmp 8) 1) 1,
        op 22 (.lookup 0 (.tmp 8) (.global 21) false) 1,
        op 23 (.fieldAddr 2 (.tmp 6) 1) 1,
        op 24 (.lookup 0 (.tmp 6) (.global 23) false) 1,
        op 25 (bi .len #[(.global 24)] 1) 1,
        op 26 (call (.func 163) #[(.global 22), (.global 25)]) 1,
        op 27 (.unOp .not 0 (.global 26)) 1,
        op 28 (.move (.global 27)) 1,
        op 29 (.fieldAddr 2 (.tmp 8) 1) 1 (some (57, false)),
        op 30 (.lookup 0 (.tmp 8) (.global 29) false) 1 (some (57, false)),
        op 31 (call (.func 196) #[(.global 30)]) 1 (some (57, false)),
        op 32 (.unOp .not 0 (.global 31)) 1 (some (57, false)),
        op 33 (.pick (.global 28) (.const (B true)) (.global 32))])
      (.cond (.tmp 33)
        (.seq (reg [op 34 (.build 0 #[(0, (.const (.agg #[(I 0), (I 0), (sl 0 0 0 0)])))]) 1,
          op 4 (.insert 3 (.tmp 4) (.tmp 4) (.global 34)),
          op 5 (.move (.const (I 2)))])
        .ret)
        .skip))
      (.seq (.seq (reg [op 35 (.fieldAddr 2 (.tmp 6) 1) 1,
        op 36 (.lookup 0 (.tmp 6) (.global 35) false) 1,
        op 37 (.fieldAddr 0 (.tmp 8) 1) 1,
        op 38 (.lookup 0 (.tmp 8) (.global 37) false) 1,
        op 39 (.indexAddr 3 (.global 36) (.global 38)) 1,
        op 40 (.load 0 (.global 39)) 1,
        op 41 (.fieldAddr 1 (.tmp 8) 1) 1,
        op 42 (.lookup 0 (.tmp 8) (.global 41) false) 1,
        op 43 (.binOp .neq 0 (.global 40) (.global 42) 0)])
      (.cond (.tmp 43)
        (.seq (reg [op 44 (.build 0 #[(0, (.const (.agg #[(I 0), (I 0), (sl 0 0 0 0)])))]) 1,
          op 4 (.insert 3 (.tmp 4) (.tmp 4) (.global 44)),
          op 5 (.move (.const (I 9)))])
        .ret)
        .skip))
      (reg [op 45 (.fieldAddr 2 (.tmp 6) 1) 1,
        op 46 (.lookup 0 (.tmp 6) (.global 45) false) 1,
        op 47 (.fieldAddr 0 (.tmp 8) 1) 1,
        op 48 (.lookup 0 (.tmp 8) (.global 47) false) 1,
        op 49 (.fieldAddr 2 (.tmp 8) 1) 1,
        op 50 (.lookup 0 (.tmp 8) (.global 49) false) 1,
        op 51 (.indexAddr 3 (.global 46) (.global 48)) 1,
        opn (.store 1 (.global 51) (.global 50))])))))
    (reg [op 52 (.binOp .add 0 (.tmp 17) (.const (I 1)) 0) 1,
      op 17 (.move (.global 52))])))))))
(.seq (reg [op 53 (.lookup 4 (.tmp 6) (.tmp 6) false) 1,
  op 4 (.insert 3 (.tmp 4) (.tmp 4) (.global 53)),
  op 5 (.move (.const (I 0)))])
.ret))))), [(4, 1000004), (5, 0)]⟩

/-- laws.eqPanelChangeS -/
def fn267 : AFun := ⟨2,
(.seq (reg [op 4 (.move (.const (B false)))])
(.seq (.seq (reg [op 6 (.move (.tmp 0)) 1,
  op 7 (bi .len #[(.global 6)] 1) 1,
  op 8 (.move (.tmp 1)) 1,
  op 9 (bi .len #[(.global 8)] 1) 1,
  op 10 (.binOp .neq 0 (.global 7) (.global 9) 0)])
(.cond (.tmp 10)
  (.seq (reg [op 4 (.move (.const (B false)))])
  .ret)
  .skip))
(.seq (.seq (reg [op 5 (.move (.const (I 0)))])
(.block 0
  (.loop
    (.seq (.seq (reg [op 11 (.move (.tmp 5)) 1,
      op 12 (.move (.tmp 0)) 1,
      op 13 (bi .len #[(.global 12)] 1) 1,
      op 14 (.binOp .lss 0 (.global 11) (.global 13) 0)])
    (.cond (.tmp 14)
      .skip
      (.exit 0)))
    (.seq (.block 1
      (.seq (reg [op 17 (.move (.tmp 0)) 1,
        op 18 (.move (.tmp 5)) 1,
        op 19 (.indexAddr 7 (.global 17) (.global 18)) 1,
        op 20 (.load 4 (.global 19)) 1,
        op 21 (.move (.tmp 1)) 1,
        op 22 (.move (.tmp 5)) 1,
        op 23 (.indexAddr 7 (.global 21) (.global 22)) 1,
        op 24 (.load 4 (.global 23)) 1,
        op 25 (call (.func 266) #[(.global 20), (.global 24)]) 1,
        op 26 (.unOp .not 0 (.global 25))])
      (.cond (.tmp 26)
        (.seq (reg [op 4 (.move (.const (B false)))])
        .ret)
        .skip)))
    (reg [op 15 (.move (.tmp 5)) 1,
      op 16 (.binOp .add 0 (.global 15) (.const (I 1)) 0) 1,
      op 5 (.move (.global 16))]))))))
(.seq (reg [op 4 (.move (.const (B true)))])
.ret)))), [(4, 0)]⟩

/-- laws.markPanelChangeS -/
def fn287 : AFun := ⟨2,
(.seq (reg [op 4 (.move (.const (I 0)))])
(.seq (.seq (reg [op 5 (.move (.const (I 0)))])
(.block 0
  (.loop
    (.seq (.seq (reg [op 6 (.move (.tmp 5)) 1,
      op 7 (.move (.tmp 0)) 1,
      op 8 (bi .len #[(.global 7)] 1) 1,
      op 9 (.binOp .lss 0 (.global 6) (.global 8) 0)])
    (.cond (.tmp 9)
      .skip
      (.exit 0)))
    (.seq (.block 1
      (.seq (reg [op 12 (.move (.tmp 0)) 1,
        op 13 (.move (.tmp 5)) 1,
        op 14 (.move (.tmp 1)) 1,
        op 15 (.indexAddr 7 (.global 12) (.global 13)) 1,
        op 16 (.fieldAddr 0 (.global 15) 0) 1,
        opn (.store 1 (.global 16) (.global 14))])
      (.seq (reg [op 17 (.move (.tmp 1)) 1,
        op 18 (.binOp .add 0 (.global 17) (.const (I 1)) 0) 1,
        op 1 (.move (.global 18))])
      (.seq (reg [op 19 (.move (.tmp 0)) 1,
        op 20 (.move (.tmp 5)) 1,
        op 21 (.move (.tmp 1)) 1,
        op 22 (.indexAddr 7 (.global 19) (.global 20)) 1,
        op 23 (.fieldAddr 1 (.global 22) 0) 1,
        opn (.store 1 (.global 23) (.global 21))])
      (.seq (reg [op 24 (.move (.tmp 1)) 1,
        op 25 (.binOp .add 0 (.global 24) (.const (I 1)) 0) 1,
        op 1 (.move (.global 25))])
      (.seq (reg [op 26 (.move (.tmp 0)) 1,
        op 27 (.move (.tmp 5)) 1,
        op 28 (.move (.tmp 1)) 1,
        op 29 (.indexAddr 7 (.global 26) (.global 27)) 1,
        op 30 (.fieldAddr 2 (.global 29) 0) 1,
        opn (.store 1 (.global 30) (.global 28))])
      (reg [op 31 (.move (.tmp 1)) 1,
        op 32 (.binOp .add 0 (.global 31) (.const (I 1)) 0) 1,
        op 1 (.move (.global 32))])))))))
    (reg [op 10 (.move (.tmp 5)) 1,
      op 11 (.binOp .add 0 (.global 10) (.const (I 1)) 0) 1,
      op 5 (.move (.global 11))]))))))
(.seq (reg [op 33 (.move (.tmp 1)) 1,
  op 4 (.move (.global 33))])
.ret))), [(4, 0)]⟩

/-- spec.NewJournal -/
def fn394 : AFun := ⟨1,
(.seq (reg [op 1 (.box 3 (.tmp 0)),
  op 2 (.move (.const (.agg #[(I 0), (I 0), (sl 0 0 0 0), (sl 0 0 0 0), (sl 0 0 0 0)]))),
  op 3 (.move (.const (I 0)))])
(.seq (.seq (reg [op 4 (call (.func 452) #[(.tmp 1)]) 1,
  op 5 (.unOp .not 0 (.global 4))])
(.cond (.tmp 5)
  (.seq (reg [op 6 (.build 0 #[(0, (.const (.agg #[(I 0), (I 0), (sl 0 0 0 0), (sl 0 0 0 0), (sl 0 0 0 0)])))]) 1,
    op 2 (.insert 5 (.tmp 2) (.tmp 2) (.global 6)),
    op 3 (.move (.const (I 1)))])
  .ret)
  .skip))
(.seq (reg [op 7 (call (.func 453) #[(.tmp 1)]) 1,
  op 8 (.build 0 #[(0, (.const (.agg #[(I 0), (I 0), (sl 0 0 0 0), (sl 0 0 0 0), (sl 0 0 0 0)]))), (3, (.global 7))]) 1,
  op 2 (.insert 5 (.tmp 2) (.tmp 2) (.global 8)),
  op 3 (.move (.const (I 0)))])
.ret))), [(2, 1000006), (3, 0)]⟩

/-- impl.NewJournal -/
def fn101 : AFun := ⟨1,
(.seq (reg [op 1 (.makeChan 3 (.tmp 0)),
  op 2 (.move (.const (.agg #[(I 0), (I 0), (sl 0 0 0 0), (sl 0 0 0 0), (sl 0 0 0 0)]))),
  op 3 (.move (.const (I 0)))])
(.seq (.seq (reg [op 4 (.lookup 4 (.tmp 1) (.tmp 1) false) 1,
  op 5 (call (.func 140) #[(.global 4)]) 1,
  op 6 (.unOp .not 0 (.global 5))])
(.cond (.tmp 6)
  (.seq (reg [op 7 (.build 0 #[(0, (.const (.agg #[(I 0), (I 0), (sl 0 0 0 0), (sl 0 0 0 0), (sl 0 0 0 0)])))]) 1,
    op 2 (.insert 5 (.tmp 2) (.tmp 2) (.global 7)),
    op 3 (.move (.const (I 1)))])
  .ret)
  .skip))
(.seq (reg [op 8 (.lookup 4 (.tmp 1) (.tmp 1) false) 1,
  op 9 (call (.func 150) #[(.global 8)]) 1,
  op 10 (.build 0 #[(0, (.const (.agg #[(I 0), (I 0), (sl 0 0 0 0), (sl 0 0 0 0), (sl 0 0 0 0)]))), (3, (.global 9))]) 1,
  op 2 (.insert 5 (.tmp 2) (.tmp 2) (.global 10)),
  op 3 (.move (.const (I 0)))])
.ret))), [(2, 1000006), (3, 0)]⟩

/-- laws.eqJournal -/
def fn260 : AFun := ⟨2,
(.seq (reg [op 2 (.makeChan 5 (.tmp 0)),
  op 3 (.makeChan 5 (.tmp 1)),
  op 4 (.move (.const (B false)))])
(.seq (.seq (reg [op 5 (.fieldAddr 0 (.tmp 2) 1) 1,
  op 6 (.lookup 4 (.tmp 2) (.global 5) false) 1,
  op 7 (.fieldAddr 0 (.tmp 3) 1) 1,
  op 8 (.lookup 4 (.tmp 3) (.global 7) false) 1,
  op 9 (call (.func 265) #[(.global 6), (.global 8)]) 1,
  op 10 (.unOp .not 0 (.global 9))])
(.cond (.tmp 10)
  (.seq (reg [op 4 (.move (.const (B false)))])
  .ret)
  .skip))
(.seq (.seq (reg [op 11 (.fieldAddr 3 (.tmp 2) 1) 1,
  op 12 (.lookup 0 (.tmp 2) (.global 11) false) 1,
  op 13 (.fieldAddr 3 (.tmp 3) 1) 1,
  op 14 (.lookup 0 (.tmp 3) (.global 13) false) 1,
  op 15 (call (.func 262) #[(.global 12), (.global 14)]) 1,
  op 16 (.unOp .not 0 (.global 15))])
(.cond (.tmp 16)
  (.seq (reg [op 4 (.move (.const (B false)))])
  .ret)
  .skip))
(.seq (.seq (reg [op 17 (.fieldAddr 4 (.tmp 2) 1) 1,
  op 18 (.lookup 0 (.tmp 2) (.global 17) false) 1,
  op 19 (.fieldAddr 4 (.tmp 3) 1) 1,
  op 20 (.lookup 0 (.tmp 3) (.global 19) false) 1,
  op 21 (call (.func 262) #[(.global 18), (.global 20)]) 1,
  op 22 (.unOp .not 0 (.global 21))])
(.cond (.tmp 22)
  (.seq (reg [op 4 (.move (.const (B false)))])
  .ret)
  .skip))
(.seq (reg [op 4 (.move (.const (B true)))])
.ret))))), [(4, 0)]⟩

/-- laws.markJournal -/
def fn283 : AFun := ⟨2,
(.seq (reg [op 2 (.makeChan 5 (.tmp 0)),
  op 4 (.move (.const (I 0)))])
(.seq (reg [op 5 (.fieldAddr 0 (.tmp 2) 1) 1,
  op 6 (.lookup 4 (.tmp 2) (.global 5) false) 1,
  op 7 (.move (.tmp 1)) 1,
  op 8 (call (.func 286) #[(.global 6), (.global 7)]) 1,
  op 1 (.move (.global 8))])
(.seq (reg [op 9 (.fieldAddr 3 (.tmp 2) 1) 1,
  op 10 (.lookup 0 (.tmp 2) (.global 9) false) 1,
  op 11 (.move (.tmp 1)) 1,
  op 12 (call (.func 284) #[(.global 10), (.global 11)]) 1,
  op 1 (.move (.global 12))])
(.seq (reg [op 13 (.fieldAddr 4 (.tmp 2) 1) 1,
  op 14 (.lookup 0 (.tmp 2) (.global 13) false) 1,
  op 15 (.move (.tmp 1)) 1,
  op 16 (call (.func 284) #[(.global 14), (.global 15)]) 1,
  op 1 (.move (.global 16))])
(.seq (reg [op 17 (.move (.tmp 1)) 1,
  op 4 (.move (.global 17))])
.ret))))), [(4, 0)]⟩

/-- laws.heldJournal -/
def fn276 : AFun := ⟨2,
(.seq (reg [op 2 (.makeChan 5 (.tmp 0)),
  op 4 (.move (.const (I 0)))])
(.seq (reg [op 5 (.fieldAddr 0 (.tmp 2) 1) 1,
  op 6 (.lookup 4 (.tmp 2) (.global 5) false) 1,
  op 7 (.move (.tmp 1)) 1,
  op 8 (call (.func 279) #[(.global 6), (.global 7)]) 1,
  op 1 (.move (.global 8))])
(.seq (.seq (reg [op 9 (.move (.tmp 1)) 1,
  op 10 (.binOp .lss 0 (.global 9) (.const (I 0)) 0)])
(.cond (.tmp 10)
  (.seq (reg [op 4 (.move (.const (I (-1))))])
  .ret)
  .skip))
(.seq (reg [op 11 (.fieldAddr 3 (.tmp 2) 1) 1,
  op 12 (.lookup 0 (.tmp 2) (.global 11) false) 1,
  op 13 (.move (.tmp 1)) 1,
  op 14 (call (.func 277) #[(.global 12), (.global 13)]) 1,
  op 1 (.move (.global 14))])
(.seq (.seq (reg [op 15 (.move (.tmp 1)) 1,
  op 16 (.binOp .lss 0 (.global 15) (.const (I 0)) 0)])
(.cond (.tmp 16)
  (.seq (reg [op 4 (.move (.const (I (-1))))])
  .ret)
  .skip))
(.seq (reg [op 17 (.fieldAddr 4 (.tmp 2) 1) 1,
  op 18 (.lookup 0 (.tmp 2) (.global 17) false) 1,
  op 19 (.move (.tmp 1)) 1,
  op 20 (call (.func 277) #[(.global 18), (.global 19)]) 1,
  op 1 (.move (.global 20))])
(.seq (.seq (reg [op 21 (.move (.tmp 1)) 1,
  op 22 (.binOp .lss 0 (.global 21) (.const (I 0)) 0)])
(.cond (.tmp 22)
  (.seq (reg [op 4 (.move (.const (I (-1))))])
  .ret)
  .skip))
(.seq (reg [op 23 (.move (.tmp 1)) 1,
  op 4 (.move (.global 23))])
.ret)))))))), [(4, 0)]⟩

/-- laws.szJournal -/
def fn291 : AFun := ⟨2,
(.seq (reg [op 2 (.makeChan 5 (.tmp 0)),
  op 4 (.move (.const (I 0)))])
(.seq (reg [op 5 (.fieldAddr 0 (.tmp 2) 1) 1,
  op 6 (.lookup 4 (.tmp 2) (.global 5) false) 1,
  op 7 (.move (.tmp 1)) 1,
  op 8 (call (.func 295) #[(.global 6), (.global 7)]) 1,
  op 1 (.move (.global 8))])
(.seq (.seq (reg [op 9 (.move (.tmp 1)) 1,
  op 10 (.binOp .lss 0 (.global 9) (.const (I 0)) 0)])
(.cond (.tmp 10)
  (.seq (reg [op 4 (.move (.const (I (-1))))])
  .ret)
  .skip))
(.seq (reg [op 11 (.fieldAddr 3 (.tmp 2) 1) 1,
  op 12 (.lookup 0 (.tmp 2) (.global 11) false) 1,
  op 13 (.move (.tmp 1)) 1,
  op 14 (call (.func 292) #[(.global 12), (.global 13)]) 1,
  op 1 (.move (.global 14))])
(.seq (.seq (reg [op 15 (.move (.tmp 1)) 1,
  op 16 (.binOp .lss 0 (.global 15) (.const (I 0)) 0)])
(.cond (.tmp 16)
  (.seq (reg [op 4 (.move (.const (I (-1))))])
  .ret)
  .skip))
(.seq (reg [op 17 (.fieldAddr 4 (.tmp 2) 1) 1,
  op 18 (.lookup 0 (.tmp 2) (.global 17) false) 1,
  op 19 (.move (.tmp 1)) 1,
  op 20 (call (.func 292) #[(.global 18), (.global 19)]) 1,
  op 1 (.move (.global 20))])
(.seq (.seq (reg [op 21 (.move (.tmp 1)) 1,
  op 22 (.binOp .lss 0 (.global 21) (.const (I 0)) 0)])
(.cond (.tmp 22)
  (.seq (reg [op 4 (.move (.const (I (-1))))])
  .ret)
  .skip))
(.seq (reg [op 23 (.move (.tmp 1)) 1,
  op 4 (.move (.global 23))])
.ret)))))))), [(4, 0)]⟩

/-- spec.ValidJournal -/
def fn427 : AFun := ⟨1,
(.seq (reg [op 1 (.box 5 (.tmp 0)),
  op 2 (.move (.const (B false)))])
(.seq (reg [op 3 (call (.func 558) #[(.tmp 1)]) 1,
  op 2 (.move (.global 3))])
.ret)), [(2, 0)]⟩

/-- laws.toJournal -/
def fn298 : AFun := ⟨1,
(.seq (reg [op 1 (.makeChan 5 (.tmp 0)),
  op 2 (.move (.const (.agg #[(I 0), (I 0), (sl 0 0 0 0), (sl 0 0 0 0), (sl 0 0 0 0)])))])
(.seq (reg [op 3 (.move (.const (.agg #[(I 0), (I 0), (sl 0 0 0 0), (sl 0 0 0 0), (sl 0 0 0 0)])))])
(.seq (reg [op 4 (.fieldAddr 0 (.tmp 1) 1) 1,
  op 5 (.lookup 4 (.tmp 1) (.global 4) false) 1,
  op 6 (call (.func 303) #[(.global 5)]) 1,
  op 7 (.fieldAddr 0 (.tmp 3) 1) 1,
  op 3 (.insert 3 (.tmp 3) (.global 7) (.global 6))])
(.seq (reg [op 8 (.fieldAddr 3 (.tmp 1) 1) 1,
  op 9 (.lookup 0 (.tmp 1) (.global 8) false) 1,
  op 10 (call (.func 300) #[(.global 9)]) 1,
  op 11 (.fieldAddr 3 (.tmp 3) 1) 1,
  op 3 (.insert 1 (.tmp 3) (.global 11) (.global 10))])
(.seq (reg [op 12 (.fieldAddr 4 (.tmp 1) 1) 1,
  op 13 (.lookup 0 (.tmp 1) (.global 12) false) 1,
  op 14 (call (.func 300) #[(.global 13)]) 1,
  op 15 (.fieldAddr 4 (.tmp 3) 1) 1,
  op 3 (.insert 1 (.tmp 3) (.global 15) (.global 14))])
(.seq (reg [op 16 (.lookup 6 (.tmp 3) (.tmp 3) false) 1,
  op 2 (.insert 5 (.tmp 2) (.tmp 2) (.global 16))])
.ret)))))), [(2, 1000006)]⟩

/-- impl.ValidJournal -/
def fn138 : AFun := ⟨1,
(.seq (reg [op 1 (.makeChan 5 (.tmp 0)),
  op 2 (.move (.const (B false)))])
(.seq (.seq (reg [op 8 (.fieldAddr 0 (.tmp 1) 1) 1,
  op 9 (.lookup 4 (.tmp 1) (.global 8) false) 1,
  op 10 (call (.func 140) #[(.global 9)]) 1,
  op 11 (.unOp .not 0 (.global 10)) 1,
  op 12 (.move (.global 11)) 1,
  op 13 (.fieldAddr 3 (.tmp 1) 1) 1 (some (25, false)),
  op 14 (.lookup 0 (.tmp 1) (.global 13) false) 1 (some (25, false)),
  op 15 (bi .len #[(.global 14)] 1) 1 (some (25, false)),
  op 16 (.fieldAddr 4 (.tmp 1) 1) 1 (some (25, false)),
  op 17 (.lookup 0 (.tmp 1) (.global 16) false) 1 (some (25, false)),
  op 18 (bi .len #[(.global 17)] 1) 1 (some (25, false)),
  op 19 (.binOp .add 0 (.global 15) (.global 18) 0) 1 (some (25, false)),
  op 20 (.binOp .gtr 0 (.global 19) (.const (I 50)) 0) 1 (some (25, false)),
  op 21 (.pick (.global 12) (.const (B true)) (.global 20))])
(.cond (.tmp 21)
  (.seq (reg [op 2 (.move (.const (B false)))])
  .ret)
  .skip))
(.seq (reg [op 22 (.fieldAddr 0 (.tmp 1) 1) 1,
  op 23 (.lookup 4 (.tmp 1) (.global 22) false) 1,
  op 24 (call (.func 150) #[(.global 23)]) 1,
  op 3 (.move (.const (.agg #[(I 0), (I 0), (sl 0 0 0 0)]))),
  op 3 (.insert 3 (.tmp 3) (.tmp 3) (.global 24))])
(.seq (.seq (reg [op 25 (.fieldAddr 3 (.tmp 1) 1) 1,
  op 26 (.lookup 0 (.tmp 1) (.global 25) false) 1,
  op 27 (bi .len #[(.global 26)] 1) 1,
  op 28 (.binOp .sub 0 (.global 27) (.const (I 1)) 0) 1,
  op 4 (.move (.global 28))])
(.block 0
  (.loop
    (.seq (.seq (reg [op 29 (.move (.tmp 4)) 1,
      op 30 (.binOp .geq 0 (.global 29) (.const (I 0)) 0)])
    (.cond (.tmp 30)
      .skip
      (.exit 0)))
    (.seq (.block 1
      (.seq (reg [op 33 (.fieldAddr 3 (.tmp 1) 1) 1,
        op 34 (.lookup 0 (.tmp 1) (.global 33) false) 1,
        op 35 (.move (.tmp 4)) 1,
        op 36 (.indexAddr 7 (.global 34) (.global 35)) 1,
        op 37 (.load 4 (.global 36)) 1,
        op 5 (.move (.const (.agg #[(I 0), (I 0), (I 0)]))),
        op 5 (.insert 3 (.tmp 5) (.tmp 5) (.global 37))])
      (.seq (.seq (reg [op 38 (.lookup 4 (.tmp 3) (.tmp 3) false) 1,
        op 39 (.lookup 4 (.tmp 5) (.tmp 5) false) 1,
        op 40 (call (.func 199) #[(.global 38), (.global 39)]) 1,
        op 41 (.unOp .not 0 (.global 40)) 1,
        op 42 (.move (.global 41)) 1,
        op 43 (.fieldAddr 2 (.tmp 3) 1) 1 (some (85, false)),
        op 44 (.lookup 0 (.tmp 3) (.global 43) false) 1 (some (85, false)),
        op 45 (.fieldAddr 0 (.tmp 5) 1) 1 (some (85, false)),
        op 46 (.lookup 0 (.tmp 5) (.global 45) false) 1 (some (85, false)),
        op 47 (.indexAddr 3 (.global 44) (.global 46)) 1 (some (85, false)),
        op 48 (.load 0 (.global 47)) 1 (some (85, false)),
        op 49 (.fieldAddr 2 (.tmp 5) 1) 1 (some (85, false)),
        op 50 (.lookup 0 (.tmp 5) (.global 49) false) 1 (some (85, false)),
        op 51 (.binOp .neq 0 (.global 48) (.global 50) 0) 1 (some (85, false)),
        op 52 (.pick (.global 42) (.const (B true)) (.global 51))])
      (.cond (.tmp 52)
        (.seq (reg [op 2 (.move (.const (B false)))])
        .ret)
        .skip))
      (reg [op 53 (.fieldAddr 2 (.tmp 3) 1) 1,
        op 54 (.lookup 0 (.tmp 3) (.global 53) false) 1,
        op 55 (.fieldAddr 0 (.tmp 5) 1) 1,
        op 56 (.lookup 0 (.tmp 5) (.global 55) false) 1,
        op 57 (.fieldAddr 1 (.tmp 5) 1) 1,
        op 58 (.lookup 0 (.tmp 5) (.global 57) false) 1,
        op 59 (.indexAddr 3 (.global 54) (.global 56)) 1,
        opn (.store 1 (.global 59) (.global 58))]))))
    (reg [op 31 (.move (.tmp 4)) 1,
      op 32 (.binOp .sub 0 (.global 31) (.const (I 1)) 0) 1,
      op 4 (.move (.global 32))]))))))
(.seq (reg [op 60 (.fieldAddr 0 (.tmp 1) 1) 1,
  op 61 (.lookup 4 (.tmp 1) (.global 60) false) 1,
  op 62 (call (.func 150) #[(.global 61)]) 1,
  op 3 (.insert 3 (.tmp 3) (.tmp 3) (.global 62))])
(.seq (.seq (reg [op 63 (.fieldAddr 4 (.tmp 1) 1) 1,
  op 64 (.lookup 0 (.tmp 1) (.global 63) false),
  op 65 (bi .len #[(.tmp 64)] 1),
  op 66 (.move (.const (I 0)))])
(.block 2
  (.loop
    (.seq (reg [op 67 (.binOp .lss 0 (.tmp 66) (.tmp 65) 0)])
    (.seq (.cond (.tmp 67)
      .skip
      (.exit 2))
    (.seq (.block 3
      (.seq (reg [op 68 (.indexAddr 7 (.tmp 64) (.tmp 66)) 1,
        op 69 (.load 4 (.global 68)) 1,
        op 7 (.move (.const (.agg #[(I 0), (I 0), (I 0)]))),
        op 7 (.insert 3 (.tmp 7) (.tmp 7) (.global 69))])
      (.seq (.seq (reg [op 70 (.lookup 4 (.tmp 3) (.tmp 3) false) 1,
        op 71 (.lookup 4 (.tmp 7) (.tmp 7) false) 1,
        op 72 (call (.func 199) #[(.global 70), (.global 71)]) 1,
        op 73 (.unOp .not 0 (.global 72)) 1,
        op 74 (.move (.global 73)) 1,
        op 75 (.fieldAddr 2 (.tmp 3) 1) 1 (some (149, false)),
        op 76 (.lookup 0 (.tmp 3) (.global 75) false) 1 (some (149, false)),
        op 77 (.fieldAddr 0 (.tmp 7) 1) 1 (some (149, false)),
        op 78 (.lookup 0 (.tmp 7) (.global 77) false) 1 (some (149, false)),
        op 79 (.indexAddr 3 (.global 76) (.global 78)) 1 (some (149, false)),
        op 80 (.load 0 (.global 79)) 1 (some (149, false)),
        op 81 (.fieldAddr 1 (.tmp 7) 1) 1 (some (149, false)),
        op 82 (.lookup 0 (.tmp 7) (.global 81) false) 1 (some (149, false)),
        op 83 (.binOp .neq 0 (.global 80) (.global 82) 0) 1 (some (149, false)),
        op 84 (.pick (.global 74) (.const (B true)) (.global 83))])
      (.cond (.tmp 84)
        (.seq (reg [op 2 (.move (.const (B false)))])
        .ret)
        .skip))
      (reg [op 85 (.fieldAddr 2 (.tmp 3) 1) 1,
        op 86 (.lookup 0 (.tmp 3) (.global 85) false) 1,
        op 87 (.fieldAddr 0 (.tmp 7) 1) 1,
        op 88 (.lookup 0 (.tmp 7) (.global 87) false) 1,
        op 89 (.fieldAddr 2 (.tmp 7) 1) 1,
        op 90 (.lookup 0 (.tmp 7) (.global 89) false) 1,
        op 91 (.indexAddr 3 (.global 86) (.global 88)) 1,
        opn (.store 1 (.global 91) (.global 90))]))))
    (reg [op 92 (.binOp .add 0 (.tmp 66) (.const (I 1)) 0) 1,
      op 66 (.move (.global 92))])))))))
(.seq (reg [op 2 (.move (.const (B true)))])
.ret))))))), [(2, 0)]⟩

/-- spec.ReadDiff -/
def fn410 : AFun := ⟨1,
(.seq (reg [op 2 (.move (.const (sl 0 0 0 0))),
  op 3 (.move (.const (B false)))])
(.seq (reg [op 11 (.move (.const (sl 0 0 0 3))) 1,
  op 4 (.move (.global 11))])
(.seq (.seq (reg [op 12 (.move (.tmp 0)) 1,
  op 13 (.binOp .eql 0 (.global 12) (.const (S [])) 0)])
(.cond (.tmp 13)
  (.seq (reg [op 14 (.move (.tmp 4)) 1,
    op 2 (.move (.global 14)),
    op 3 (.move (.const (B true)))])
  .ret)
  .skip))
(.seq (reg [op 15 (.move (.tmp 0)) 1,
  op 16 (call (.func 441) #[(.global 15), (.const (U 32))]) 1,
  op 5 (.move (.global 16))])
(.seq (.seq (reg [op 6 (.move (.const (I 0)))])
(.block 0
  (.loop
    (.seq (.seq (reg [op 17 (.move (.tmp 6)) 1,
      op 18 (.move (.tmp 5)) 1,
      op 19 (bi .len #[(.global 18)] 1) 1,
      op 20 (.binOp .lss 0 (.global 17) (.global 19) 0)])
    (.cond (.tmp 20)
      .skip
      (.exit 0)))
    (.seq (.block 1
      (.seq (reg [op 23 (.move (.tmp 5)) 1,
        op 24 (.move (.tmp 6)) 1,
        op 25 (.indexAddr 3 (.global 23) (.global 24)) 1,
        op 26 (.load 0 (.global 25)) 1,
        op 27 (bi .len #[(.global 26)] 0) 1,
        op 7 (.move (.global 27))])
      (.seq (.seq (reg [op 28 (.move (.tmp 7)) 1,
        op 29 (.binOp .lss 0 (.global 28) (.const (I 3)) 0)])
      (.cond (.tmp 29)
        (.seq (reg [op 2 (.move (.const (sl 0 0 0 0))),
          op 3 (.move (.const (B false)))])
        .ret)
        .skip))
      (.seq (reg [op 31 (.move (.tmp 5)) 1,
        op 32 (.move (.tmp 6)) 1,
        op 33 (.indexAddr 3 (.global 31) (.global 32)) 1,
        op 34 (.load 0 (.global 33)) 1,
        op 35 (.move (.tmp 7)) 1,
        op 36 (.binOp .sub 0 (.global 35) (.const (I 2)) 0) 1,
        op 37 (.slice 0 (.global 34) none (some (.global 36)) none) 1,
        op 38 (call (.func 439) #[(.global 37)]) 1,
        op 30 (.move (.global 38)) 1,
        op 39 (.extract (.global 30) 0) 1,
        op 40 (.extract (.global 30) 1) 1,
        op 8 (.move (.global 39)),
        op 9 (.move (.global 40))])
      (.seq (reg [op 41 (.move (.tmp 8)) 1,
        op 42 (.move (.tmp 5)) 1,
        op 43 (.move (.tmp 6)) 1,
        op 44 (.indexAddr 3 (.global 42) (.global 43)) 1,
        op 45 (.load 0 (.global 44)) 1,
        op 46 (.move (.tmp 7)) 1,
        op 47 (.binOp .sub 0 (.global 46) (.const (I 2)) 0) 1,
        op 48 (.index 0 (.global 45) (.global 47)) 1,
        op 49 (call (.func 467) #[(.global 48)]) 3,
        op 50 (.move (.tmp 5)) 1,
        op 51 (.move (.tmp 6)) 1,
        op 52 (.indexAddr 3 (.global 50) (.global 51)) 1,
        op 53 (.load 0 (.global 52)) 1,
        op 54 (.move (.tmp 7)) 1,
        op 55 (.binOp .sub 0 (.global 54) (.const (I 1)) 0) 1,
        op 56 (.index 0 (.global 53) (.global 55)) 1,
        op 57 (call (.func 467) #[(.global 56)]) 1,
        op 58 (.build 0 #[(0, (.const (.agg #[(I 0), (I 0), (I 0)]))), (1, (.global 41)), (1001, (.global 49)), (2001, (.global 57))]) 1,
        op 10 (.move (.const (.agg #[(I 0), (I 0), (I 0)]))),
        op 10 (.insert 3 (.tmp 10) (.tmp 10) (.global 58))])
      (.seq (.seq (reg [op 59 (.move (.tmp 9)) 1,
        op 60 (.unOp .not 0 (.global 59))])
      (.cond (.tmp 60)
        (.seq (reg [op 2 (.move (.const (sl 0 0 0 0))),
          op 3 (.move (.const (B false)))])
        .ret)
        .skip))
      (reg [op 61 (.move (.tmp 4)) 1,
        op 62 (.lookup 4 (.tmp 10) (.tmp 10) false) 1,
        op 63 (.buildSlice 3 1 #[(0, (.const (.agg #[(I 0), (I 0), (I 0)]))), (3, (.global 62))]) 1,
        op 64 (bi .append #[(.global 61), (.global 63)] 3) 1,
        op 4 (.move (.global 64))])))))))
    (reg [op 21 (.move (.tmp 6)) 1,
      op 22 (.binOp .add 0 (.global 21) (.const (I 1)) 0) 1,
      op 6 (.move (.global 22))]))))))
(.seq (.seq (reg [op 65 (.move (.tmp 4)) 1,
  op 66 (call (.func 550) #[(.global 65)]) 1,
  op 67 (.unOp .not 0 (.global 66))])
(.cond (.tmp 67)
  (.seq (reg [op 2 (.move (.const (sl 0 0 0 0))),
    op 3 (.move (.const (B false)))])
  .ret)
  .skip))
(.seq (reg [op 68 (.move (.tmp 4)) 1,
  op 2 (.move (.global 68)),
  op 3 (.move (.const (B true)))])
.ret))))))), [(2, 0), (3, 0)]⟩

/-- impl.ReadDiff -/
def fn119 : AFun := ⟨1,
(.seq (reg [op 2 (.move (.const (sl 0 0 0 0))),
  op 3 (.move (.const (B false)))])
(.seq (reg [op 10 (.move (.const (sl 0 0 0 3))) 1,
  op 4 (.move (.global 10))])
(.seq (.seq (reg [op 11 (.move (.tmp 0)) 1,
  op 12 (.binOp .eql 0 (.global 11) (.const (S [])) 0)])
(.cond (.tmp 12)
  (.seq (reg [op 13 (.move (.tmp 4)) 1,
    op 2 (.move (.global 13)),
    op 3 (.move (.const (B true)))])
  .ret)
  .skip))
(.seq (.seq (reg [op 14 (.move (.tmp 0)) 1,
  op 15 (call (.func 189) #[(.global 14), (.const (U 32))]),
  op 16 (bi .len #[(.tmp 15)] 1),
  op 17 (.move (.const (I 0)))])
(.block 0
  (.loop
    (.seq (reg [op 18 (.binOp .lss 0 (.tmp 17) (.tmp 16) 0)])
    (.seq (.cond (.tmp 18)
      .skip
      (.exit 0))
    (.seq (.block 1
      (.seq (reg [op 19 (.indexAddr 3 (.tmp 15) (.tmp 17)) 1,
        op 20 (.load 0 (.global 19)) 1,
        op 6 (.move (.global 20))])
      (.seq (reg [op 21 (.move (.tmp 6)) 1,
        op 22 (bi .len #[(.global 21)] 0) 1,
        op 7 (.move (.global 22))])
      (.seq (.seq (reg [op 23 (.move (.tmp 7)) 1,
        op 24 (.binOp .lss 0 (.global 23) (.const (I 3)) 0) 1,
        op 25 (.move (.global 24)) 1,
        op 26 (.move (.tmp 4)) 1 (some (51, false)),
        op 27 (bi .len #[(.global 26)] 1) 1 (some (51, false)),
        op 28 (.binOp .eql 0 (.global 27) (.const (I 112)) 0) 1 (some (51, false)),
        op 29 (.pick (.global 25) (.const (B true)) (.global 28))])
      (.cond (.tmp 29)
        (.seq (reg [op 2 (.move (.const (sl 0 0 0 0))),
          op 3 (.move (.const (B false)))])
        .ret)
        .skip))
      (.seq (reg [op 31 (.move (.tmp 6)) 1,
        op 32 (.move (.tmp 7)) 1,
        op 33 (.binOp .sub 0 (.global 32) (.const (I 2)) 0) 1,
        op 34 (.slice 0 (.global 31) none (some (.global 33)) none) 1,
        op 35 (call (.func 118) #[(.global 34)]) 1,
        op 30 (.move (.global 35)) 1,
        op 36 (.extract (.global 30) 0) 1,
        op 37 (.extract (.global 30) 1) 1,
        op 8 (.move (.global 36)),
        op 9 (.move (.global 37))])
      (.seq (.seq (reg [op 38 (.move (.tmp 9)) 1,
        op 39 (.unOp .not 0 (.global 38))])
      (.cond (.tmp 39)
        (.seq (reg [op 2 (.move (.const (sl 0 0 0 0))),
          op 3 (.move (.const (B false)))])
        .ret)
        .skip))
      (reg [op 40 (.move (.tmp 4)) 1,
        op 41 (.move (.tmp 8)) 1,
        op 42 (.move (.tmp 6)) 1,
        op 43 (.move (.tmp 7)) 1,
        op 44 (.binOp .sub 0 (.global 43) (.const (I 2)) 0) 1,
        op 45 (.index 0 (.global 42) (.global 44)) 1,
        op 46 (call (.func 174) #[(.global 45)]) 1,
        op 47 (.move (.tmp 6)) 1,
        op 48 (.move (.tmp 7)) 1,
        op 49 (.binOp .sub 0 (.global 48) (.const (I 1)) 0) 1,
        op 50 (.index 0 (.global 47) (.global 49)) 1,
        op 51 (call (.func 174) #[(.global 50)]) 1,
        op 52 (.build 0 #[(0, (.const (.agg #[(I 0), (I 0), (I 0)]))), (1, (.global 41)), (1001, (.global 46)), (2001, (.global 51))]) 1,
        op 53 (.buildSlice 3 1 #[(0, (.const (.agg #[(I 0), (I 0), (I 0)]))), (3, (.global 52))]) 1,
        op 54 (bi .append #[(.global 40), (.global 53)] 3) 1,
        op 4 (.move (.global 54))])))))))
    (reg [op 55 (.binOp .add 0 (.tmp 17) (.const (I 1)) 0) 1,
      op 17 (.move (.global 55))])))))))
(.seq (.seq (reg [op 56 (.move (.tmp 4)) 1,
  op 57 (call (.func 197) #[(.global 56)]) 1,
  op 58 (.unOp .not 0 (.global 57))])
(.cond (.tmp 58)
  (.seq (reg [op 2 (.move (.const (sl 0 0 0 0))),
    op 3 (.move (.const (B false)))])
  .ret)
  .skip))
(.seq (reg [op 59 (.move (.tmp 4)) 1,
  op 2 (.move (.global 59)),
  op 3 (.move (.const (B true)))])
.ret)))))), [(2, 0), (3, 0)]⟩

/-- laws.heldPanelChangeS -/
def fn280 : AFun := ⟨2,
(.seq (reg [op 4 (.move (.const (I 0)))])
(.seq (.seq (reg [op 5 (.move (.const (I 0)))])
(.block 0
  (.loop
    (.seq (.seq (reg [op 6 (.move (.tmp 5)) 1,
      op 7 (.move (.tmp 0)) 1,
      op 8 (bi .len #[(.global 7)] 1) 1,
      op 9 (.binOp .lss 0 (.global 6) (.global 8) 0)])
    (.cond (.tmp 9)
      .skip
      (.exit 0)))
    (.seq (.block 1
      (.seq (.seq (reg [op 12 (.move (.tmp 0)) 1,
        op 13 (.move (.tmp 5)) 1,
        op 14 (.indexAddr 7 (.global 12) (.global 13)) 1,
        op 15 (.fieldAddr 0 (.global 14) 0) 1,
        op 16 (.load 0 (.global 15)) 1,
        op 17 (.move (.tmp 1)) 1,
        op 18 (.binOp .neq 0 (.global 16) (.global 17) 0)])
      (.cond (.tmp 18)
        (.seq (reg [op 4 (.move (.const (I (-1))))])
        .ret)
        .skip))
      (.seq (reg [op 19 (.move (.tmp 1)) 1,
        op 20 (.binOp .add 0 (.global 19) (.const (I 1)) 0) 1,
        op 1 (.move (.global 20))])
      (.seq (.seq (reg [op 21 (.move (.tmp 0)) 1,
        op 22 (.move (.tmp 5)) 1,
        op 23 (.indexAddr 7 (.global 21) (.global 22)) 1,
        op 24 (.fieldAddr 1 (.global 23) 0) 1,
        op 25 (.load 0 (.global 24)) 1,
        op 26 (.move (.tmp 1)) 1,
        op 27 (.binOp .neq 0 (.global 25) (.global 26) 0)])
      (.cond (.tmp 27)
        (.seq (reg [op 4 (.move (.const (I (-1))))])
        .ret)
        .skip))
      (.seq (reg [op 28 (.move (.tmp 1)) 1,
        op 29 (.binOp .add 0 (.global 28) (.const (I 1)) 0) 1,
        op 1 (.move (.global 29))])
      (.seq (.seq (reg [op 30 (.move (.tmp 0)) 1,
        op 31 (.move (.tmp 5)) 1,
        op 32 (.indexAddr 7 (.global 30) (.global 31)) 1,
        op 33 (.fieldAddr 2 (.global 32) 0) 1,
        op 34 (.load 0 (.global 33)) 1,
        op 35 (.move (.tmp 1)) 1,
        op 36 (.binOp .neq 0 (.global 34) (.global 35) 0)])
      (.cond (.tmp 36)
        (.seq (reg [op 4 (.move (.const (I (-1))))])
        .ret)
        .skip))
      (reg [op 37 (.move (.tmp 1)) 1,
        op 38 (.binOp .add 0 (.global 37) (.const (I 1)) 0) 1,
        op 1 (.move (.global 38))])))))))
    (reg [op 10 (.move (.tmp 5)) 1,
      op 11 (.binOp .add 0 (.global 10) (.const (I 1)) 0) 1,
      op 5 (.move (.global 11))]))))))
(.seq (reg [op 39 (.move (.tmp 1)) 1,
  op 4 (.move (.global 39))])
.ret))), [(4, 0)]⟩

/-- spec.StartOf -/
def fn423 : AFun := ⟨1,
(.seq (reg [op 1 (.box 5 (.tmp 0)),
  op 2 (.move (.const (.agg #[(I 0), (I 0), (sl 0 0 0 0)]))),
  op 3 (.move (.const (I 0)))])
(.seq (.seq (reg [op 4 (call (.func 558) #[(.tmp 1)]) 1,
  op 5 (.unOp .not 0 (.global 4))])
(.cond (.tmp 5)
  (.seq (reg [op 6 (.build 0 #[(0, (.const (.agg #[(I 0), (I 0), (sl 0 0 0 0)])))]) 1,
    op 2 (.insert 3 (.tmp 2) (.tmp 2) (.global 6)),
    op 3 (.move (.const (I 1)))])
  .ret)
  .skip))
(.seq (reg [op 7 (call (.func 561) #[(.tmp 1)]) 1,
  op 2 (.insert 3 (.tmp 2) (.tmp 2) (.global 7)),
  op 3 (.move (.const (I 0)))])
.ret))), [(2, 1000004), (3, 0)]⟩

/-- impl.StartOf -/
def fn133 : AFun := ⟨1,
(.seq (reg [op 1 (.makeChan 5 (.tmp 0)),
  op 2 (.move (.const (.agg #[(I 0), (I 0), (sl 0 0 0 0)]))),
  op 3 (.move (.const (I 0)))])
(.seq (.seq (reg [op 4 (.lookup 6 (.tmp 1) (.tmp 1) false) 1,
  op 5 (call (.func 138) #[(.global 4)]) 1,
  op 6 (.unOp .not 0 (.global 5))])
(.cond (.tmp 6)
  (.seq (reg [op 7 (.build 0 #[(0, (.const (.agg #[(I 0), (I 0), (sl 0 0 0 0)])))]) 1,
    op 2 (.insert 3 (.tmp 2) (.tmp 2) (.global 7)),
    op 3 (.move (.const (I 1)))])
  .ret)
  .skip))
(.seq (reg [op 8 (.lookup 6 (.tmp 1) (.tmp 1) false) 1,
  op 9 (call (.func 22) #[(.global 8)]) 1,
  op 2 (.insert 3 (.tmp 2) (.tmp 2) (.global 9)),
  op 3 (.move (.const (I 0)))])
.ret))), [(2, 1000004), (3, 0)]⟩

/-- spec.DeskText -/
def fn344 : AFun := ⟨1,
(.seq (reg [op 1 (.box 5 (.tmp 0)),
  op 2 (.move (.const (S [])))])
(.seq (.seq (reg [op 3 (call (.func 558) #[(.tmp 1)]) 1,
  op 4 (.unOp .not 0 (.global 3))])
(.cond (.tmp 4)
  (.seq (reg [op 2 (.move (.const (S [])))])
  .ret)
  .skip))
(.seq (reg [op 5 (call (.func 580) #[(.tmp 1)]) 1,
  op 2 (.move (.global 5))])
.ret))), [(2, 0)]⟩

/-- impl.DeskText -/
def fn77 : AFun := ⟨1,
(.seq (reg [op 1 (.makeChan 5 (.tmp 0)),
  op 2 (.move (.const (S [])))])
(.seq (.seq (reg [op 3 (.lookup 6 (.tmp 1) (.tmp 1) false) 1,
  op 4 (call (.func 138) #[(.global 3)]) 1,
  op 5 (.unOp .not 0 (.global 4))])
(.cond (.tmp 5)
  (.seq (reg [op 2 (.move (.const (S [])))])
  .ret)
  .skip))
(.seq (reg [op 6 (.lookup 6 (.tmp 1) (.tmp 1) false) 1,
  op 7 (call (.func 157) #[(.global 6)]) 1,
  op 2 (.move (.global 7))])
.ret))), [(2, 0)]⟩

/-- spec.SquashJournal -/
def fn421 : AFun := ⟨1,
(.seq (reg [op 1 (.box 5 (.tmp 0)),
  op 2 (.move (.const (.agg #[(I 0), (I 0), (sl 0 0 0 0), (sl 0 0 0 0), (sl 0 0 0 0)]))),
  op 3 (.move (.const (I 0)))])
(.seq (.seq (reg [op 7 (call (.func 558) #[(.tmp 1)]) 1,
  op 8 (.unOp .not 0 (.global 7))])
(.cond (.tmp 8)
  (.seq (reg [op 9 (.build 0 #[(0, (.const (.agg #[(I 0), (I 0), (sl 0 0 0 0), (sl 0 0 0 0), (sl 0 0 0 0)])))]) 1,
    op 2 (.insert 5 (.tmp 2) (.tmp 2) (.global 9)),
    op 3 (.move (.const (I 1)))])
  .ret)
  .skip))
(.seq (reg [op 10 (.fieldAddr 0 (.tmp 1) 0) 1,
  op 11 (call (.func 453) #[(.global 10)]) 1,
  op 12 (.build 0 #[(0, (.const (.agg #[(I 0), (I 0), (sl 0 0 0 0), (sl 0 0 0 0), (sl 0 0 0 0)]))), (3, (.global 11))]) 1,
  op 4 (.move (.const (.agg #[(I 0), (I 0), (sl 0 0 0 0), (sl 0 0 0 0), (sl 0 0 0 0)]))),
  op 4 (.insert 5 (.tmp 4) (.tmp 4) (.global 12))])
(.seq (reg [op 13 (call (.func 561) #[(.tmp 1)]) 1,
  op 5 (.move (.const (.agg #[(I 0), (I 0), (sl 0 0 0 0)]))),
  op 5 (.insert 3 (.tmp 5) (.tmp 5) (.global 13))])
(.seq (.seq (reg [op 6 (.move (.const (I 0)))])
(.block 0
  (.loop
    (.seq (.seq (reg [op 14 (.move (.tmp 6)) 1,
      op 15 (.fieldAddr 2 (.tmp 5) 1) 1,
      op 16 (.lookup 0 (.tmp 5) (.global 15) false) 1,
      op 17 (bi .len #[(.global 16)] 1) 1,
      op 18 (.binOp .lss 0 (.global 14) (.global 17) 0)])
    (.cond (.tmp 18)
      .skip
      (.exit 0)))
    (.seq (.block 1
      (.seq (reg [op 21 (.fieldAddr 2 (.tmp 5) 1) 1,
        op 22 (.lookup 0 (.tmp 5) (.global 21) false) 1,
        op 23 (.move (.tmp 6)) 1,
        op 24 (.indexAddr 3 (.global 22) (.global 23)) 1,
        op 25 (.load 0 (.global 24)) 1,
        op 26 (.fieldAddr 0 (.tmp 1) 0) 1,
        op 27 (.fieldAddr 2 (.global 26) 0) 1,
        op 28 (.load 0 (.global 27)) 1,
        op 29 (.move (.tmp 6)) 1,
        op 30 (.indexAddr 3 (.global 28) (.global 29)) 1,
        op 31 (.load 0 (.global 30)) 1,
        op 32 (.binOp .neq 0 (.global 25) (.global 31) 0)])
      (.cond (.tmp 32)
        (reg [op 33 (.fieldAddr 3 (.tmp 4) 1) 1,
          op 34 (.lookup 0 (.tmp 4) (.global 33) false) 1,
          op 35 (.move (.tmp 6)) 1,
          op 36 (.fieldAddr 2 (.tmp 5) 1) 1,
          op 37 (.lookup 0 (.tmp 5) (.global 36) false) 1,
          op 38 (.move (.tmp 6)) 1,
          op 39 (.indexAddr 3 (.global 37) (.global 38)) 1,
          op 40 (.load 0 (.global 39)) 1,
          op 41 (.fieldAddr 0 (.tmp 1) 0) 1,
          op 42 (.fieldAddr 2 (.global 41) 0) 1,
          op 43 (.load 0 (.global 42)) 1,
          op 44 (.move (.tmp 6)) 1,
          op 45 (.indexAddr 3 (.global 43) (.global 44)) 1,
          op 46 (.load 0 (.global 45)) 1,
          op 47 (.build 0 #[(0, (.const (.agg #[(I 0), (I 0), (I 0)]))), (1, (.global 35)), (1001, (.global 40)), (2001, (.global 46))]) 1,
          op 48 (.buildSlice 3 1 #[(0, (.const (.agg #[(I 0), (I 0), (I 0)]))), (3, (.global 47))]) 1,
          op 49 (bi .append #[(.global 34), (.global 48)] 3) 1,
          op 50 (.fieldAddr 3 (.tmp 4) 1) 1,
          op 4 (.insert 1 (.tmp 4) (.global 50) (.global 49))])
        .skip)))
    (reg [op 19 (.move (.tmp 6)) 1,
      op 20 (.binOp .add 0 (.global 19) (.const (I 1)) 0) 1,
      op 6 (.move (.global 20))]))))))
(.seq (reg [op 51 (.lookup 6 (.tmp 4) (.tmp 4) false) 1,
  op 2 (.insert 5 (.tmp 2) (.tmp 2) (.global 51)),
  op 3 (.move (.const (I 0)))])
.ret)))))), [(2, 1000006), (3, 0)]⟩

/-- impl.SquashJournal -/
def fn131 : AFun := ⟨1,
(.seq (reg [op 1 (.makeChan 5 (.tmp 0)),
  op 2 (.move (.const (.agg #[(I 0), (I 0), (sl 0 0 0 0), (sl 0 0 0 0), (sl 0 0 0 0)]))),
  op 3 (.move (.const (I 0)))])
(.seq (.seq (reg [op 8 (.lookup 6 (.tmp 1) (.tmp 1) false) 1,
  op 9 (call (.func 138) #[(.global 8)]) 1,
  op 10 (.unOp .not 0 (.global 9))])
(.cond (.tmp 10)
  (.seq (reg [op 11 (.build 0 #[(0, (.const (.agg #[(I 0), (I 0), (sl 0 0 0 0), (sl 0 0 0 0), (sl 0 0 0 0)])))]) 1,
    op 2 (.insert 5 (.tmp 2) (.tmp 2) (.global 11)),
    op 3 (.move (.const (I 1)))])
  .ret)
  .skip))
(.seq (reg [op 12 (.fieldAddr 0 (.tmp 1) 1) 1,
  op 13 (.lookup 4 (.tmp 1) (.global 12) false) 1,
  op 14 (call (.func 150) #[(.global 13)]) 1,
  op 15 (.build 0 #[(0, (.const (.agg #[(I 0), (I 0), (sl 0 0 0 0), (sl 0 0 0 0), (sl 0 0 0 0)]))), (3, (.global 14))]) 1,
  op 4 (.move (.const (.agg #[(I 0), (I 0), (sl 0 0 0 0), (sl 0 0 0 0), (sl 0 0 0 0)]))),
  op 4 (.insert 5 (.tmp 4) (.tmp 4) (.global 15))])
(.seq (.seq (reg [op 16 (.lookup 6 (.tmp 1) (.tmp 1) false) 1,
  op 17 (call (.func 22) #[(.global 16)]) 1,
  op 18 (.field 0 (.global 17) 2),
  op 19 (bi .len #[(.tmp 18)] 1),
  op 20 (.move (.const (I 0)))])
(.block 0
  (.loop
    (.seq (reg [op 21 (.binOp .lss 0 (.tmp 20) (.tmp 19) 0)])
    (.seq (.cond (.tmp 21)
      .skip
      (.exit 0))
    (.seq (.block 1
      (.seq (reg [op 22 (.move (.tmp 20)) 1,
        op 23 (.indexAddr 3 (.tmp 18) (.tmp 20)) 1,
        op 24 (.load 0 (.global 23)) 1,
        op 5 (.move (.global 22)),
        op 6 (.move (.global 24))])
      (.seq (reg [op 25 (.fieldAddr 0 (.tmp 4) 1) 1,
        op 26 (.fieldAddr 2 (.global 25) 1) 1,
        op 27 (.lookup 0 (.tmp 4) (.global 26) false) 1,
        op 28 (.move (.tmp 5)) 1,
        op 29 (.indexAddr 3 (.global 27) (.global 28)) 1,
        op 30 (.load 0 (.global 29)) 1,
        op 7 (.move (.global 30))])
      (.seq (reg [op 31 (.move (.tmp 7)) 1,
        op 32 (.move (.tmp 6)) 1,
        op 33 (.binOp .neq 0 (.global 31) (.global 32) 0)])
      (.cond (.tmp 33)
        (reg [op 34 (.fieldAddr 3 (.tmp 4) 1) 1,
          op 35 (.lookup 0 (.tmp 4) (.global 34) false) 1,
          op 36 (.move (.tmp 5)) 1,
          op 37 (.move (.tmp 6)) 1,
          op 38 (.move (.tmp 7)) 1,
          op 39 (.build 0 #[(0, (.const (.agg #[(I 0), (I 0), (I 0)]))), (1, (.global 36)), (1001, (.global 37)), (2001, (.global 38))]) 1,
          op 40 (.buildSlice 3 1 #[(0, (.const (.agg #[(I 0), (I 0), (I 0)]))), (3, (.global 39))]) 1,
          op 41 (bi .append #[(.global 35), (.global 40)] 3) 1,
          op 42 (.fieldAddr 3 (.tmp 4) 1) 1,
          op 4 (.insert 1 (.tmp 4) (.global 42) (.global 41))])
        .skip)))))
    (reg [op 43 (.binOp .add 0 (.tmp 20) (.const (I 1)) 0) 1,
      op 20 (.move (.global 43))])))))))
(.seq (reg [op 44 (.lookup 6 (.tmp 4) (.tmp 4) false) 1,
  op 2 (.insert 5 (.tmp 2) (.tmp 2) (.global 44)),
  op 3 (.move (.const (I 0)))])
.ret))))), [(2, 1000006), (3, 0)]⟩

/-- spec.DoStep -/
def fn348 : AFun := ⟨3,
(.seq (reg [op 3 (.box 5 (.tmp 0)),
  op 6 (.move (.const (.agg #[(I 0), (I 0), (sl 0 0 0 0), (sl 0 0 0 0), (sl 0 0 0 0)]))),
  op 7 (.move (.const (I 0)))])
(.seq (.seq (reg [op 10 (call (.func 558) #[(.tmp 3)]) 1,
  op 11 (.unOp .not 0 (.global 10))])
(.cond (.tmp 11)
  (.seq (reg [op 12 (.build 0 #[(0, (.const (.agg #[(I 0), (I 0), (sl 0 0 0 0), (sl 0 0 0 0), (sl 0 0 0 0)])))]) 1,
    op 6 (.insert 5 (.tmp 6) (.tmp 6) (.global 12)),
    op 7 (.move (.const (I 1)))])
  .ret)
  .skip))
(.seq (reg [op 13 (call (.func 559) #[(.tmp 3)]) 1,
  op 8 (.box 5 (.const (.agg #[(I 0), (I 0), (sl 0 0 0 0), (sl 0 0 0 0), (sl 0 0 0 0)]))),
  opn (.store 5 (.tmp 8) (.global 13))])
(.seq (reg [op 14 (.move (.tmp 1)) 1,
  op 15 (.move (.tmp 2)) 1,
  op 16 (call (.func 556) #[(.tmp 8), (.global 14), (.global 15)]) 1,
  op 9 (.move (.global 16))])
(.seq (.seq (reg [op 17 (.move (.tmp 9)) 1,
  op 18 (.binOp .neq 0 (.global 17) (.const (I 0)) 0)])
(.cond (.tmp 18)
  (.seq (reg [op 19 (.build 0 #[(0, (.const (.agg #[(I 0), (I 0), (sl 0 0 0 0), (sl 0 0 0 0), (sl 0 0 0 0)])))]) 1,
    op 20 (.move (.tmp 9)) 1,
    op 6 (.insert 5 (.tmp 6) (.tmp 6) (.global 19)),
    op 7 (.move (.global 20))])
  .ret)
  .skip))
(.seq (reg [op 21 (.load 6 (.tmp 8)) 1,
  op 6 (.insert 5 (.tmp 6) (.tmp 6) (.global 21)),
  op 7 (.move (.const (I 0)))])
.ret)))))), [(6, 1000006), (7, 0)]⟩

/-- impl.DoStep -/
def fn82 : AFun := ⟨3,
(.seq (reg [op 3 (.makeChan 5 (.tmp 0)),
  op 6 (.move (.const (.agg #[(I 0), (I 0), (sl 0 0 0 0), (sl 0 0 0 0), (sl 0 0 0 0)]))),
  op 7 (.move (.const (I 0)))])
(.seq (.block 0
  (.seq (reg [op 10 (.lookup 6 (.tmp 3) (.tmp 3) false) 1,
    op 11 (call (.func 138) #[(.global 10)]) 1,
    op 12 (.unOp .not 0 (.global 11)) 1,
    op 9 (.move (.global 12))])
  (.cond (.tmp 9)
    (.seq (reg [op 13 (.build 0 #[(0, (.const (.agg #[(I 0), (I 0), (sl 0 0 0 0), (sl 0 0 0 0), (sl 0 0 0 0)])))]) 1,
      op 6 (.insert 5 (.tmp 6) (.tmp 6) (.global 13)),
      op 7 (.move (.const (I 1)))])
    .ret)
    (.seq (reg [op 15 (.move (.tmp 1)) 1,
      op 16 (.fieldAddr 0 (.tmp 3) 1) 1,
      op 17 (.fieldAddr 2 (.global 16) 1) 1,
      op 18 (.lookup 0 (.tmp 3) (.global 17) false) 1,
      op 19 (bi .len #[(.global 18)] 1) 1,
      op 20 (call (.func 163) #[(.global 15), (.global 19)]) 1,
      op 21 (.unOp .not 0 (.global 20)) 1,
      op 22 (.move (.global 21)) 1,
      op 23 (.move (.tmp 2)) 1 (some (45, false)),
      op 24 (call (.func 196) #[(.global 23)]) 1 (some (45, false)),
      op 25 (.unOp .not 0 (.global 24)) 1 (some (45, false)),
      op 26 (.pick (.global 22) (.const (B true)) (.global 25)) 1,
      op 14 (.move (.global 26))])
    (.cond (.tmp 14)
      (.seq (reg [op 27 (.build 0 #[(0, (.const (.agg #[(I 0), (I 0), (sl 0 0 0 0), (sl 0 0 0 0), (sl 0 0 0 0)])))]) 1,
        op 6 (.insert 5 (.tmp 6) (.tmp 6) (.global 27)),
        op 7 (.move (.const (I 2)))])
      .ret)
      (.seq (reg [op 29 (.fieldAddr 0 (.tmp 3) 1) 1,
        op 30 (.fieldAddr 2 (.global 29) 1) 1,
        op 31 (.lookup 0 (.tmp 3) (.global 30) false) 1,
        op 32 (.move (.tmp 1)) 1,
        op 33 (.indexAddr 3 (.global 31) (.global 32)) 1,
        op 34 (.load 0 (.global 33)) 1,
        op 35 (.move (.tmp 2)) 1,
        op 36 (.binOp .eql 0 (.global 34) (.global 35) 0) 1,
        op 28 (.move (.global 36))])
      (.cond (.tmp 28)
        (.seq (reg [op 37 (.build 0 #[(0, (.const (.agg #[(I 0), (I 0), (sl 0 0 0 0), (sl 0 0 0 0), (sl 0 0 0 0)])))]) 1,
          op 6 (.insert 5 (.tmp 6) (.tmp 6) (.global 37)),
          op 7 (.move (.const (I 6)))])
        .ret)
        (.seq (reg [op 39 (.fieldAddr 3 (.tmp 3) 1) 1,
          op 40 (.lookup 0 (.tmp 3) (.global 39) false) 1,
          op 41 (bi .len #[(.global 40)] 1) 1,
          op 42 (.binOp .eql 0 (.global 41) (.const (I 50)) 0) 1,
          op 38 (.move (.global 42))])
        (.cond (.tmp 38)
          (.seq (reg [op 43 (.build 0 #[(0, (.const (.agg #[(I 0), (I 0), (sl 0 0 0 0), (sl 0 0 0 0), (sl 0 0 0 0)])))]) 1,
            op 6 (.insert 5 (.tmp 6) (.tmp 6) (.global 43)),
            op 7 (.move (.const (I 5)))])
          .ret)
          .skip)))))))))
(.seq (reg [op 44 (.lookup 6 (.tmp 3) (.tmp 3) false) 1,
  op 45 (call (.func 148) #[(.global 44)]) 1,
  op 8 (.move (.const (.agg #[(I 0), (I 0), (sl 0 0 0 0), (sl 0 0 0 0), (sl 0 0 0 0)]))),
  op 8 (.insert 5 (.tmp 8) (.tmp 8) (.global 45))])
(.seq (reg [op 46 (.fieldAddr 3 (.tmp 8) 1) 1,
  op 47 (.lookup 0 (.tmp 8) (.global 46) false) 1,
  op 48 (.move (.tmp 1)) 1,
  op 49 (.fieldAddr 0 (.tmp 8) 1) 1,
  op 50 (.fieldAddr 2 (.global 49) 1) 1,
  op 51 (.lookup 0 (.tmp 8) (.global 50) false) 1,
  op 52 (.move (.tmp 1)) 1,
  op 53 (.indexAddr 3 (.global 51) (.global 52)) 1,
  op 54 (.load 0 (.global 53)) 1,
  op 55 (.move (.tmp 2)) 1,
  op 56 (.build 0 #[(0, (.const (.agg #[(I 0), (I 0), (I 0)]))), (1, (.global 48)), (1001, (.global 54)), (2001, (.global 55))]) 1,
  op 57 (.buildSlice 3 1 #[(0, (.const (.agg #[(I 0), (I 0), (I 0)]))), (3, (.global 56))]) 1,
  op 58 (bi .append #[(.global 47), (.global 57)] 3) 1,
  op 59 (.fieldAddr 3 (.tmp 8) 1) 1,
  op 8 (.insert 1 (.tmp 8) (.global 59) (.global 58))])
(.seq (reg [op 60 (.fieldAddr 0 (.tmp 8) 1) 1,
  op 61 (.fieldAddr 2 (.global 60) 1) 1,
  op 62 (.lookup 0 (.tmp 8) (.global 61) false) 1,
  op 63 (.move (.tmp 1)) 1,
  op 64 (.move (.tmp 2)) 1,
  op 65 (.indexAddr 3 (.global 62) (.global 63)) 1,
  opn (.store 1 (.global 65) (.global 64))])
(.seq (reg [op 66 (.fieldAddr 4 (.tmp 8) 1) 1,
  op 8 (.insert 1 (.tmp 8) (.global 66) (.const (sl 0 0 0 0)))])
(.seq (reg [op 67 (.lookup 6 (.tmp 8) (.tmp 8) false) 1,
  op 6 (.insert 5 (.tmp 6) (.tmp 6) (.global 67)),
  op 7 (.move (.const (I 0)))])
.ret))))))), [(6, 1000006), (7, 0)]⟩

/-- spec.RedoStep -/
def fn414 : AFun := ⟨1,
(.seq (reg [op 1 (.box 5 (.tmp 0)),
  op 2 (.move (.const (.agg #[(I 0), (I 0), (sl 0 0 0 0), (sl 0 0 0 0), (sl 0 0 0 0)]))),
  op 3 (.move (.const (I 0)))])
(.seq (.seq (reg [op 5 (call (.func 558) #[(.tmp 1)]) 1,
  op 6 (.unOp .not 0 (.global 5))])
(.cond (.tmp 6)
  (.seq (reg [op 7 (.build 0 #[(0, (.const (.agg #[(I 0), (I 0), (sl 0 0 0 0), (sl 0 0 0 0), (sl 0 0 0 0)])))]) 1,
    op 2 (.insert 5 (.tmp 2) (.tmp 2) (.global 7)),
    op 3 (.move (.const (I 1)))])
  .ret)
  .skip))
(.seq (.seq (reg [op 8 (.fieldAddr 4 (.tmp 1) 0) 1,
  op 9 (.load 0 (.global 8)) 1,
  op 10 (bi .len #[(.global 9)] 1) 1,
  op 11 (.binOp .eql 0 (.global 10) (.const (I 0)) 0)])
(.cond (.tmp 11)
  (.seq (reg [op 12 (.build 0 #[(0, (.const (.agg #[(I 0), (I 0), (sl 0 0 0 0), (sl 0 0 0 0), (sl 0 0 0 0)])))]) 1,
    op 2 (.insert 5 (.tmp 2) (.tmp 2) (.global 12)),
    op 3 (.move (.const (I 6)))])
  .ret)
  .skip))
(.seq (reg [op 13 (call (.func 559) #[(.tmp 1)]) 1,
  op 4 (.box 5 (.const (.agg #[(I 0), (I 0), (sl 0 0 0 0), (sl 0 0 0 0), (sl 0 0 0 0)]))),
  opn (.store 5 (.tmp 4) (.global 13))])
(.seq (reg [op 14 (call (.func 560) #[(.tmp 4)]) 1])
(.seq (reg [op 15 (.load 6 (.tmp 4)) 1,
  op 2 (.insert 5 (.tmp 2) (.tmp 2) (.global 15)),
  op 3 (.move (.const (I 0)))])
.ret)))))), [(2, 1000006), (3, 0)]⟩

/-- impl.RedoStep -/
def fn123 : AFun := ⟨1,
(.seq (reg [op 1 (.makeChan 5 (.tmp 0)),
  op 2 (.move (.const (.agg #[(I 0), (I 0), (sl 0 0 0 0), (sl 0 0 0 0), (sl 0 0 0 0)]))),
  op 3 (.move (.const (I 0)))])
(.seq (.seq (reg [op 5 (.lookup 6 (.tmp 1) (.tmp 1) false) 1,
  op 6 (call (.func 138) #[(.global 5)]) 1,
  op 7 (.unOp .not 0 (.global 6))])
(.cond (.tmp 7)
  (.seq (reg [op 8 (.build 0 #[(0, (.const (.agg #[(I 0), (I 0), (sl 0 0 0 0), (sl 0 0 0 0), (sl 0 0 0 0)])))]) 1,
    op 2 (.insert 5 (.tmp 2) (.tmp 2) (.global 8)),
    op 3 (.move (.const (I 1)))])
  .ret)
  .skip))
(.seq (.seq (reg [op 9 (.fieldAddr 4 (.tmp 1) 1) 1,
  op 10 (.lookup 0 (.tmp 1) (.global 9) false) 1,
  op 11 (bi .len #[(.global 10)] 1) 1,
  op 12 (.binOp .eql 0 (.global 11) (.const (I 0)) 0)])
(.cond (.tmp 12)
  (.seq (reg [op 13 (.build 0 #[(0, (.const (.agg #[(I 0), (I 0), (sl 0 0 0 0), (sl 0 0 0 0), (sl 0 0 0 0)])))]) 1,
    op 2 (.insert 5 (.tmp 2) (.tmp 2) (.global 13)),
    op 3 (.move (.const (I 6)))])
  .ret)
  .skip))
(.seq (reg [op 14 (.lookup 6 (.tmp 1) (.tmp 1) false) 1,
  op 15 (call (.func 148) #[(.global 14)]) 1,
  op 4 (.box 5 (.const (.agg #[(I 0), (I 0), (sl 0 0 0 0), (sl 0 0 0 0), (sl 0 0 0 0)]))),
  opn (.store 5 (.tmp 4) (.global 15))])
(.seq (reg [op 16 (call (.func 1) #[(.tmp 4)]) 1])
(.seq (reg [op 17 (.load 6 (.tmp 4)) 1,
  op 2 (.insert 5 (.tmp 2) (.tmp 2) (.global 17)),
  op 3 (.move (.const (I 0)))])
.ret)))))), [(2, 1000006), (3, 0)]⟩

/-- spec.UndoStep -/
def fn424 : AFun := ⟨1,
(.seq (reg [op 1 (.box 5 (.tmp 0)),
  op 2 (.move (.const (.agg #[(I 0), (I 0), (sl 0 0 0 0), (sl 0 0 0 0), (sl 0 0 0 0)]))),
  op 3 (.move (.const (I 0)))])
(.seq (.seq (reg [op 5 (call (.func 558) #[(.tmp 1)]) 1,
  op 6 (.unOp .not 0 (.global 5))])
(.cond (.tmp 6)
  (.seq (reg [op 7 (.build 0 #[(0, (.const (.agg #[(I 0), (I 0), (sl 0 0 0 0), (sl 0 0 0 0), (sl 0 0 0 0)])))]) 1,
    op 2 (.insert 5 (.tmp 2) (.tmp 2) (.global 7)),
    op 3 (.move (.const (I 1)))])
  .ret)
  .skip))
(.seq (.seq (reg [op 8 (.fieldAddr 3 (.tmp 1) 0) 1,
  op 9 (.load 0 (.global 8)) 1,
  op 10 (bi .len #[(.global 9)] 1) 1,
  op 11 (.binOp .eql 0 (.global 10) (.const (I 0)) 0)])
(.cond (.tmp 11)
  (.seq (reg [op 12 (.build 0 #[(0, (.const (.agg #[(I 0), (I 0), (sl 0 0 0 0), (sl 0 0 0 0), (sl 0 0 0 0)])))]) 1,
    op 2 (.insert 5 (.tmp 2) (.tmp 2) (.global 12)),
    op 3 (.move (.const (I 6)))])
  .ret)
  .skip))
(.seq (reg [op 13 (call (.func 559) #[(.tmp 1)]) 1,
  op 4 (.box 5 (.const (.agg #[(I 0), (I 0), (sl 0 0 0 0), (sl 0 0 0 0), (sl 0 0 0 0)]))),
  opn (.store 5 (.tmp 4) (.global 13))])
(.seq (reg [op 14 (call (.func 564) #[(.tmp 4)]) 1])
(.seq (reg [op 15 (.load 6 (.tmp 4)) 1,
  op 2 (.insert 5 (.tmp 2) (.tmp 2) (.global 15)),
  op 3 (.move (.const (I 0)))])
.ret)))))), [(2, 1000006), (3, 0)]⟩

/-- impl.UndoStep -/
def fn134 : AFun := ⟨1,
(.seq (reg [op 1 (.makeChan 5 (.tmp 0)),
  op 2 (.move (.const (.agg #[(I 0), (I 0), (sl 0 0 0 0), (sl 0 0 0 0), (sl 0 0 0 0)]))),
  op 3 (.move (.const (I 0)))])
(.seq (.seq (reg [op 5 (.lookup 6 (.tmp 1) (.tmp 1) false) 1,
  op 6 (call (.func 138) #[(.global 5)]) 1,
  op 7 (.unOp .not 0 (.global 6))])
(.cond (.tmp 7)
  (.seq (reg [op 8 (.build 0 #[(0, (.const (.agg #[(I 0), (I 0), (sl 0 0 0 0), (sl 0 0 0 0), (sl 0 0 0 0)])))]) 1,
    op 2 (.insert 5 (.tmp 2) (.tmp 2) (.global 8)),
    op 3 (.move (.const (I 1)))])
  .ret)
  .skip))
(.seq (.seq (reg [op 9 (.fieldAddr 3 (.tmp 1) 1) 1,
  op 10 (.lookup 0 (.tmp 1) (.global 9) false) 1,
  op 11 (bi .len #[(.global 10)] 1) 1,
  op 12 (.binOp .eql 0 (.global 11) (.const (I 0)) 0)])
(.cond (.tmp 12)
  (.seq (reg [op 13 (.build 0 #[(0, (.const (.agg #[(I 0), (I 0), (sl 0 0 0 0), (sl 0 0 0 0), (sl 0 0 0 0)])))]) 1,
    op 2 (.insert 5 (.tmp 2) (.tmp 2) (.global 13)),
    op 3 (.move (.const (I 6)))])
  .ret)
  .skip))
(.seq (reg [op 14 (.lookup 6 (.tmp 1) (.tmp 1) false) 1,
  op 15 (call (.func 148) #[(.global 14)]) 1,
  op 4 (.box 5 (.const (.agg #[(I 0), (I 0), (sl 0 0 0 0), (sl 0 0 0 0), (sl 0 0 0 0)]))),
  opn (.store 5 (.tmp 4) (.global 15))])
(.seq (reg [op 16 (call (.func 2) #[(.tmp 4)]) 1])
(.seq (reg [op 17 (.load 6 (.tmp 4)) 1,
  op 2 (.insert 5 (.tmp 2) (.tmp 2) (.global 17)),
  op 3 (.move (.const (I 0)))])
.ret)))))), [(2, 1000006), (3, 0)]⟩

/-- spec.GoToStep -/
def fn379 : AFun := ⟨2,
(.seq (reg [op 2 (.box 5 (.tmp 0)),
  op 4 (.move (.const (.agg #[(I 0), (I 0), (sl 0 0 0 0), (sl 0 0 0 0), (sl 0 0 0 0)]))),
  op 5 (.move (.const (I 0)))])
(.seq (.seq (reg [op 7 (call (.func 558) #[(.tmp 2)]) 1,
  op 8 (.unOp .not 0 (.global 7))])
(.cond (.tmp 8)
  (.seq (reg [op 9 (.build 0 #[(0, (.const (.agg #[(I 0), (I 0), (sl 0 0 0 0), (sl 0 0 0 0), (sl 0 0 0 0)])))]) 1,
    op 4 (.insert 5 (.tmp 4) (.tmp 4) (.global 9)),
    op 5 (.move (.const (I 1)))])
  .ret)
  .skip))
(.seq (.seq (reg [op 10 (.move (.tmp 1)) 1,
  op 11 (.fieldAddr 3 (.tmp 2) 0) 1,
  op 12 (.load 0 (.global 11)) 1,
  op 13 (bi .len #[(.global 12)] 1) 1,
  op 14 (.fieldAddr 4 (.tmp 2) 0) 1,
  op 15 (.load 0 (.global 14)) 1,
  op 16 (bi .len #[(.global 15)] 1) 1,
  op 17 (.binOp .add 0 (.global 13) (.global 16) 0) 1,
  op 18 (call (.func 432) #[(.global 10), (.const (I 0)), (.global 17)]) 1,
  op 19 (.unOp .not 0 (.global 18))])
(.cond (.tmp 19)
  (.seq (reg [op 20 (.build 0 #[(0, (.const (.agg #[(I 0), (I 0), (sl 0 0 0 0), (sl 0 0 0 0), (sl 0 0 0 0)])))]) 1,
    op 4 (.insert 5 (.tmp 4) (.tmp 4) (.global 20)),
    op 5 (.move (.const (I 2)))])
  .ret)
  .skip))
(.seq (reg [op 21 (call (.func 559) #[(.tmp 2)]) 1,
  op 6 (.box 5 (.const (.agg #[(I 0), (I 0), (sl 0 0 0 0), (sl 0 0 0 0), (sl 0 0 0 0)]))),
  opn (.store 5 (.tmp 6) (.global 21))])
(.seq (.block 0
  (.loop
    (.seq (.seq (reg [op 22 (.fieldAddr 3 (.tmp 6) 0) 1,
      op 23 (.load 0 (.global 22)) 1,
      op 24 (bi .len #[(.global 23)] 1) 1,
      op 25 (.move (.tmp 1)) 1,
      op 26 (.binOp .gtr 0 (.global 24) (.global 25) 0)])
    (.cond (.tmp 26)
      .skip
      (.exit 0)))
    (.block 1
      (reg [op 27 (call (.func 564) #[(.tmp 6)]) 1])))))
(.seq (.block 2
  (.loop
    (.seq (.seq (reg [op 28 (.fieldAddr 3 (.tmp 6) 0) 1,
      op 29 (.load 0 (.global 28)) 1,
      op 30 (bi .len #[(.global 29)] 1) 1,
      op 31 (.move (.tmp 1)) 1,
      op 32 (.binOp .lss 0 (.global 30) (.global 31) 0)])
    (.cond (.tmp 32)
      .skip
      (.exit 2)))
    (.block 3
      (reg [op 33 (call (.func 560) #[(.tmp 6)]) 1])))))
(.seq (reg [op 34 (.load 6 (.tmp 6)) 1,
  op 4 (.insert 5 (.tmp 4) (.tmp 4) (.global 34)),
  op 5 (.move (.const (I 0)))])
.ret))))))), [(4, 1000006), (5, 0)]⟩

/-- impl.GoToStep -/
def fn86 : AFun := ⟨2,
(.seq (reg [op 2 (.makeChan 5 (.tmp 0)),
  op 4 (.move (.const (.agg #[(I 0), (I 0), (sl 0 0 0 0), (sl 0 0 0 0), (sl 0 0 0 0)]))),
  op 5 (.move (.const (I 0)))])
(.seq (.seq (reg [op 7 (.lookup 6 (.tmp 2) (.tmp 2) false) 1,
  op 8 (call (.func 138) #[(.global 7)]) 1,
  op 9 (.unOp .not 0 (.global 8))])
(.cond (.tmp 9)
  (.seq (reg [op 10 (.build 0 #[(0, (.const (.agg #[(I 0), (I 0), (sl 0 0 0 0), (sl 0 0 0 0), (sl 0 0 0 0)])))]) 1,
    op 4 (.insert 5 (.tmp 4) (.tmp 4) (.global 10)),
    op 5 (.move (.const (I 1)))])
  .ret)
  .skip))
(.seq (.seq (reg [op 11 (.move (.tmp 1)) 1,
  op 12 (.fieldAddr 3 (.tmp 2) 1) 1,
  op 13 (.lookup 0 (.tmp 2) (.global 12) false) 1,
  op 14 (bi .len #[(.global 13)] 1) 1,
  op 15 (.fieldAddr 4 (.tmp 2) 1) 1,
  op 16 (.lookup 0 (.tmp 2) (.global 15) false) 1,
  op 17 (bi .len #[(.global 16)] 1) 1,
  op 18 (.binOp .add 0 (.global 14) (.global 17) 0) 1,
  op 19 (call (.func 164) #[(.global 11), (.const (I 0)), (.global 18)]) 1,
  op 20 (.unOp .not 0 (.global 19))])
(.cond (.tmp 20)
  (.seq (reg [op 21 (.build 0 #[(0, (.const (.agg #[(I 0), (I 0), (sl 0 0 0 0), (sl 0 0 0 0), (sl 0 0 0 0)])))]) 1,
    op 4 (.insert 5 (.tmp 4) (.tmp 4) (.global 21)),
    op 5 (.move (.const (I 2)))])
  .ret)
  .skip))
(.seq (reg [op 22 (.lookup 6 (.tmp 2) (.tmp 2) false) 1,
  op 23 (call (.func 148) #[(.global 22)]) 1,
  op 6 (.box 5 (.const (.agg #[(I 0), (I 0), (sl 0 0 0 0), (sl 0 0 0 0), (sl 0 0 0 0)]))),
  opn (.store 5 (.tmp 6) (.global 23))])
(.seq (.block 0
  (.loop
    (.seq (.seq (reg [op 24 (.fieldAddr 3 (.tmp 6) 0) 1,
      op 25 (.load 0 (.global 24)) 1,
      op 26 (bi .len #[(.global 25)] 1) 1,
      op 27 (.move (.tmp 1)) 1,
      op 28 (.binOp .gtr 0 (.global 26) (.global 27) 0)])
    (.cond (.tmp 28)
      .skip
      (.exit 0)))
    (.block 1
      (reg [op 29 (call (.func 2) #[(.tmp 6)]) 1])))))
(.seq (.block 2
  (.loop
    (.seq (.seq (reg [op 30 (.fieldAddr 3 (.tmp 6) 0) 1,
      op 31 (.load 0 (.global 30)) 1,
      op 32 (bi .len #[(.global 31)] 1) 1,
      op 33 (.move (.tmp 1)) 1,
      op 34 (.binOp .lss 0 (.global 32) (.global 33) 0)])
    (.cond (.tmp 34)
      .skip
      (.exit 2)))
    (.block 3
      (reg [op 35 (call (.func 1) #[(.tmp 6)]) 1])))))
(.seq (reg [op 36 (.load 6 (.tmp 6)) 1,
  op 4 (.insert 5 (.tmp 4) (.tmp 4) (.global 36)),
  op 5 (.move (.const (I 0)))])
.ret))))))), [(4, 1000006), (5, 0)]⟩

/-- laws.szInt64S -/
def fn290 : AFun := ⟨2,
(.seq (reg [op 4 (.move (.const (I 0)))])
(.seq (reg [op 5 (.move (.tmp 1)) 1,
  op 6 (.move (.tmp 0)) 1,
  op 7 (bi .len #[(.global 6)] 1) 1,
  op 8 (.binOp .sub 0 (.global 5) (.global 7) 0) 1,
  op 1 (.move (.global 8))])
(.seq (.seq (reg [op 9 (.move (.tmp 1)) 1,
  op 10 (.binOp .lss 0 (.global 9) (.const (I 0)) 0)])
(.cond (.tmp 10)
  (.seq (reg [op 4 (.move (.const (I (-1))))])
  .ret)
  .skip))
(.seq (reg [op 11 (.move (.tmp 1)) 1,
  op 4 (.move (.global 11))])
.ret)))), [(4, 0)]⟩

/-- spec.l02Ok -/
def fn452 : AFun := ⟨1,
(.seq (reg [op 2 (.move (.const (B false)))])
(.seq (.seq (reg [op 4 (.move (.tmp 0)) 1,
  op 5 (.nilCheck (.global 4)) 1,
  op 6 (.fieldAddr 0 (.global 5) 0) 1,
  op 7 (.load 0 (.global 6)) 1,
  op 8 (call (.func 457) #[(.global 7)]) 1,
  op 9 (.unOp .not 0 (.global 8)) 1,
  op 10 (.move (.global 9)) 1,
  op 11 (.move (.tmp 0)) 1 (some (21, false)),
  op 12 (.nilCheck (.global 11)) 1 (some (21, false)),
  op 13 (.fieldAddr 1 (.global 12) 0) 1 (some (21, false)),
  op 14 (.load 0 (.global 13)) 1 (some (21, false)),
  op 15 (call (.func 457) #[(.global 14)]) 1 (some (21, false)),
  op 16 (.unOp .not 0 (.global 15)) 1 (some (21, false)),
  op 17 (.pick (.global 10) (.const (B true)) (.global 16)) 1,
  op 18 (.move (.global 17)) 1,
  op 19 (.move (.tmp 0)) 1 (some (37, false)),
  op 20 (.nilCheck (.global 19)) 1 (some (37, false)),
  op 21 (.fieldAddr 2 (.global 20) 0) 1 (some (37, false)),
  op 22 (.load 0 (.global 21)) 1 (some (37, false)),
  op 23 (bi .len #[(.global 22)] 1) 1 (some (37, false)),
  op 24 (.move (.tmp 0)) 1 (some (37, false)),
  op 25 (.nilCheck (.global 24)) 1 (some (37, false)),
  op 26 (.fieldAddr 0 (.global 25) 0) 1 (some (37, false)),
  op 27 (.load 0 (.global 26)) 1 (some (37, false)),
  op 28 (.move (.tmp 0)) 1 (some (37, false)),
  op 29 (.nilCheck (.global 28)) 1 (some (37, false)),
  op 30 (.fieldAddr 1 (.global 29) 0) 1 (some (37, false)),
  op 31 (.load 0 (.global 30)) 1 (some (37, false)),
  op 32 (call (.func 448) #[(.global 27), (.global 31)]) 3 (some (37, false)),
  op 33 (.binOp .neq 0 (.global 23) (.global 32) 0) 1 (some (37, false)),
  op 34 (.pick (.global 18) (.const (B true)) (.global 33))])
(.cond (.tmp 34)
  (.seq (reg [op 2 (.move (.const (B false)))])
  .ret)
  .skip))
(.seq (.seq (reg [op 3 (.move (.const (I 0)))])
(.block 0
  (.loop
    (.seq (.seq (reg [op 35 (.move (.tmp 3)) 1,
      op 36 (.move (.tmp 0)) 1,
      op 37 (.nilCheck (.global 36)) 1,
      op 38 (.fieldAddr 2 (.global 37) 0) 1,
      op 39 (.load 0 (.global 38)) 1,
      op 40 (bi .len #[(.global 39)] 1) 1,
      op 41 (.binOp .lss 0 (.global 35) (.global 40) 0)])
    (.cond (.tmp 41)
      .skip
      (.exit 0)))
    (.seq (.block 1
      (.seq (reg [op 44 (.move (.tmp 0)) 1,
        op 45 (.nilCheck (.global 44)) 1,
        op 46 (.fieldAddr 2 (.global 45) 0) 1,
        op 47 (.load 0 (.global 46)) 1,
        op 48 (.move (.tmp 3)) 1,
        op 49 (.indexAddr 3 (.global 47) (.global 48)) 1,
        op 50 (.load 0 (.global 49)) 1,
        op 51 (call (.func 432) #[(.global 50), (.const (I 0)), (.const (I 2))]) 1,
        op 52 (.unOp .not 0 (.global 51))])
      (.cond (.tmp 52)
        (.seq (reg [op 2 (.move (.const (B false)))])
        .ret)
        .skip)))
    (reg [op 42 (.move (.tmp 3)) 1,
      op 43 (.binOp .add 0 (.global 42) (.const (I 1)) 0) 1,
      op 3 (.move (.global 43))]))))))
(.seq (reg [op 2 (.move (.const (B true)))])
.ret)))), [(2, 0)]⟩

/-- spec.l25In -/
def fn549 : AFun := ⟨5,
(.seq (reg [op 10 (.move (.const (B false)))])
(.seq (reg [op 11 (.move (.tmp 3)) 1,
  op 12 (.move (.tmp 0)) 1,
  op 13 (.nilCheck (.global 12)) 1,
  op 14 (.fieldAddr 0 (.global 13) 0) 1,
  op 15 (.load 0 (.global 14)) 1,
  op 16 (call (.func 432) #[(.global 11), (.const (I 1)), (.global 15)]) 1,
  op 17 (.move (.global 16)) 1,
  op 18 (.move (.tmp 4)) 1 (some (35, true)),
  op 19 (.move (.tmp 0)) 1 (some (35, true)),
  op 20 (.nilCheck (.global 19)) 1 (some (35, true)),
  op 21 (.fieldAddr 1 (.global 20) 0) 1 (some (35, true)),
  op 22 (.load 0 (.global 21)) 1 (some (35, true)),
  op 23 (call (.func 432) #[(.global 18), (.const (I 1)), (.global 22)]) 1 (some (35, true)),
  op 24 (.pick (.global 17) (.global 23) (.const (B false))) 1,
  op 25 (.move (.global 24)) 1,
  op 26 (.move (.tmp 1)) 1 (some (51, true)),
  op 27 (.move (.tmp 0)) 1 (some (51, true)),
  op 28 (.nilCheck (.global 27)) 1 (some (51, true)),
  op 29 (.fieldAddr 0 (.global 28) 0) 1 (some (51, true)),
  op 30 (.load 0 (.global 29)) 1 (some (51, true)),
  op 31 (.move (.tmp 3)) 1 (some (51, true)),
  op 32 (.binOp .sub 0 (.global 30) (.global 31) 0) 1 (some (51, true)),
  op 33 (call (.func 432) #[(.global 26), (.const (I 0)), (.global 32)]) 1 (some (51, true)),
  op 34 (.pick (.global 25) (.global 33) (.const (B false))) 1,
  op 35 (.move (.global 34)) 1,
  op 36 (.move (.tmp 2)) 1 (some (71, true)),
  op 37 (.move (.tmp 0)) 1 (some (71, true)),
  op 38 (.nilCheck (.global 37)) 1 (some (71, true)),
  op 39 (.fieldAddr 1 (.global 38) 0) 1 (some (71, true)),
  op 40 (.load 0 (.global 39)) 1 (some (71, true)),
  op 41 (.move (.tmp 4)) 1 (some (71, true)),
  op 42 (.binOp .sub 0 (.global 40) (.global 41) 0) 1 (some (71, true)),
  op 43 (call (.func 432) #[(.global 36), (.const (I 0)), (.global 42)]) 1 (some (71, true)),
  op 44 (.pick (.global 35) (.global 43) (.const (B false))) 1,
  op 10 (.move (.global 44))])
.ret)), [(10, 0)]⟩

/-- spec.l02Own -/
def fn453 : AFun := ⟨1,
(.seq (reg [op 2 (.move (.const (.agg #[(I 0), (I 0), (sl 0 0 0 0)])))])
(.seq (reg [op 3 (.move (.tmp 0)) 1,
  op 4 (.nilCheck (.global 3)) 1,
  op 5 (.fieldAddr 0 (.global 4) 0) 1,
  op 6 (.load 0 (.global 5)) 1,
  op 7 (.move (.tmp 0)) 1,
  op 8 (.nilCheck (.global 7)) 1,
  op 9 (.fieldAddr 1 (.global 8) 0) 1,
  op 10 (.load 0 (.global 9)) 1,
  op 11 (.move (.tmp 0)) 1,
  op 12 (.nilCheck (.global 11)) 1,
  op 13 (.fieldAddr 2 (.global 12) 0) 1,
  op 14 (.load 0 (.global 13)) 1,
  op 15 (call (.func 435) #[(.global 14)]) 3,
  op 16 (.build 0 #[(0, (.const (.agg #[(I 0), (I 0), (sl 0 0 0 0)]))), (1, (.global 6)), (1001, (.global 10)), (2001, (.global 15))]) 1,
  op 2 (.insert 3 (.tmp 2) (.tmp 2) (.global 16))])
.ret)), [(2, 1000004)]⟩

/-- spec.l25Paste -/
def fn551 : AFun := ⟨4,
(.seq (reg [op 8 (.move (.const (I 0)))])
(.block 0
  (.loop
    (.seq (.seq (reg [op 10 (.move (.tmp 8)) 1,
      op 11 (.move (.tmp 3)) 1,
      op 12 (.nilCheck (.global 11)) 1,
      op 13 (.fieldAddr 2 (.global 12) 0) 1,
      op 14 (.load 0 (.global 13)) 1,
      op 15 (bi .len #[(.global 14)] 1) 1,
      op 16 (.binOp .lss 0 (.global 10) (.global 15) 0)])
    (.cond (.tmp 16)
      .skip
      (.exit 0)))
    (.seq (.block 1
      (.seq (reg [op 19 (.move (.tmp 3)) 1,
        op 20 (.move (.tmp 8)) 1,
        op 21 (call (.func 454) #[(.global 19), (.global 20)]) 1,
        op 9 (.move (.const (.agg #[(I 0), (I 0)]))),
        op 9 (.insert 2 (.tmp 9) (.tmp 9) (.global 21))])
      (reg [op 22 (.move (.tmp 0)) 1,
        op 23 (.nilCheck (.global 22)) 1,
        op 24 (.fieldAddr 2 (.global 23) 0) 1,
        op 25 (.load 0 (.global 24)) 1,
        op 26 (.move (.tmp 0)) 1,
        op 27 (.fieldAddr 0 (.tmp 9) 1) 1,
        op 28 (.lookup 0 (.tmp 9) (.global 27) false) 1,
        op 29 (.move (.tmp 1)) 1,
        op 30 (.binOp .mul 0 (.const (I 2)) (.global 29) 0) 1,
        op 31 (.binOp .add 0 (.global 28) (.global 30) 0) 1,
        op 32 (.fieldAddr 1 (.tmp 9) 1) 1,
        op 33 (.lookup 0 (.tmp 9) (.global 32) false) 1,
        op 34 (.move (.tmp 2)) 1,
        op 35 (.binOp .mul 0 (.const (I 2)) (.global 34) 0) 1,
        op 36 (.binOp .add 0 (.global 33) (.global 35) 0) 1,
        op 37 (.build 0 #[(0, (.const (.agg #[(I 0), (I 0)]))), (1, (.global 31)), (1001, (.global 36))]) 1,
        op 38 (call (.func 451) #[(.global 26), (.global 37)]) 3,
        op 39 (.move (.tmp 3)) 1,
        op 40 (.nilCheck (.global 39)) 1,
        op 41 (.fieldAddr 2 (.global 40) 0) 1,
        op 42 (.load 0 (.global 41)) 1,
        op 43 (.move (.tmp 8)) 1,
        op 44 (.indexAddr 3 (.global 42) (.global 43)) 1,
        op 45 (.load 0 (.global 44)) 1,
        op 46 (.indexAddr 3 (.global 25) (.global 38)) 1,
        opn (.store 1 (.global 46) (.global 45))])))
    (reg [op 17 (.move (.tmp 8)) 1,
      op 18 (.binOp .add 0 (.global 17) (.const (I 1)) 0) 1,
      op 8 (.move (.global 18))])))))), []⟩

/-- laws.toInt64S -/
def fn297 : AFun := ⟨1,
(.seq (reg [op 2 (.move (.const (sl 0 0 0 0)))])
(.seq (reg [op 5 (.move (.tmp 0)) 1,
  op 6 (bi .len #[(.global 5)] 1) 1,
  op 7 (.mapUpdate 1 (.global 6) (.global 6) (.const (.agg #[(I 0)]))) 1,
  op 3 (.move (.global 7))])
(.seq (.seq (reg [op 4 (.move (.const (I 0)))])
(.block 0
  (.loop
    (.seq (.seq (reg [op 8 (.move (.tmp 4)) 1,
      op 9 (.move (.tmp 0)) 1,
      op 10 (bi .len #[(.global 9)] 1) 1,
      op 11 (.binOp .lss 0 (.global 8) (.global 10) 0)])
    (.cond (.tmp 11)
      .skip
      (.exit 0)))
    (.seq (.block 1
      (reg [op 14 (.move (.tmp 3)) 1,
        op 15 (.move (.tmp 4)) 1,
        op 16 (.move (.tmp 0)) 1,
        op 17 (.move (.tmp 4)) 1,
        op 18 (.indexAddr 3 (.global 16) (.global 17)) 1,
        op 19 (.load 0 (.global 18)) 1,
        op 20 (.indexAddr 3 (.global 14) (.global 15)) 1,
        opn (.store 1 (.global 20) (.global 19))]))
    (reg [op 12 (.move (.tmp 4)) 1,
      op 13 (.binOp .add 0 (.global 12) (.const (I 1)) 0) 1,
      op 4 (.move (.global 13))]))))))
(.seq (reg [op 21 (.move (.tmp 3)) 1,
  op 2 (.move (.global 21))])
.ret)))), [(2, 0)]⟩

/-- impl.ValidPanel -/
def fn140 : AFun := ⟨1,
(.seq (reg [op 1 (.makeChan 3 (.tmp 0)),
  op 2 (.move (.const (B false)))])
(.seq (.seq (reg [op 5 (.fieldAddr 0 (.tmp 1) 1) 1,
  op 6 (.lookup 0 (.tmp 1) (.global 5) false) 1,
  op 7 (.fieldAddr 1 (.tmp 1) 1) 1,
  op 8 (.lookup 0 (.tmp 1) (.global 7) false) 1,
  op 9 (call (.func 198) #[(.global 6), (.global 8)]) 1,
  op 10 (.unOp .not 0 (.global 9)) 1,
  op 11 (.move (.global 10)) 1,
  op 12 (.fieldAddr 2 (.tmp 1) 1) 1 (some (23, false)),
  op 13 (.lookup 0 (.tmp 1) (.global 12) false) 1 (some (23, false)),
  op 14 (bi .len #[(.global 13)] 1) 1 (some (23, false)),
  op 15 (.fieldAddr 0 (.tmp 1) 1) 1 (some (23, false)),
  op 16 (.lookup 0 (.tmp 1) (.global 15) false) 1 (some (23, false)),
  op 17 (.fieldAddr 1 (.tmp 1) 1) 1 (some (23, false)),
  op 18 (.lookup 0 (.tmp 1) (.global 17) false) 1 (some (23, false)),
  op 19 (call (.func 166) #[(.global 16), (.global 18)]) 1 (some (23, false)),
  op 20 (.binOp .neq 0 (.global 14) (.global 19) 0) 1 (some (23, false)),
  op 21 (.pick (.global 11) (.const (B true)) (.global 20))])
(.cond (.tmp 21)
  (.seq (reg [op 2 (.move (.const (B false)))])
  .ret)
  .skip))
(.seq (.seq (reg [op 22 (.fieldAddr 2 (.tmp 1) 1) 1,
  op 23 (.lookup 0 (.tmp 1) (.global 22) false),
  op 24 (bi .len #[(.tmp 23)] 1),
  op 25 (.move (.const (I 0)))])
(.block 0
  (.loop
    (.seq (reg [op 26 (.binOp .lss 0 (.tmp 25) (.tmp 24) 0)])
    (.seq (.cond (.tmp 26)
      .skip
      (.exit 0))
    (.seq (.block 1
      (.seq (reg [op 27 (.indexAddr 3 (.tmp 23) (.tmp 25)) 1,
        op 28 (.load 0 (.global 27)) 1,
        op 4 (.move (.global 28))])
      (.seq (reg [op 29 (.move (.tmp 4)) 1,
        op 30 (call (.func 196) #[(.global 29)]) 1,
        op 31 (.unOp .not 0 (.global 30))])
      (.cond (.tmp 31)
        (.seq (reg [op 2 (.move (.const (B false)))])
        .ret)
        .skip))))
    (reg [op 32 (.binOp .add 0 (.tmp 25) (.const (I 1)) 0) 1,
      op 25 (.move (.global 32))])))))))
(.seq (reg [op 2 (.move (.const (B true)))])
.ret)))), [(2, 0)]⟩

/-- (impl.Panel).hasPart -/
def fn33 : AFun := ⟨5,
(.seq (reg [op 5 (.makeChan 3 (.tmp 0)),
  op 10 (.move (.const (B false)))])
(.seq (reg [op 11 (.move (.tmp 3)) 1,
  op 12 (.fieldAddr 0 (.tmp 5) 1) 1,
  op 13 (.lookup 0 (.tmp 5) (.global 12) false) 1,
  op 14 (call (.func 164) #[(.global 11), (.const (I 1)), (.global 13)]) 1,
  op 15 (.move (.global 14)) 1,
  op 16 (.move (.tmp 4)) 1 (some (31, true)),
  op 17 (.fieldAddr 1 (.tmp 5) 1) 1 (some (31, true)),
  op 18 (.lookup 0 (.tmp 5) (.global 17) false) 1 (some (31, true)),
  op 19 (call (.func 164) #[(.global 16), (.const (I 1)), (.global 18)]) 1 (some (31, true)),
  op 20 (.pick (.global 15) (.global 19) (.const (B false))) 1,
  op 21 (.move (.global 20)) 1,
  op 22 (.move (.tmp 1)) 1 (some (43, true)),
  op 23 (.fieldAddr 0 (.tmp 5) 1) 1 (some (43, true)),
  op 24 (.lookup 0 (.tmp 5) (.global 23) false) 1 (some (43, true)),
  op 25 (.move (.tmp 3)) 1 (some (43, true)),
  op 26 (.binOp .sub 0 (.global 24) (.global 25) 0) 1 (some (43, true)),
  op 27 (call (.func 164) #[(.global 22), (.const (I 0)), (.global 26)]) 1 (some (43, true)),
  op 28 (.pick (.global 21) (.global 27) (.const (B false))) 1,
  op 29 (.move (.global 28)) 1,
  op 30 (.move (.tmp 2)) 1 (some (59, true)),
  op 31 (.fieldAddr 1 (.tmp 5) 1) 1 (some (59, true)),
  op 32 (.lookup 0 (.tmp 5) (.global 31) false) 1 (some (59, true)),
  op 33 (.move (.tmp 4)) 1 (some (59, true)),
  op 34 (.binOp .sub 0 (.global 32) (.global 33) 0) 1 (some (59, true)),
  op 35 (call (.func 164) #[(.global 30), (.const (I 0)), (.global 34)]) 1 (some (59, true)),
  op 36 (.pick (.global 29) (.global 35) (.const (B false))) 1,
  op 10 (.move (.global 36))])
.ret)), [(10, 0)]⟩

/-- impl.clonePanel -/
def fn150 : AFun := ⟨1,
(.seq (reg [op 1 (.makeChan 3 (.tmp 0)),
  op 2 (.move (.const (.agg #[(I 0), (I 0), (sl 0 0 0 0)])))])
(.seq (reg [op 3 (.fieldAddr 2 (.tmp 1) 1) 1,
  op 4 (.lookup 0 (.tmp 1) (.global 3) false) 1,
  op 5 (call (.func 308) #[(.global 4)]) 1,
  op 6 (.fieldAddr 2 (.tmp 1) 1) 1,
  op 1 (.insert 1 (.tmp 1) (.global 6) (.global 5))])
(.seq (reg [op 7 (.lookup 4 (.tmp 1) (.tmp 1) false) 1,
  op 2 (.insert 3 (.tmp 2) (.tmp 2) (.global 7))])
.ret))), [(2, 1000004)]⟩

/-- (impl.Panel).paste -/
def fn46 : AFun := ⟨4,
(.seq (reg [op 4 (.makeChan 3 (.tmp 0)),
  op 7 (.makeChan 3 (.tmp 3))])
(.seq (reg [op 10 (.lookup 4 (.tmp 7) (.tmp 7) false) 1,
  op 11 (call (.func 49) #[(.global 10)]),
  op 12 (bi .len #[(.tmp 11)] 1),
  op 13 (.move (.const (I 0)))])
(.block 0
  (.loop
    (.seq (reg [op 14 (.binOp .lss 0 (.tmp 13) (.tmp 12) 0)])
    (.seq (.cond (.tmp 14)
      .skip
      (.exit 0))
    (.seq (.block 1
      (.seq (reg [op 15 (.move (.tmp 13)) 1,
        op 16 (.indexAddr 5 (.tmp 11) (.tmp 13)) 1,
        op 17 (.load 3 (.global 16)) 1,
        op 9 (.move (.const (.agg #[(I 0), (I 0)]))),
        op 8 (.move (.global 15)),
        op 9 (.insert 2 (.tmp 9) (.tmp 9) (.global 17))])
      (reg [op 18 (.fieldAddr 2 (.tmp 4) 1) 1,
        op 19 (.lookup 0 (.tmp 4) (.global 18) false) 1,
        op 20 (.lookup 4 (.tmp 4) (.tmp 4) false) 1,
        op 21 (.lookup 3 (.tmp 9) (.tmp 9) false) 1,
        op 22 (.move (.tmp 1)) 1,
        op 23 (.move (.tmp 2)) 1,
        op 24 (call (.func 188) #[(.global 21), (.global 22), (.global 23)]) 3,
        op 25 (call (.func 40) #[(.global 20), (.global 24)]) 3,
        op 26 (.fieldAddr 2 (.tmp 7) 1) 1,
        op 27 (.lookup 0 (.tmp 7) (.global 26) false) 1,
        op 28 (.move (.tmp 8)) 1,
        op 29 (.indexAddr 3 (.global 27) (.global 28)) 1,
        op 30 (.load 0 (.global 29)) 1,
        op 31 (.indexAddr 3 (.global 19) (.global 25)) 1,
        opn (.store 1 (.global 31) (.global 30))])))
    (reg [op 32 (.binOp .add 0 (.tmp 13) (.const (I 1)) 0) 1,
      op 13 (.move (.global 32))])))))))), []⟩

/-- laws.eqInt64S -/
def fn259 : AFun := ⟨2,
(.seq (reg [op 4 (.move (.const (B false)))])
(.seq (.seq (reg [op 6 (.move (.tmp 0)) 1,
  op 7 (bi .len #[(.global 6)] 1) 1,
  op 8 (.move (.tmp 1)) 1,
  op 9 (bi .len #[(.global 8)] 1) 1,
  op 10 (.binOp .neq 0 (.global 7) (.global 9) 0)])
(.cond (.tmp 10)
  (.seq (reg [op 4 (.move (.const (B false)))])
  .ret)
  .skip))
(.seq (.seq (reg [op 5 (.move (.const (I 0)))])
(.block 0
  (.loop
    (.seq (.seq (reg [op 11 (.move (.tmp 5)) 1,
      op 12 (.move (.tmp 0)) 1,
      op 13 (bi .len #[(.global 12)] 1) 1,
      op 14 (.binOp .lss 0 (.global 11) (.global 13) 0)])
    (.cond (.tmp 14)
      .skip
      (.exit 0)))
    (.seq (.block 1
      (.seq (reg [op 17 (.move (.tmp 0)) 1,
        op 18 (.move (.tmp 5)) 1,
        op 19 (.indexAddr 3 (.global 17) (.global 18)) 1,
        op 20 (.load 0 (.global 19)) 1,
        op 21 (.move (.tmp 1)) 1,
        op 22 (.move (.tmp 5)) 1,
        op 23 (.indexAddr 3 (.global 21) (.global 22)) 1,
        op 24 (.load 0 (.global 23)) 1,
        op 25 (.binOp .neq 0 (.global 20) (.global 24) 0)])
      (.cond (.tmp 25)
        (.seq (reg [op 4 (.move (.const (B false)))])
        .ret)
        .skip)))
    (reg [op 15 (.move (.tmp 5)) 1,
      op 16 (.binOp .add 0 (.global 15) (.const (I 1)) 0) 1,
      op 5 (.move (.global 16))]))))))
(.seq (reg [op 4 (.move (.const (B true)))])
.ret)))), [(4, 0)]⟩

/-- laws.markInt64S -/
def fn282 : AFun := ⟨2,
(.seq (reg [op 4 (.move (.const (I 0)))])
(.seq (.seq (reg [op 5 (.move (.const (I 0)))])
(.block 0
  (.loop
    (.seq (.seq (reg [op 6 (.move (.tmp 5)) 1,
      op 7 (.move (.tmp 0)) 1,
      op 8 (bi .len #[(.global 7)] 1) 1,
      op 9 (.binOp .lss 0 (.global 6) (.global 8) 0)])
    (.cond (.tmp 9)
      .skip
      (.exit 0)))
    (.seq (.block 1
      (.seq (reg [op 12 (.move (.tmp 0)) 1,
        op 13 (.move (.tmp 5)) 1,
        op 14 (.move (.tmp 1)) 1,
        op 15 (.indexAddr 3 (.global 12) (.global 13)) 1,
        opn (.store 1 (.global 15) (.global 14))])
      (reg [op 16 (.move (.tmp 1)) 1,
        op 17 (.binOp .add 0 (.global 16) (.const (I 1)) 0) 1,
        op 1 (.move (.global 17))])))
    (reg [op 10 (.move (.tmp 5)) 1,
      op 11 (.binOp .add 0 (.global 10) (.const (I 1)) 0) 1,
      op 5 (.move (.global 11))]))))))
(.seq (reg [op 18 (.move (.tmp 1)) 1,
  op 4 (.move (.global 18))])
.ret))), [(4, 0)]⟩

/-- laws.heldInt64S -/
def fn275 : AFun := ⟨2,
(.seq (reg [op 4 (.move (.const (I 0)))])
(.seq (.seq (reg [op 5 (.move (.const (I 0)))])
(.block 0
  (.loop
    (.seq (.seq (reg [op 6 (.move (.tmp 5)) 1,
      op 7 (.move (.tmp 0)) 1,
      op 8 (bi .len #[(.global 7)] 1) 1,
      op 9 (.binOp .lss 0 (.global 6) (.global 8) 0)])
    (.cond (.tmp 9)
      .skip
      (.exit 0)))
    (.seq (.block 1
      (.seq (.seq (reg [op 12 (.move (.tmp 0)) 1,
        op 13 (.move (.tmp 5)) 1,
        op 14 (.indexAddr 3 (.global 12) (.global 13)) 1,
        op 15 (.load 0 (.global 14)) 1,
        op 16 (.move (.tmp 1)) 1,
        op 17 (.binOp .neq 0 (.global 15) (.global 16) 0)])
      (.cond (.tmp 17)
        (.seq (reg [op 4 (.move (.const (I (-1))))])
        .ret)
        .skip))
      (reg [op 18 (.move (.tmp 1)) 1,
        op 19 (.binOp .add 0 (.global 18) (.const (I 1)) 0) 1,
        op 1 (.move (.global 19))])))
    (reg [op 10 (.move (.tmp 5)) 1,
      op 11 (.binOp .add 0 (.global 10) (.const (I 1)) 0) 1,
      op 5 (.move (.global 11))]))))))
(.seq (reg [op 20 (.move (.tmp 1)) 1,
  op 4 (.move (.global 20))])
.ret))), [(4, 0)]⟩

/-- spec.l00In -/
def fn432 : AFun := ⟨3,
(.seq (reg [op 6 (.move (.const (B false)))])
(.seq (reg [op 7 (.move (.tmp 0)) 1,
  op 8 (.move (.tmp 1)) 1,
  op 9 (.binOp .geq 0 (.global 7) (.global 8) 0) 1,
  op 10 (.move (.global 9)) 1,
  op 11 (.move (.tmp 0)) 1 (some (21, true)),
  op 12 (.move (.tmp 2)) 1 (some (21, true)),
  op 13 (.binOp .leq 0 (.global 11) (.global 12) 0) 1 (some (21, true)),
  op 14 (.pick (.global 10) (.global 13) (.const (B false))) 1,
  op 6 (.move (.global 14))])
.ret)), [(6, 0)]⟩

/-- spec.l02Kind -/
def fn449 : AFun := ⟨1,
(.seq (reg [op 2 (.move (.const (B false)))])
(.seq (reg [op 3 (.move (.tmp 0)) 1,
  op 4 (call (.func 432) #[(.global 3), (.const (I 0)), (.const (I 2))]) 1,
  op 2 (.move (.global 4))])
.ret)), [(2, 0)]⟩

/-- laws.toPanelChange -/
def fn304 : AFun := ⟨1,
(.seq (reg [op 1 (.makeChan 3 (.tmp 0)),
  op 2 (.move (.const (.agg #[(I 0), (I 0), (I 0)])))])
(.seq (reg [op 3 (.move (.const (.agg #[(I 0), (I 0), (I 0)])))])
(.seq (reg [op 4 (.fieldAddr 0 (.tmp 1) 1) 1,
  op 5 (.lookup 0 (.tmp 1) (.global 4) false) 1,
  op 6 (.fieldAddr 0 (.tmp 3) 1) 1,
  op 3 (.insert 1 (.tmp 3) (.global 6) (.global 5))])
(.seq (reg [op 7 (.fieldAddr 1 (.tmp 1) 1) 1,
  op 8 (.lookup 0 (.tmp 1) (.global 7) false) 1,
  op 9 (.fieldAddr 1 (.tmp 3) 1) 1,
  op 3 (.insert 1 (.tmp 3) (.global 9) (.global 8))])
(.seq (reg [op 10 (.fieldAddr 2 (.tmp 1) 1) 1,
  op 11 (.lookup 0 (.tmp 1) (.global 10) false) 1,
  op 12 (.fieldAddr 2 (.tmp 3) 1) 1,
  op 3 (.insert 1 (.tmp 3) (.global 12) (.global 11))])
(.seq (reg [op 13 (.lookup 4 (.tmp 3) (.tmp 3) false) 1,
  op 2 (.insert 3 (.tmp 2) (.tmp 2) (.global 13))])
.ret)))))), [(2, 1000004)]⟩

/-- impl.hasIndex -/
def fn163 : AFun := ⟨2,
(.seq (reg [op 4 (.move (.const (B false)))])
(.seq (reg [op 5 (.move (.tmp 0)) 1,
  op 6 (.move (.tmp 1)) 1,
  op 7 (.binOp .sub 0 (.global 6) (.const (I 1)) 0) 1,
  op 8 (call (.func 164) #[(.global 5), (.const (I 0)), (.global 7)]) 1,
  op 4 (.move (.global 8))])
.ret)), [(4, 0)]⟩

/-- impl.validBreak -/
def fn196 : AFun := ⟨1,
(.seq (reg [op 2 (.move (.const (B false)))])
(.seq (reg [op 3 (.move (.tmp 0)) 1,
  op 4 (call (.func 164) #[(.global 3), (.const (I 0)), (.const (I 2))]) 1,
  op 2 (.move (.global 4))])
.ret)), [(2, 0)]⟩

/-- laws.eqPanelChange -/
def fn266 : AFun := ⟨2,
(.seq (reg [op 2 (.makeChan 3 (.tmp 0)),
  op 3 (.makeChan 3 (.tmp 1)),
  op 4 (.move (.const (B false)))])
(.seq (.seq (reg [op 5 (.fieldAddr 0 (.tmp 2) 1) 1,
  op 6 (.lookup 0 (.tmp 2) (.global 5) false) 1,
  op 7 (.fieldAddr 0 (.tmp 3) 1) 1,
  op 8 (.lookup 0 (.tmp 3) (.global 7) false) 1,
  op 9 (.binOp .neq 0 (.global 6) (.global 8) 0)])
(.cond (.tmp 9)
  (.seq (reg [op 4 (.move (.const (B false)))])
  .ret)
  .skip))
(.seq (.seq (reg [op 10 (.fieldAddr 1 (.tmp 2) 1) 1,
  op 11 (.lookup 0 (.tmp 2) (.global 10) false) 1,
  op 12 (.fieldAddr 1 (.tmp 3) 1) 1,
  op 13 (.lookup 0 (.tmp 3) (.global 12) false) 1,
  op 14 (.binOp .neq 0 (.global 11) (.global 13) 0)])
(.cond (.tmp 14)
  (.seq (reg [op 4 (.move (.const (B false)))])
  .ret)
  .skip))
(.seq (.seq (reg [op 15 (.fieldAddr 2 (.tmp 2) 1) 1,
  op 16 (.lookup 0 (.tmp 2) (.global 15) false) 1,
  op 17 (.fieldAddr 2 (.tmp 3) 1) 1,
  op 18 (.lookup 0 (.tmp 3) (.global 17) false) 1,
  op 19 (.binOp .neq 0 (.global 16) (.global 18) 0)])
(.cond (.tmp 19)
  (.seq (reg [op 4 (.move (.const (B false)))])
  .ret)
  .skip))
(.seq (reg [op 4 (.move (.const (B true)))])
.ret))))), [(4, 0)]⟩

/-- laws.eqJournalStepS -/
def fn262 : AFun := ⟨2,
(.seq (reg [op 4 (.move (.const (B false)))])
(.seq (.seq (reg [op 6 (.move (.tmp 0)) 1,
  op 7 (bi .len #[(.global 6)] 1) 1,
  op 8 (.move (.tmp 1)) 1,
  op 9 (bi .len #[(.global 8)] 1) 1,
  op 10 (.binOp .neq 0 (.global 7) (.global 9) 0)])
(.cond (.tmp 10)
  (.seq (reg [op 4 (.move (.const (B false)))])
  .ret)
  .skip))
(.seq (.seq (reg [op 5 (.move (.const (I 0)))])
(.block 0
  (.loop
    (.seq (.seq (reg [op 11 (.move (.tmp 5)) 1,
      op 12 (.move (.tmp 0)) 1,
      op 13 (bi .len #[(.global 12)] 1) 1,
      op 14 (.binOp .lss 0 (.global 11) (.global 13) 0)])
    (.cond (.tmp 14)
      .skip
      (.exit 0)))
    (.seq (.block 1
      (.seq (reg [op 17 (.move (.tmp 0)) 1,
        op 18 (.move (.tmp 5)) 1,
        op 19 (.indexAddr 7 (.global 17) (.global 18)) 1,
        op 20 (.load 4 (.global 19)) 1,
        op 21 (.move (.tmp 1)) 1,
        op 22 (.move (.tmp 5)) 1,
        op 23 (.indexAddr 7 (.global 21) (.global 22)) 1,
        op 24 (.load 4 (.global 23)) 1,
        op 25 (call (.func 261) #[(.global 20), (.global 24)]) 1,
        op 26 (.unOp .not 0 (.global 25))])
      (.cond (.tmp 26)
        (.seq (reg [op 4 (.move (.const (B false)))])
        .ret)
        .skip)))
    (reg [op 15 (.move (.tmp 5)) 1,
      op 16 (.binOp .add 0 (.global 15) (.const (I 1)) 0) 1,
      op 5 (.move (.global 16))]))))))
(.seq (reg [op 4 (.move (.const (B true)))])
.ret)))), [(4, 0)]⟩

/-- laws.markJournalStepS -/
def fn284 : AFun := ⟨2,
(.seq (reg [op 4 (.move (.const (I 0)))])
(.seq (.seq (reg [op 5 (.move (.const (I 0)))])
(.block 0
  (.loop
    (.seq (.seq (reg [op 6 (.move (.tmp 5)) 1,
      op 7 (.move (.tmp 0)) 1,
      op 8 (bi .len #[(.global 7)] 1) 1,
      op 9 (.binOp .lss 0 (.global 6) (.global 8) 0)])
    (.cond (.tmp 9)
      .skip
      (.exit 0)))
    (.seq (.block 1
      (.seq (reg [op 12 (.move (.tmp 0)) 1,
        op 13 (.move (.tmp 5)) 1,
        op 14 (.move (.tmp 1)) 1,
        op 15 (.indexAddr 7 (.global 12) (.global 13)) 1,
        op 16 (.fieldAddr 0 (.global 15) 0) 1,
        opn (.store 1 (.global 16) (.global 14))])
      (.seq (reg [op 17 (.move (.tmp 1)) 1,
        op 18 (.binOp .add 0 (.global 17) (.const (I 1)) 0) 1,
        op 1 (.move (.global 18))])
      (.seq (reg [op 19 (.move (.tmp 0)) 1,
        op 20 (.move (.tmp 5)) 1,
        op 21 (.move (.tmp 1)) 1,
        op 22 (.indexAddr 7 (.global 19) (.global 20)) 1,
        op 23 (.fieldAddr 1 (.global 22) 0) 1,
        opn (.store 1 (.global 23) (.global 21))])
      (.seq (reg [op 24 (.move (.tmp 1)) 1,
        op 25 (.binOp .add 0 (.global 24) (.const (I 1)) 0) 1,
        op 1 (.move (.global 25))])
      (.seq (reg [op 26 (.move (.tmp 0)) 1,
        op 27 (.move (.tmp 5)) 1,
        op 28 (.move (.tmp 1)) 1,
        op 29 (.indexAddr 7 (.global 26) (.global 27)) 1,
        op 30 (.fieldAddr 2 (.global 29) 0) 1,
        opn (.store 1 (.global 30) (.global 28))])
      (reg [op 31 (.move (.tmp 1)) 1,
        op 32 (.binOp .add 0 (.global 31) (.const (I 1)) 0) 1,
        op 1 (.move (.global 32))])))))))
    (reg [op 10 (.move (.tmp 5)) 1,
      op 11 (.binOp .add 0 (.global 10) (.const (I 1)) 0) 1,
      op 5 (.move (.global 11))]))))))
(.seq (reg [op 33 (.move (.tmp 1)) 1,
  op 4 (.move (.global 33))])
.ret))), [(4, 0)]⟩

/-- laws.heldJournalStepS -/
def fn277 : AFun := ⟨2,
(.seq (reg [op 4 (.move (.const (I 0)))])
(.seq (.seq (reg [op 5 (.move (.const (I 0)))])
(.block 0
  (.loop
    (.seq (.seq (reg [op 6 (.move (.tmp 5)) 1,
      op 7 (.move (.tmp 0)) 1,
      op 8 (bi .len #[(.global 7)] 1) 1,
      op 9 (.binOp .lss 0 (.global 6) (.global 8) 0)])
    (.cond (.tmp 9)
      .skip
      (.exit 0)))
    (.seq (.block 1
      (.seq (.seq (reg [op 12 (.move (.tmp 0)) 1,
        op 13 (.move (.tmp 5)) 1,
        op 14 (.indexAddr 7 (.global 12) (.global 13)) 1,
        op 15 (.fieldAddr 0 (.global 14) 0) 1,
        op 16 (.load 0 (.global 15)) 1,
        op 17 (.move (.tmp 1)) 1,
        op 18 (.binOp .neq 0 (.global 16) (.global 17) 0)])
      (.cond (.tmp 18)
        (.seq (reg [op 4 (.move (.const (I (-1))))])
        .ret)
        .skip))
      (.seq (reg [op 19 (.move (.tmp 1)) 1,
        op 20 (.binOp .add 0 (.global 19) (.const (I 1)) 0) 1,
        op 1 (.move (.global 20))])
      (.seq (.seq (reg [op 21 (.move (.tmp 0)) 1,
        op 22 (.move (.tmp 5)) 1,
        op 23 (.indexAddr 7 (.global 21) (.global 22)) 1,
        op 24 (.fieldAddr 1 (.global 23) 0) 1,
        op 25 (.load 0 (.global 24)) 1,
        op 26 (.move (.tmp 1)) 1,
        op 27 (.binOp .neq 0 (.global 25) (.global 26) 0)])
      (.cond (.tmp 27)
        (.seq (reg [op 4 (.move (.const (I (-1))))])
        .ret)
        .skip))
      (.seq (reg [op 28 (.move (.tmp 1)) 1,
        op 29 (.binOp .add 0 (.global 28) (.const (I 1)) 0) 1,
        op 1 (.move (.global 29))])
      (.seq (.seq (reg [op 30 (.move (.tmp 0)) 1,
        op 31 (.move (.tmp 5)) 1,
        op 32 (.indexAddr 7 (.global 30) (.global 31)) 1,
        op 33 (.fieldAddr 2 (.global 32) 0) 1,
        op 34 (.load 0 (.global 33)) 1,
        op 35 (.move (.tmp 1)) 1,
        op 36 (.binOp .neq 0 (.global 34) (.global 35) 0)])
      (.cond (.tmp 36)
        (.seq (reg [op 4 (.move (.const (I (-1))))])
        .ret)
        .skip))
      (reg [op 37 (.move (.tmp 1)) 1,
        op 38 (.binOp .add 0 (.global 37) (.const (I 1)) 0) 1,
        op 1 (.move (.global 38))])))))))
    (reg [op 10 (.move (.tmp 5)) 1,
      op 11 (.binOp .add 0 (.global 10) (.const (I 1)) 0) 1,
      op 5 (.move (.global 11))]))))))
(.seq (reg [op 39 (.move (.tmp 1)) 1,
  op 4 (.move (.global 39))])
.ret))), [(4, 0)]⟩

/-- laws.szJournalStepS -/
def fn292 : AFun := ⟨2,
(.seq (reg [op 4 (.move (.const (I 0)))])
(.seq (reg [op 5 (.move (.tmp 1)) 1,
  op 6 (.move (.tmp 0)) 1,
  op 7 (bi .len #[(.global 6)] 1) 1,
  op 8 (.binOp .sub 0 (.global 5) (.global 7) 0) 1,
  op 1 (.move (.global 8))])
(.seq (.seq (reg [op 9 (.move (.tmp 1)) 1,
  op 10 (.binOp .lss 0 (.global 9) (.const (I 0)) 0)])
(.cond (.tmp 10)
  (.seq (reg [op 4 (.move (.const (I (-1))))])
  .ret)
  .skip))
(.seq (reg [op 11 (.move (.tmp 1)) 1,
  op 4 (.move (.global 11))])
.ret)))), [(4, 0)]⟩

/-- spec.l26Ok -/
def fn558 : AFun := ⟨1,
(.seq (reg [op 2 (.move (.const (B false)))])
(.seq (.seq (reg [op 8 (.move (.tmp 0)) 1,
  op 9 (.nilCheck (.global 8)) 1,
  op 10 (.fieldAddr 0 (.global 9) 0) 1,
  op 11 (call (.func 452) #[(.global 10)]) 1,
  op 12 (.unOp .not 0 (.global 11)) 1,
  op 13 (.move (.global 12)) 1,
  op 14 (.move (.tmp 0)) 1 (some (27, false)),
  op 15 (.nilCheck (.global 14)) 1 (some (27, false)),
  op 16 (.fieldAddr 3 (.global 15) 0) 1 (some (27, false)),
  op 17 (.load 0 (.global 16)) 1 (some (27, false)),
  op 18 (bi .len #[(.global 17)] 1) 1 (some (27, false)),
  op 19 (.move (.tmp 0)) 1 (some (27, false)),
  op 20 (.nilCheck (.global 19)) 1 (some (27, false)),
  op 21 (.fieldAddr 4 (.global 20) 0) 1 (some (27, false)),
  op 22 (.load 0 (.global 21)) 1 (some (27, false)),
  op 23 (bi .len #[(.global 22)] 1) 1 (some (27, false)),
  op 24 (.binOp .add 0 (.global 18) (.global 23) 0) 1 (some (27, false)),
  op 25 (.binOp .gtr 0 (.global 24) (.const (I 50)) 0) 1 (some (27, false)),
  op 26 (.pick (.global 13) (.const (B true)) (.global 25))])
(.cond (.tmp 26)
  (.seq (reg [op 2 (.move (.const (B false)))])
  .ret)
  .skip))
(.seq (reg [op 27 (.move (.tmp 0)) 1,
  op 28 (.nilCheck (.global 27)) 1,
  op 29 (.fieldAddr 0 (.global 28) 0) 1,
  op 30 (call (.func 453) #[(.global 29)]) 1,
  op 3 (.box 3 (.const (.agg #[(I 0), (I 0), (sl 0 0 0 0)]))),
  opn (.store 3 (.tmp 3) (.global 30))])
(.seq (.seq (reg [op 31 (.move (.tmp 0)) 1,
  op 32 (.nilCheck (.global 31)) 1,
  op 33 (.fieldAddr 3 (.global 32) 0) 1,
  op 34 (.load 0 (.global 33)) 1,
  op 35 (bi .len #[(.global 34)] 1) 1,
  op 36 (.binOp .sub 0 (.global 35) (.const (I 1)) 0) 1,
  op 4 (.move (.global 36))])
(.block 0
  (.loop
    (.seq (.seq (reg [op 37 (.move (.tmp 4)) 1,
      op 38 (.binOp .geq 0 (.global 37) (.const (I 0)) 0)])
    (.cond (.tmp 38)
      .skip
      (.exit 0)))
    (.seq (.block 1
      (.seq (reg [op 41 (.move (.tmp 0)) 1,
        op 42 (.nilCheck (.global 41)) 1,
        op 43 (.fieldAddr 3 (.global 42) 0) 1,
        op 44 (.load 0 (.global 43)) 1,
        op 45 (.move (.tmp 4)) 1,
        op 46 (.indexAddr 7 (.global 44) (.global 45)) 1,
        op 47 (.load 4 (.global 46)) 1,
        op 5 (.move (.const (.agg #[(I 0), (I 0), (I 0)]))),
        op 5 (.insert 3 (.tmp 5) (.tmp 5) (.global 47))])
      (.seq (.seq (reg [op 48 (.lookup 4 (.tmp 5) (.tmp 5) false) 1,
        op 49 (call (.func 562) #[(.tmp 3), (.global 48)]) 1,
        op 50 (.unOp .not 0 (.global 49)) 1,
        op 51 (.move (.global 50)) 1,
        op 52 (.fieldAddr 2 (.tmp 3) 0) 1 (some (103, false)),
        op 53 (.load 0 (.global 52)) 1 (some (103, false)),
        op 54 (.fieldAddr 0 (.tmp 5) 1) 1 (some (103, false)),
        op 55 (.lookup 0 (.tmp 5) (.global 54) false) 1 (some (103, false)),
        op 56 (.indexAddr 3 (.global 53) (.global 55)) 1 (some (103, false)),
        op 57 (.load 0 (.global 56)) 1 (some (103, false)),
        op 58 (.fieldAddr 2 (.tmp 5) 1) 1 (some (103, false)),
        op 59 (.lookup 0 (.tmp 5) (.global 58) false) 1 (some (103, false)),
        op 60 (.binOp .neq 0 (.global 57) (.global 59) 0) 1 (some (103, false)),
        op 61 (.pick (.global 51) (.const (B true)) (.global 60))])
      (.cond (.tmp 61)
        (.seq (reg [op 2 (.move (.const (B false)))])
        .ret)
        .skip))
      (reg [op 62 (.fieldAddr 2 (.tmp 3) 0) 1,
        op 63 (.load 0 (.global 62)) 1,
        op 64 (.fieldAddr 0 (.tmp 5) 1) 1,
        op 65 (.lookup 0 (.tmp 5) (.global 64) false) 1,
        op 66 (.fieldAddr 1 (.tmp 5) 1) 1,
        op 67 (.lookup 0 (.tmp 5) (.global 66) false) 1,
        op 68 (.indexAddr 3 (.global 63) (.global 65)) 1,
        opn (.store 1 (.global 68) (.global 67))]))))
    (reg [op 39 (.move (.tmp 4)) 1,
      op 40 (.binOp .sub 0 (.global 39) (.const (I 1)) 0) 1,
      op 4 (.move (.global 40))]))))))
(.seq (reg [op 69 (.move (.tmp 0)) 1,
  op 70 (.nilCheck (.global 69)) 1,
  op 71 (.fieldAddr 0 (.global 70) 0) 1,
  op 72 (call (.func 453) #[(.global 71)]) 1,
  opn (.store 3 (.tmp 3) (.global 72))])
(.seq (.seq (reg [op 6 (.move (.const (I 0)))])
(.block 2
  (.loop
    (.seq (.seq (reg [op 73 (.move (.tmp 6)) 1,
      op 74 (.move (.tmp 0)) 1,
      op 75 (.nilCheck (.global 74)) 1,
      op 76 (.fieldAddr 4 (.global 75) 0) 1,
      op 77 (.load 0 (.global 76)) 1,
      op 78 (bi .len #[(.global 77)] 1) 1,
      op 79 (.binOp .lss 0 (.global 73) (.global 78) 0)])
    (.cond (.tmp 79)
      .skip
      (.exit 2)))
    (.seq (.block 3
      (.seq (reg [op 82 (.move (.tmp 0)) 1,
        op 83 (.nilCheck (.global 82)) 1,
        op 84 (.fieldAddr 4 (.global 83) 0) 1,
        op 85 (.load 0 (.global 84)) 1,
        op 86 (.move (.tmp 6)) 1,
        op 87 (.indexAddr 7 (.global 85) (.global 86)) 1,
        op 88 (.load 4 (.global 87)) 1,
        op 7 (.move (.const (.agg #[(I 0), (I 0), (I 0)]))),
        op 7 (.insert 3 (.tmp 7) (.tmp 7) (.global 88))])
      (.seq (.seq (reg [op 89 (.lookup 4 (.tmp 7) (.tmp 7) false) 1,
        op 90 (call (.func 562) #[(.tmp 3), (.global 89)]) 1,
        op 91 (.unOp .not 0 (.global 90)) 1,
        op 92 (.move (.global 91)) 1,
        op 93 (.fieldAddr 2 (.tmp 3) 0) 1 (some (185, false)),
        op 94 (.load 0 (.global 93)) 1 (some (185, false)),
        op 95 (.fieldAddr 0 (.tmp 7) 1) 1 (some (185, false)),
        op 96 (.lookup 0 (.tmp 7) (.global 95) false) 1 (some (185, false)),
        op 97 (.indexAddr 3 (.global 94) (.global 96)) 1 (some (185, false)),
        op 98 (.load 0 (.global 97)) 1 (some (185, false)),
        op 99 (.fieldAddr 1 (.tmp 7) 1) 1 (some (185, false)),
        op 100 (.lookup 0 (.tmp 7) (.global 99) false) 1 (some (185, false)),
        op 101 (.binOp .neq 0 (.global 98) (.global 100) 0) 1 (some (185, false)),
        op 102 (.pick (.global 92) (.const (B true)) (.global 101))])
      (.cond (.tmp 102)
        (.seq (reg [op 2 (.move (.const (B false)))])
        .ret)
        .skip))
      (reg [op 103 (.fieldAddr 2 (.tmp 3) 0) 1,
        op 104 (.load 0 (.global 103)) 1,
        op 105 (.fieldAddr 0 (.tmp 7) 1) 1,
        op 106 (.lookup 0 (.tmp 7) (.global 105) false) 1,
        op 107 (.fieldAddr 2 (.tmp 7) 1) 1,
        op 108 (.lookup 0 (.tmp 7) (.global 107) false) 1,
        op 109 (.indexAddr 3 (.global 104) (.global 106)) 1,
        opn (.store 1 (.global 109) (.global 108))]))))
    (reg [op 80 (.move (.tmp 6)) 1,
      op 81 (.binOp .add 0 (.global 80) (.const (I 1)) 0) 1,
      op 6 (.move (.global 81))]))))))
(.seq (reg [op 2 (.move (.const (B true)))])
.ret))))))), [(2, 0)]⟩

/-- laws.toJournalStepS -/
def fn300 : AFun := ⟨1,
(.seq (reg [op 2 (.move (.const (sl 0 0 0 0)))])
(.seq (reg [op 5 (.move (.tmp 0)) 1,
  op 6 (bi .len #[(.global 5)] 1) 1,
  op 7 (.mapUpdate 3 (.global 6) (.global 6) (.const (.agg #[(I 0), (I 0), (I 0)]))) 1,
  op 3 (.move (.global 7))])
(.seq (.seq (reg [op 4 (.move (.const (I 0)))])
(.block 0
  (.loop
    (.seq (.seq (reg [op 8 (.move (.tmp 4)) 1,
      op 9 (.move (.tmp 0)) 1,
      op 10 (bi .len #[(.global 9)] 1) 1,
      op 11 (.binOp .lss 0 (.global 8) (.global 10) 0)])
    (.cond (.tmp 11)
      .skip
      (.exit 0)))
    (.seq (.block 1
      (reg [op 14 (.move (.tmp 3)) 1,
        op 15 (.move (.tmp 4)) 1,
        op 16 (.move (.tmp 0)) 1,
        op 17 (.move (.tmp 4)) 1,
        op 18 (.indexAddr 7 (.global 16) (.global 17)) 1,
        op 19 (.load 4 (.global 18)) 1,
        op 20 (call (.func 299) #[(.global 19)]) 1,
        op 21 (.indexAddr 7 (.global 14) (.global 15)) 1,
        opn (.store 3 (.global 21) (.global 20))]))
    (reg [op 12 (.move (.tmp 4)) 1,
      op 13 (.binOp .add 0 (.global 12) (.const (I 1)) 0) 1,
      op 4 (.move (.global 13))]))))))
(.seq (reg [op 22 (.move (.tmp 3)) 1,
  op 2 (.move (.global 22))])
.ret)))), [(2, 0)]⟩

/-- impl.validStep -/
def fn199 : AFun := ⟨2,
(.seq (reg [op 2 (.makeChan 3 (.tmp 0)),
  op 3 (.makeChan 3 (.tmp 1)),
  op 4 (.move (.const (B false)))])
(.seq (reg [op 5 (.fieldAddr 0 (.tmp 3) 1) 1,
  op 6 (.lookup 0 (.tmp 3) (.global 5) false) 1,
  op 7 (.fieldAddr 2 (.tmp 2) 1) 1,
  op 8 (.lookup 0 (.tmp 2) (.global 7) false) 1,
  op 9 (bi .len #[(.global 8)] 1) 1,
  op 10 (call (.func 163) #[(.global 6), (.global 9)]) 1,
  op 11 (.move (.global 10)) 1,
  op 12 (.fieldAddr 1 (.tmp 3) 1) 1 (some (23, true)),
  op 13 (.lookup 0 (.tmp 3) (.global 12) false) 1 (some (23, true)),
  op 14 (call (.func 196) #[(.global 13)]) 1 (some (23, true)),
  op 15 (.pick (.global 11) (.global 14) (.const (B false))) 1,
  op 16 (.move (.global 15)) 1,
  op 17 (.fieldAddr 2 (.tmp 3) 1) 1 (some (33, true)),
  op 18 (.lookup 0 (.tmp 3) (.global 17) false) 1 (some (33, true)),
  op 19 (call (.func 196) #[(.global 18)]) 1 (some (33, true)),
  op 20 (.pick (.global 16) (.global 19) (.const (B false))) 1,
  op 21 (.move (.global 20)) 1,
  op 22 (.fieldAddr 1 (.tmp 3) 1) 1 (some (43, true)),
  op 23 (.lookup 0 (.tmp 3) (.global 22) false) 1 (some (43, true)),
  op 24 (.fieldAddr 2 (.tmp 3) 1) 1 (some (43, true)),
  op 25 (.lookup 0 (.tmp 3) (.global 24) false) 1 (some (43, true)),
  op 26 (.binOp .neq 0 (.global 23) (.global 25) 0) 1 (some (43, true)),
  op 27 (.pick (.global 21) (.global 26) (.const (B false))) 1,
  op 4 (.move (.global 27))])
.ret)), [(4, 0)]⟩

/-- spec.l01Split -/
def fn441 : AFun := ⟨2,
(.seq (reg [op 4 (.move (.const (sl 0 0 0 0)))])
(.seq (reg [op 8 (.move (.const (sl 0 0 0 1))) 1,
  op 5 (.move (.global 8))])
(.seq (reg [op 6 (.move (.const (I 0)))])
(.seq (.seq (reg [op 7 (.move (.const (I 0)))])
(.block 0
  (.loop
    (.seq (.seq (reg [op 9 (.move (.tmp 7)) 1,
      op 10 (.move (.tmp 0)) 1,
      op 11 (bi .len #[(.global 10)] 0) 1,
      op 12 (.binOp .lss 0 (.global 9) (.global 11) 0)])
    (.cond (.tmp 12)
      .skip
      (.exit 0)))
    (.seq (.block 1
      (.seq (reg [op 15 (.move (.tmp 0)) 1,
        op 16 (.move (.tmp 7)) 1,
        op 17 (.index 0 (.global 15) (.global 16)) 1,
        op 18 (.move (.tmp 1)) 1,
        op 19 (.binOp .eql 0 (.global 17) (.global 18) 0)])
      (.cond (.tmp 19)
        (.seq (reg [op 20 (.move (.tmp 5)) 1,
          op 21 (.move (.tmp 0)) 1,
          op 22 (.move (.tmp 6)) 1,
          op 23 (.move (.tmp 7)) 1,
          op 24 (.slice 0 (.global 21) (some (.global 22)) (some (.global 23)) none) 1,
          op 25 (.buildSlice 1 1 #[(0, (.const (.agg #[(S [])]))), (1, (.global 24))]) 1,
          op 26 (bi .append #[(.global 20), (.global 25)] 1) 1,
          op 5 (.move (.global 26))])
        (reg [op 27 (.move (.tmp 7)) 1,
          op 28 (.binOp .add 0 (.global 27) (.const (I 1)) 0) 1,
          op 6 (.move (.global 28))]))
        .skip)))
    (reg [op 13 (.move (.tmp 7)) 1,
      op 14 (.binOp .add 0 (.global 13) (.const (I 1)) 0) 1,
      op 7 (.move (.global 14))]))))))
(.seq (reg [op 29 (.move (.tmp 5)) 1,
  op 30 (.move (.tmp 0)) 1,
  op 31 (.move (.tmp 6)) 1,
  op 32 (.slice 0 (.global 30) (some (.global 31)) none none) 1,
  op 33 (.buildSlice 1 1 #[(0, (.const (.agg #[(S [])]))), (1, (.global 32))]) 1,
  op 34 (bi .append #[(.global 29), (.global 33)] 1) 1,
  op 4 (.move (.global 34))])
.ret))))), [(4, 0)]⟩

/-- spec.l01Number -/
def fn439 : AFun := ⟨1,
(.seq (reg [op 2 (.move (.const (I 0))),
  op 3 (.move (.const (B false)))])
(.seq (reg [op 7 (.move (.tmp 0)) 1,
  op 4 (.move (.global 7))])
(.seq (.seq (reg [op 8 (.move (.tmp 4)) 1,
  op 9 (.binOp .neq 0 (.global 8) (.const (S [])) 0) 1,
  op 10 (.move (.global 9)) 1,
  op 11 (.move (.tmp 4)) 1 (some (21, true)),
  op 12 (.index 0 (.global 11) (.const (I 0))) 1 (some (21, true)),
  op 13 (.binOp .eql 0 (.global 12) (.const (U 45)) 0) 1 (some (21, true)),
  op 14 (.pick (.global 10) (.global 13) (.const (B false)))])
(.cond (.tmp 14)
  (reg [op 15 (.move (.tmp 4)) 1,
    op 16 (.slice 0 (.global 15) (some (.const (I 1))) none none) 1,
    op 4 (.move (.global 16))])
  .skip))
(.seq (.seq (reg [op 17 (.move (.tmp 4)) 1,
  op 18 (bi .len #[(.global 17)] 0) 1,
  op 19 (.binOp .lss 0 (.global 18) (.const (I 1)) 0) 1,
  op 20 (.move (.global 19)) 1,
  op 21 (.move (.tmp 4)) 1 (some (41, false)),
  op 22 (bi .len #[(.global 21)] 0) 1 (some (41, false)),
  op 23 (.binOp .gtr 0 (.global 22) (.const (I 18)) 0) 1 (some (41, false)),
  op 24 (.pick (.global 20) (.const (B true)) (.global 23))])
(.cond (.tmp 24)
  (.seq (reg [op 2 (.move (.const (I 0))),
    op 3 (.move (.const (B false)))])
  .ret)
  .skip))
(.seq (reg [op 5 (.move (.const (I 0)))])
(.seq (.seq (reg [op 6 (.move (.const (I 0)))])
(.block 0
  (.loop
    (.seq (.seq (reg [op 25 (.move (.tmp 6)) 1,
      op 26 (.move (.tmp 4)) 1,
      op 27 (bi .len #[(.global 26)] 0) 1,
      op 28 (.binOp .lss 0 (.global 25) (.global 27) 0)])
    (.cond (.tmp 28)
      .skip
      (.exit 0)))
    (.seq (.block 1
      (.seq (.seq (reg [op 31 (.move (.tmp 4)) 1,
        op 32 (.move (.tmp 6)) 1,
        op 33 (.index 0 (.global 31) (.global 32)) 1,
        op 34 (call (.func 438) #[(.global 33)]) 1,
        op 35 (.unOp .not 0 (.global 34))])
      (.cond (.tmp 35)
        (.seq (reg [op 2 (.move (.const (I 0))),
          op 3 (.move (.const (B false)))])
        .ret)
        .skip))
      (reg [op 36 (.move (.tmp 5)) 1,
        op 37 (.binOp .mul 0 (.const (I 10)) (.global 36) 0) 1,
        op 38 (.move (.tmp 4)) 1,
        op 39 (.move (.tmp 6)) 1,
        op 40 (.index 0 (.global 38) (.global 39)) 1,
        op 41 (.binOp .sub 0 (.global 40) (.const (U 48)) 0) 1,
        op 42 (.convert 0 3 (.global 41)) 1,
        op 43 (.binOp .add 0 (.global 37) (.global 42) 0) 1,
        op 5 (.move (.global 43))])))
    (reg [op 29 (.move (.tmp 6)) 1,
      op 30 (.binOp .add 0 (.global 29) (.const (I 1)) 0) 1,
      op 6 (.move (.global 30))]))))))
(.seq (.seq (reg [op 44 (.move (.tmp 4)) 1,
  op 45 (bi .len #[(.global 44)] 0) 1,
  op 46 (.move (.tmp 0)) 1,
  op 47 (bi .len #[(.global 46)] 0) 1,
  op 48 (.binOp .lss 0 (.global 45) (.global 47) 0)])
(.cond (.tmp 48)
  (reg [op 49 (.move (.tmp 5)) 1,
    op 50 (.unOp .neg 0 (.global 49)) 1,
    op 5 (.move (.global 50))])
  .skip))
(.seq (.seq (reg [op 51 (.move (.tmp 5)) 1,
  op 52 (call (.func 437) #[(.global 51)]) 1,
  op 53 (.move (.tmp 0)) 1,
  op 54 (.binOp .neq 0 (.global 52) (.global 53) 0)])
(.cond (.tmp 54)
  (.seq (reg [op 2 (.move (.const (I 0))),
    op 3 (.move (.const (B false)))])
  .ret)
  .skip))
(.seq (reg [op 55 (.move (.tmp 5)) 1,
  op 2 (.move (.global 55)),
  op 3 (.move (.const (B true)))])
.ret))))))))), [(2, 0), (3, 0)]⟩

/-- spec.l05Kind -/
def fn467 : AFun := ⟨1,
(.seq (reg [op 2 (.move (.const (I 0)))])
(.seq (.seq (reg [op 3 (.move (.tmp 0))])
(.block 0
  (.seq (reg [op 5 (.binOp .eql 0 (.tmp 3) (.const (U 43)) 0) 1,
    op 4 (.move (.global 5))])
  (.cond (.tmp 4)
    (.seq (reg [op 2 (.move (.const (I 0)))])
    .ret)
    (.seq (reg [op 7 (.binOp .eql 0 (.tmp 3) (.const (U 124)) 0) 1,
      op 6 (.move (.global 7))])
    (.cond (.tmp 6)
      (.seq (reg [op 2 (.move (.const (I 1)))])
      .ret)
      (.seq (reg [op 9 (.binOp .eql 0 (.tmp 3) (.const (U 45)) 0) 1,
        op 8 (.move (.global 9))])
      (.cond (.tmp 8)
        (.seq (reg [op 2 (.move (.const (I 2)))])
        .ret)
        .skip))))))))
(.seq (reg [op 2 (.move (.const (I (-1))))])
.ret))), [(2, 0)]⟩

/-- spec.l25List -/
def fn550 : AFun := ⟨1,
(.seq (reg [op 2 (.move (.const (B false)))])
(.seq (.seq (reg [op 3 (.move (.const (I 0)))])
(.block 0
  (.loop
    (.seq (.seq (reg [op 4 (.move (.tmp 3)) 1,
      op 5 (.move (.tmp 0)) 1,
      op 6 (bi .len #[(.global 5)] 1) 1,
      op 7 (.binOp .lss 0 (.global 4) (.global 6) 0)])
    (.cond (.tmp 7)
      .skip
      (.exit 0)))
    (.seq (.block 1
      (.seq (reg [op 10 (.move (.tmp 0)) 1,
        op 11 (.move (.tmp 3)) 1,
        op 12 (.indexAddr 7 (.global 10) (.global 11)) 1,
        op 13 (.fieldAddr 0 (.global 12) 0) 1,
        op 14 (.load 0 (.global 13)) 1,
        op 15 (call (.func 432) #[(.global 14), (.const (I 0)), (.const (I 111))]) 1,
        op 16 (.unOp .not 0 (.global 15)) 1,
        op 17 (.move (.global 16)) 1,
        op 18 (.move (.tmp 0)) 1 (some (35, false)),
        op 19 (.move (.tmp 3)) 1 (some (35, false)),
        op 20 (.indexAddr 7 (.global 18) (.global 19)) 1 (some (35, false)),
        op 21 (.fieldAddr 1 (.global 20) 0) 1 (some (35, false)),
        op 22 (.load 0 (.global 21)) 1 (some (35, false)),
        op 23 (call (.func 449) #[(.global 22)]) 1 (some (35, false)),
        op 24 (.unOp .not 0 (.global 23)) 1 (some (35, false)),
        op 25 (.pick (.global 17) (.const (B true)) (.global 24)) 1,
        op 26 (.move (.global 25)) 1,
        op 27 (.move (.tmp 0)) 1 (some (53, false)),
        op 28 (.move (.tmp 3)) 1 (some (53, false)),
        op 29 (.indexAddr 7 (.global 27) (.global 28)) 1 (some (53, false)),
        op 30 (.fieldAddr 2 (.global 29) 0) 1 (some (53, false)),
        op 31 (.load 0 (.global 30)) 1 (some (53, false)),
        op 32 (call (.func 449) #[(.global 31)]) 1 (some (53, false)),
        op 33 (.unOp .not 0 (.global 32)) 1 (some (53, false)),
        op 34 (.pick (.global 26) (.const (B true)) (.global 33))])
      (.cond (.tmp 34)
        (.seq (reg [op 2 (.move (.const (B false)))])
        .ret)
        .skip)))
    (reg [op 8 (.move (.tmp 3)) 1,
      op 9 (.binOp .add 0 (.global 8) (.const (I 1)) 0) 1,
      op 3 (.move (.global 9))]))))))
(.seq (reg [op 35 (.move (.tmp 0)) 1,
  op 36 (bi .len #[(.global 35)] 1) 1,
  op 37 (.binOp .leq 0 (.global 36) (.const (I 112)) 0) 1,
  op 2 (.move (.global 37))])
.ret))), [(2, 0)]⟩

/-- impl.splitAt -/
def fn189 : AFun := ⟨2,
(.seq (reg [op 4 (.move (.const (sl 0 0 0 0)))])
(.seq (reg [op 8 (.move (.const (sl 0 0 0 1))) 1,
  op 5 (.move (.global 8))])
(.seq (reg [op 6 (.move (.const (I 0)))])
(.seq (.seq (reg [op 9 (.move (.tmp 0)) 1,
  op 10 (bi .len #[(.global 9)] 0),
  op 11 (.move (.const (I 0)))])
(.block 0
  (.loop
    (.seq (reg [op 12 (.binOp .lss 0 (.tmp 11) (.tmp 10) 0)])
    (.seq (.cond (.tmp 12)
      .skip
      (.exit 0))
    (.seq (.block 1
      (.seq (reg [op 13 (.move (.tmp 11)) 1,
        op 7 (.move (.global 13))])
      (.seq (reg [op 14 (.move (.tmp 0)) 1,
        op 15 (.move (.tmp 7)) 1,
        op 16 (.index 0 (.global 14) (.global 15)) 1,
        op 17 (.move (.tmp 1)) 1,
        op 18 (.binOp .eql 0 (.global 16) (.global 17) 0)])
      (.cond (.tmp 18)
        (.seq (reg [op 19 (.move (.tmp 5)) 1,
          op 20 (.move (.tmp 0)) 1,
          op 21 (.move (.tmp 6)) 1,
          op 22 (.move (.tmp 7)) 1,
          op 23 (.slice 0 (.global 20) (some (.global 21)) (some (.global 22)) none) 1,
          op 24 (.buildSlice 1 1 #[(0, (.const (.agg #[(S [])]))), (1, (.global 23))]) 1,
          op 25 (bi .append #[(.global 19), (.global 24)] 1) 1,
          op 5 (.move (.global 25))])
        (reg [op 26 (.move (.tmp 7)) 1,
          op 27 (.binOp .add 0 (.global 26) (.const (I 1)) 0) 1,
          op 6 (.move (.global 27))]))
        .skip))))
    (reg [op 28 (.binOp .add 0 (.tmp 11) (.const (I 1)) 0) 1,
      op 11 (.move (.global 28))])))))))
(.seq (reg [op 29 (.move (.tmp 5)) 1,
  op 30 (.move (.tmp 0)) 1,
  op 31 (.move (.tmp 6)) 1,
  op 32 (.slice 0 (.global 30) (some (.global 31)) none none) 1,
  op 33 (.buildSlice 1 1 #[(0, (.const (.agg #[(S [])]))), (1, (.global 32))]) 1,
  op 34 (bi .append #[(.global 29), (.global 33)] 1) 1,
  op 4 (.move (.global 34))])
.ret))))), [(4, 0)]⟩

/-- impl.ReadDecimal -/
def fn118 : AFun := ⟨1,
(.seq (reg [op 2 (.move (.const (I 0))),
  op 3 (.move (.const (B false)))])
(.seq (reg [op 7 (.move (.tmp 0)) 1,
  op 4 (.move (.global 7))])
(.seq (.seq (reg [op 8 (.move (.tmp 0)) 1,
  op 9 (bi .len #[(.global 8)] 0) 1,
  op 10 (.binOp .gtr 0 (.global 9) (.const (I 0)) 0) 1,
  op 11 (.move (.global 10)) 1,
  op 12 (.move (.tmp 0)) 1 (some (23, true)),
  op 13 (.index 0 (.global 12) (.const (I 0))) 1 (some (23, true)),
  op 14 (.binOp .eql 0 (.global 13) (.const (U 45)) 0) 1 (some (23, true)),
  op 15 (.pick (.global 11) (.global 14) (.const (B false)))])
(.cond (.tmp 15)
  (reg [op 16 (.move (.tmp 0)) 1,
    op 17 (.slice 0 (.global 16) (some (.const (I 1))) none none) 1,
    op 4 (.move (.global 17))])
  .skip))
(.seq (.seq (reg [op 18 (.move (.tmp 4)) 1,
  op 19 (bi .len #[(.global 18)] 0) 1,
  op 20 (.binOp .lss 0 (.global 19) (.const (I 1)) 0) 1,
  op 21 (.move (.global 20)) 1,
  op 22 (.move (.tmp 4)) 1 (some (43, false)),
  op 23 (bi .len #[(.global 22)] 0) 1 (some (43, false)),
  op 24 (.binOp .gtr 0 (.global 23) (.const (I 18)) 0) 1 (some (43, false)),
  op 25 (.pick (.global 21) (.const (B true)) (.global 24))])
(.cond (.tmp 25)
  (.seq (reg [op 2 (.move (.const (I 0))),
    op 3 (.move (.const (B false)))])
  .ret)
  .skip))
(.seq (reg [op 5 (.move (.const (I 0)))])
(.seq (.seq (reg [op 26 (.move (.tmp 4)) 1,
  op 27 (bi .len #[(.global 26)] 0),
  op 28 (.move (.const (I 0)))])
(.block 0
  (.loop
    (.seq (reg [op 29 (.binOp .lss 0 (.tmp 28) (.tmp 27) 0)])
    (.seq (.cond (.tmp 29)
      .skip
      (.exit 0))
    (.seq (.block 1
      (.seq (reg [op 30 (.move (.tmp 28)) 1,
        op 6 (.move (.global 30))])
      (.seq (.seq (reg [op 31 (.move (.tmp 4)) 1,
        op 32 (.move (.tmp 6)) 1,
        op 33 (.index 0 (.global 31) (.global 32)) 1,
        op 34 (.binOp .lss 0 (.global 33) (.const (U 48)) 0) 1,
        op 35 (.move (.global 34)) 1,
        op 36 (.move (.tmp 4)) 1 (some (71, false)),
        op 37 (.move (.tmp 6)) 1 (some (71, false)),
        op 38 (.index 0 (.global 36) (.global 37)) 1 (some (71, false)),
        op 39 (.binOp .gtr 0 (.global 38) (.const (U 57)) 0) 1 (some (71, false)),
        op 40 (.pick (.global 35) (.const (B true)) (.global 39))])
      (.cond (.tmp 40)
        (.seq (reg [op 2 (.move (.const (I 0))),
          op 3 (.move (.const (B false)))])
        .ret)
        .skip))
      (reg [op 41 (.move (.tmp 5)) 1,
        op 42 (.binOp .mul 0 (.const (I 10)) (.global 41) 0) 1,
        op 43 (.move (.tmp 4)) 1,
        op 44 (.move (.tmp 6)) 1,
        op 45 (.index 0 (.global 43) (.global 44)) 1,
        op 46 (.binOp .sub 0 (.global 45) (.const (U 48)) 0) 1,
        op 47 (.convert 0 3 (.global 46)) 1,
        op 48 (.binOp .add 0 (.global 42) (.global 47) 0) 1,
        op 5 (.move (.global 48))]))))
    (reg [op 49 (.binOp .add 0 (.tmp 28) (.const (I 1)) 0) 1,
      op 28 (.move (.global 49))])))))))
(.seq (.seq (reg [op 50 (.move (.tmp 4)) 1,
  op 51 (bi .len #[(.global 50)] 0) 1,
  op 52 (.move (.tmp 0)) 1,
  op 53 (bi .len #[(.global 52)] 0) 1,
  op 54 (.binOp .lss 0 (.global 51) (.global 53) 0)])
(.cond (.tmp 54)
  (reg [op 55 (.move (.tmp 5)) 1,
    op 56 (.unOp .neg 0 (.global 55)) 1,
    op 5 (.move (.global 56))])
  .skip))
(.seq (.seq (reg [op 57 (.move (.tmp 5)) 1,
  op 58 (call (.func 75) #[(.global 57)]) 1,
  op 59 (.move (.tmp 0)) 1,
  op 60 (.binOp .neq 0 (.global 58) (.global 59) 0)])
(.cond (.tmp 60)
  (.seq (reg [op 2 (.move (.const (I 0))),
    op 3 (.move (.const (B false)))])
  .ret)
  .skip))
(.seq (reg [op 61 (.move (.tmp 5)) 1,
  op 2 (.move (.global 61)),
  op 3 (.move (.const (B true)))])
.ret))))))))), [(2, 0), (3, 0)]⟩

/-- impl.markKind -/
def fn174 : AFun := ⟨1,
(.seq (reg [op 2 (.move (.const (I 0)))])
(.seq (.seq (reg [op 4 (.move (.const (I 0)))])
(.block 0
  (.loop
    (.seq (reg [op 5 (.binOp .lss 0 (.tmp 4) (.const (I 3)) 0)])
    (.seq (.cond (.tmp 5)
      .skip
      (.exit 0))
    (.seq (.block 1
      (.seq (reg [op 6 (.move (.tmp 4)) 1,
        op 3 (.move (.global 6))])
      (.seq (reg [op 7 (.move (.tmp 3)) 1,
        op 8 (.index 0 (.const (S [43, 124, 45])) (.global 7)) 1,
        op 9 (.move (.tmp 0)) 1,
        op 10 (.binOp .eql 0 (.global 8) (.global 9) 0)])
      (.cond (.tmp 10)
        (.seq (reg [op 11 (.move (.tmp 3)) 1,
          op 2 (.move (.global 11))])
        .ret)
        .skip))))
    (reg [op 12 (.binOp .add 0 (.tmp 4) (.const (I 1)) 0) 1,
      op 4 (.move (.global 12))])))))))
(.seq (reg [op 2 (.move (.const (I (-1))))])
.ret))), [(2, 0)]⟩

/-- impl.validDiff -/
def fn197 : AFun := ⟨1,
(.seq (reg [op 2 (.move (.const (B false)))])
(.seq (.seq (reg [op 5 (.move (.tmp 0)),
  op 6 (bi .len #[(.tmp 5)] 1),
  op 7 (.move (.const (I 0)))])
(.block 0
  (.loop
    (.seq (reg [op 8 (.binOp .lss 0 (.tmp 7) (.tmp 6) 0)])
    (.seq (.cond (.tmp 8)
      .skip
      (.exit 0))
    (.seq (.block 1
      (.seq (reg [op 9 (.indexAddr 7 (.tmp 5) (.tmp 7)) 1,
        op 10 (.load 4 (.global 9)) 1,
        op 4 (.move (.const (.agg #[(I 0), (I 0), (I 0)]))),
        op 4 (.insert 3 (.tmp 4) (.tmp 4) (.global 10))])
      (.seq (reg [op 11 (.fieldAddr 0 (.tmp 4) 1) 1,
        op 12 (.lookup 0 (.tmp 4) (.global 11) false) 1,
        op 13 (call (.func 164) #[(.global 12), (.const (I 0)), (.const (I 111))]) 1,
        op 14 (.unOp .not 0 (.global 13)) 1,
        op 15 (.move (.global 14)) 1,
        op 16 (.fieldAddr 1 (.tmp 4) 1) 1 (some (31, false)),
        op 17 (.lookup 0 (.tmp 4) (.global 16) false) 1 (some (31, false)),
        op 18 (call (.func 196) #[(.global 17)]) 1 (some (31, false)),
        op 19 (.unOp .not 0 (.global 18)) 1 (some (31, false)),
        op 20 (.pick (.global 15) (.const (B true)) (.global 19)) 1,
        op 21 (.move (.global 20)) 1,
        op 22 (.fieldAddr 2 (.tmp 4) 1) 1 (some (43, false)),
        op 23 (.lookup 0 (.tmp 4) (.global 22) false) 1 (some (43, false)),
        op 24 (call (.func 196) #[(.global 23)]) 1 (some (43, false)),
        op 25 (.unOp .not 0 (.global 24)) 1 (some (43, false)),
        op 26 (.pick (.global 21) (.const (B true)) (.global 25))])
      (.cond (.tmp 26)
        (.seq (reg [op 2 (.move (.const (B false)))])
        .ret)
        .skip))))
    (reg [op 27 (.binOp .add 0 (.tmp 7) (.const (I 1)) 0) 1,
      op 7 (.move (.global 27))])))))))
(.seq (reg [op 28 (.move (.tmp 0)) 1,
  op 29 (bi .len #[(.global 28)] 1) 1,
  op 30 (.binOp .leq 0 (.global 29) (.const (I 112)) 0) 1,
  op 2 (.move (.global 30))])
.ret))), [(2, 0)]⟩

/-- spec.l26Start -/
def fn561 : AFun := ⟨1,
(.seq (reg [op 2 (.move (.const (.agg #[(I 0), (I 0), (sl 0 0 0 0)])))])
(.seq (reg [op 5 (.move (.tmp 0)) 1,
  op 6 (.nilCheck (.global 5)) 1,
  op 7 (.fieldAddr 0 (.global 6) 0) 1,
  op 8 (call (.func 453) #[(.global 7)]) 1,
  op 3 (.move (.const (.agg #[(I 0), (I 0), (sl 0 0 0 0)]))),
  op 3 (.insert 3 (.tmp 3) (.tmp 3) (.global 8))])
(.seq (.seq (reg [op 9 (.move (.tmp 0)) 1,
  op 10 (.nilCheck (.global 9)) 1,
  op 11 (.fieldAddr 3 (.global 10) 0) 1,
  op 12 (.load 0 (.global 11)) 1,
  op 13 (bi .len #[(.global 12)] 1) 1,
  op 14 (.binOp .sub 0 (.global 13) (.const (I 1)) 0) 1,
  op 4 (.move (.global 14))])
(.block 0
  (.loop
    (.seq (.seq (reg [op 15 (.move (.tmp 4)) 1,
      op 16 (.binOp .geq 0 (.global 15) (.const (I 0)) 0)])
    (.cond (.tmp 16)
      .skip
      (.exit 0)))
    (.seq (.block 1
      (reg [op 19 (.fieldAddr 2 (.tmp 3) 1) 1,
        op 20 (.lookup 0 (.tmp 3) (.global 19) false) 1,
        op 21 (.move (.tmp 0)) 1,
        op 22 (.nilCheck (.global 21)) 1,
        op 23 (.fieldAddr 3 (.global 22) 0) 1,
        op 24 (.load 0 (.global 23)) 1,
        op 25 (.move (.tmp 4)) 1,
        op 26 (.indexAddr 7 (.global 24) (.global 25)) 1,
        op 27 (.fieldAddr 0 (.global 26) 0) 1,
        op 28 (.load 0 (.global 27)) 1,
        op 29 (.move (.tmp 0)) 1,
        op 30 (.nilCheck (.global 29)) 1,
        op 31 (.fieldAddr 3 (.global 30) 0) 1,
        op 32 (.load 0 (.global 31)) 1,
        op 33 (.move (.tmp 4)) 1,
        op 34 (.indexAddr 7 (.global 32) (.global 33)) 1,
        op 35 (.fieldAddr 1 (.global 34) 0) 1,
        op 36 (.load 0 (.global 35)) 1,
        op 37 (.indexAddr 3 (.global 20) (.global 28)) 1,
        opn (.store 1 (.global 37) (.global 36))]))
    (reg [op 17 (.move (.tmp 4)) 1,
      op 18 (.binOp .sub 0 (.global 17) (.const (I 1)) 0) 1,
      op 4 (.move (.global 18))]))))))
(.seq (reg [op 38 (.lookup 4 (.tmp 3) (.tmp 3) false) 1,
  op 2 (.insert 3 (.tmp 2) (.tmp 2) (.global 38))])
.ret)))), [(2, 1000004)]⟩

/-- (impl.Journal).start -/
def fn22 : AFun := ⟨1,
(.seq (reg [op 1 (.makeChan 5 (.tmp 0)),
  op 2 (.move (.const (.agg #[(I 0), (I 0), (sl 0 0 0 0)])))])
(.seq (reg [op 5 (.fieldAddr 0 (.tmp 1) 1) 1,
  op 6 (.lookup 4 (.tmp 1) (.global 5) false) 1,
  op 7 (call (.func 150) #[(.global 6)]) 1,
  op 3 (.move (.const (.agg #[(I 0), (I 0), (sl 0 0 0 0)]))),
  op 3 (.insert 3 (.tmp 3) (.tmp 3) (.global 7))])
(.seq (.seq (reg [op 8 (.fieldAddr 3 (.tmp 1) 1) 1,
  op 9 (.lookup 0 (.tmp 1) (.global 8) false) 1,
  op 10 (bi .len #[(.global 9)] 1) 1,
  op 11 (.binOp .sub 0 (.global 10) (.const (I 1)) 0) 1,
  op 4 (.move (.global 11))])
(.block 0
  (.loop
    (.seq (.seq (reg [op 12 (.move (.tmp 4)) 1,
      op 13 (.binOp .geq 0 (.global 12) (.const (I 0)) 0)])
    (.cond (.tmp 13)
      .skip
      (.exit 0)))
    (.seq (.block 1
      (reg [op 16 (.fieldAddr 2 (.tmp 3) 1) 1,
        op 17 (.lookup 0 (.tmp 3) (.global 16) false) 1,
        op 18 (.fieldAddr 3 (.tmp 1) 1) 1,
        op 19 (.lookup 0 (.tmp 1) (.global 18) false) 1,
        op 20 (.move (.tmp 4)) 1,
        op 21 (.indexAddr 7 (.global 19) (.global 20)) 1,
        op 22 (.fieldAddr 0 (.global 21) 0) 1,
        op 23 (.load 0 (.global 22)) 1,
        op 24 (.fieldAddr 3 (.tmp 1) 1) 1,
        op 25 (.lookup 0 (.tmp 1) (.global 24) false) 1,
        op 26 (.move (.tmp 4)) 1,
        op 27 (.indexAddr 7 (.global 25) (.global 26)) 1,
        op 28 (.fieldAddr 1 (.global 27) 0) 1,
        op 29 (.load 0 (.global 28)) 1,
        op 30 (.indexAddr 3 (.global 17) (.global 23)) 1,
        opn (.store 1 (.global 30) (.global 29))]))
    (reg [op 14 (.move (.tmp 4)) 1,
      op 15 (.binOp .sub 0 (.global 14) (.const (I 1)) 0) 1,
      op 4 (.move (.global 15))]))))))
(.seq (reg [op 31 (.lookup 4 (.tmp 3) (.tmp 3) false) 1,
  op 2 (.insert 3 (.tmp 2) (.tmp 2) (.global 31))])
.ret)))), [(2, 1000004)]⟩

/-- spec.l28Text -/
def fn580 : AFun := ⟨1,
(.seq (reg [op 2 (.move (.const (S [])))])
(.seq (reg [op 3 (.move (.tmp 0)) 1,
  op 4 (.nilCheck (.global 3)) 1,
  op 5 (.fieldAddr 0 (.global 4) 0) 1,
  op 6 (.load 4 (.global 5)) 1,
  op 7 (call (.func 402) #[(.global 6)]) 3,
  op 8 (.binOp .add 0 (.global 7) (.const (S [32])) 0) 1,
  op 9 (.move (.tmp 0)) 1,
  op 10 (.nilCheck (.global 9)) 1,
  op 11 (.fieldAddr 3 (.global 10) 0) 1,
  op 12 (.load 0 (.global 11)) 1,
  op 13 (bi .len #[(.global 12)] 1) 1,
  op 14 (call (.func 437) #[(.global 13)]) 3,
  op 15 (.binOp .add 0 (.global 8) (.global 14) 0) 1,
  op 16 (.binOp .add 0 (.global 15) (.const (S [32])) 0) 1,
  op 17 (.move (.tmp 0)) 1,
  op 18 (.nilCheck (.global 17)) 1,
  op 19 (.fieldAddr 4 (.global 18) 0) 1,
  op 20 (.load 0 (.global 19)) 1,
  op 21 (bi .len #[(.global 20)] 1) 1,
  op 22 (call (.func 437) #[(.global 21)]) 1,
  op 23 (.binOp .add 0 (.global 16) (.global 22) 0) 1,
  op 2 (.move (.global 23))])
.ret)), [(2, 0)]⟩

/-- impl.deskText -/
def fn157 : AFun := ⟨1,
(.seq (reg [op 1 (.makeChan 5 (.tmp 0)),
  op 2 (.move (.const (S [])))])
(.seq (reg [op 3 (.fieldAddr 0 (.tmp 1) 1) 1,
  op 4 (.lookup 4 (.tmp 1) (.global 3) false) 1,
  op 5 (call (.func 182) #[(.global 4)]) 1,
  op 6 (.binOp .add 0 (.global 5) (.const (S [32])) 0) 1,
  op 7 (.fieldAddr 3 (.tmp 1) 1) 1,
  op 8 (.lookup 0 (.tmp 1) (.global 7) false) 1,
  op 9 (bi .len #[(.global 8)] 1) 1,
  op 10 (call (.func 75) #[(.global 9)]) 1,
  op 11 (.binOp .add 0 (.global 6) (.global 10) 0) 1,
  op 12 (.binOp .add 0 (.global 11) (.const (S [32])) 0) 1,
  op 13 (.fieldAddr 4 (.tmp 1) 1) 1,
  op 14 (.lookup 0 (.tmp 1) (.global 13) false) 1,
  op 15 (bi .len #[(.global 14)] 1) 1,
  op 16 (call (.func 75) #[(.global 15)]) 1,
  op 17 (.binOp .add 0 (.global 12) (.global 16) 0) 1,
  op 2 (.move (.global 17))])
.ret)), [(2, 0)]⟩

/-- spec.l26Own -/
def fn559 : AFun := ⟨1,
(.seq (reg [op 2 (.move (.const (.agg #[(I 0), (I 0), (sl 0 0 0 0), (sl 0 0 0 0), (sl 0 0 0 0)])))])
(.seq (reg [op 3 (.move (.tmp 0)) 1,
  op 4 (.nilCheck (.global 3)) 1,
  op 5 (.fieldAddr 0 (.global 4) 0) 1,
  op 6 (call (.func 453) #[(.global 5)]) 3,
  op 7 (.move (.const (sl 0 0 0 3))) 1,
  op 8 (.move (.tmp 0)) 1,
  op 9 (.nilCheck (.global 8)) 1,
  op 10 (.fieldAddr 3 (.global 9) 0) 1,
  op 11 (.load 0 (.global 10)) 1,
  op 12 (bi .append #[(.global 7), (.global 11)] 3) 3,
  op 13 (.move (.const (sl 0 0 0 3))) 1,
  op 14 (.move (.tmp 0)) 1,
  op 15 (.nilCheck (.global 14)) 1,
  op 16 (.fieldAddr 4 (.global 15) 0) 1,
  op 17 (.load 0 (.global 16)) 1,
  op 18 (bi .append #[(.global 13), (.global 17)] 3) 1,
  op 19 (.build 0 #[(0, (.const (.agg #[(I 0), (I 0), (sl 0 0 0 0), (sl 0 0 0 0), (sl 0 0 0 0)]))), (3, (.global 6)), (3001, (.global 12)), (4001, (.global 18))]) 1,
  op 2 (.insert 5 (.tmp 2) (.tmp 2) (.global 19))])
.ret)), [(2, 1000006)]⟩

/-- spec.l26Do -/
def fn556 : AFun := ⟨3,
(.seq (reg [op 6 (.move (.const (I 0)))])
(.seq (.seq (reg [op 8 (.move (.tmp 1)) 1,
  op 9 (.move (.tmp 0)) 1,
  op 10 (.nilCheck (.global 9)) 1,
  op 11 (.fieldAddr 0 (.global 10) 0) 1,
  op 12 (.fieldAddr 2 (.global 11) 0) 1,
  op 13 (.load 0 (.global 12)) 1,
  op 14 (bi .len #[(.global 13)] 1) 1,
  op 15 (.binOp .sub 0 (.global 14) (.const (I 1)) 0) 1,
  op 16 (call (.func 432) #[(.global 8), (.const (I 0)), (.global 15)]) 1,
  op 17 (.unOp .not 0 (.global 16)) 1,
  op 18 (.move (.global 17)) 1,
  op 19 (.move (.tmp 2)) 1 (some (37, false)),
  op 20 (call (.func 449) #[(.global 19)]) 1 (some (37, false)),
  op 21 (.unOp .not 0 (.global 20)) 1 (some (37, false)),
  op 22 (.pick (.global 18) (.const (B true)) (.global 21))])
(.cond (.tmp 22)
  (.seq (reg [op 6 (.move (.const (I 2)))])
  .ret)
  .skip))
(.seq (reg [op 23 (.move (.tmp 0)) 1,
  op 24 (.nilCheck (.global 23)) 1,
  op 25 (.fieldAddr 0 (.global 24) 0) 1,
  op 26 (.fieldAddr 2 (.global 25) 0) 1,
  op 27 (.load 0 (.global 26)) 1,
  op 28 (.move (.tmp 1)) 1,
  op 29 (.indexAddr 3 (.global 27) (.global 28)) 1,
  op 30 (.load 0 (.global 29)) 1,
  op 7 (.move (.global 30))])
(.seq (.seq (reg [op 31 (.move (.tmp 7)) 1,
  op 32 (.move (.tmp 2)) 1,
  op 33 (.binOp .eql 0 (.global 31) (.global 32) 0)])
(.cond (.tmp 33)
  (.seq (reg [op 6 (.move (.const (I 6)))])
  .ret)
  .skip))
(.seq (.seq (reg [op 34 (.move (.tmp 0)) 1,
  op 35 (.nilCheck (.global 34)) 1,
  op 36 (.fieldAddr 3 (.global 35) 0) 1,
  op 37 (.load 0 (.global 36)) 1,
  op 38 (bi .len #[(.global 37)] 1) 1,
  op 39 (.binOp .geq 0 (.global 38) (.const (I 50)) 0)])
(.cond (.tmp 39)
  (.seq (reg [op 6 (.move (.const (I 5)))])
  .ret)
  .skip))
(.seq (reg [op 40 (.move (.tmp 0)) 1,
  op 41 (.nilCheck (.global 40)) 1,
  op 42 (.fieldAddr 0 (.global 41) 0) 1,
  op 43 (.fieldAddr 2 (.global 42) 0) 1,
  op 44 (.load 0 (.global 43)) 1,
  op 45 (.move (.tmp 1)) 1,
  op 46 (.move (.tmp 2)) 1,
  op 47 (.indexAddr 3 (.global 44) (.global 45)) 1,
  opn (.store 1 (.global 47) (.global 46))])
(.seq (reg [op 48 (.move (.tmp 0)) 1,
  op 49 (.move (.tmp 0)) 1,
  op 50 (.nilCheck (.global 49)) 1,
  op 51 (.fieldAddr 3 (.global 50) 0) 1,
  op 52 (.load 0 (.global 51)) 1,
  op 53 (.move (.tmp 1)) 1,
  op 54 (.move (.tmp 7)) 1,
  op 55 (.move (.tmp 2)) 1,
  op 56 (.build 0 #[(0, (.const (.agg #[(I 0), (I 0), (I 0)]))), (1, (.global 53)), (1001, (.global 54)), (2001, (.global 55))]) 1,
  op 57 (.buildSlice 3 1 #[(0, (.const (.agg #[(I 0), (I 0), (I 0)]))), (3, (.global 56))]) 1,
  op 58 (bi .append #[(.global 52), (.global 57)] 3) 1,
  op 59 (.nilCheck (.global 48)) 1,
  op 60 (.fieldAddr 3 (.global 59) 0) 1,
  opn (.store 1 (.global 60) (.global 58))])
(.seq (reg [op 61 (.move (.tmp 0)) 1,
  op 62 (.nilCheck (.global 61)) 1,
  op 63 (.fieldAddr 4 (.global 62) 0) 1,
  opn (.store 1 (.global 63) (.const (sl 0 0 0 0)))])
(.seq (reg [op 6 (.move (.const (I 0)))])
.ret))))))))), [(6, 0)]⟩

/-- impl.cloneJournal -/
def fn148 : AFun := ⟨1,
(.seq (reg [op 1 (.makeChan 5 (.tmp 0)),
  op 2 (.move (.const (.agg #[(I 0), (I 0), (sl 0 0 0 0), (sl 0 0 0 0), (sl 0 0 0 0)])))])
(.seq (reg [op 3 (.fieldAddr 0 (.tmp 1) 1) 1,
  op 4 (.lookup 4 (.tmp 1) (.global 3) false) 1,
  op 5 (call (.func 150) #[(.global 4)]) 1,
  op 6 (.fieldAddr 3 (.tmp 1) 1) 1,
  op 7 (.lookup 0 (.tmp 1) (.global 6) false) 1,
  op 8 (call (.func 307) #[(.global 7)]) 1,
  op 9 (.fieldAddr 4 (.tmp 1) 1) 1,
  op 10 (.lookup 0 (.tmp 1) (.global 9) false) 1,
  op 11 (call (.func 307) #[(.global 10)]) 1,
  op 12 (.build 0 #[(0, (.const (.agg #[(I 0), (I 0), (sl 0 0 0 0), (sl 0 0 0 0), (sl 0 0 0 0)]))), (3, (.global 5)), (3001, (.global 8)), (4001, (.global 11))]) 1,
  op 2 (.insert 5 (.tmp 2) (.tmp 2) (.global 12))])
.ret)), [(2, 1000006)]⟩
end Am
