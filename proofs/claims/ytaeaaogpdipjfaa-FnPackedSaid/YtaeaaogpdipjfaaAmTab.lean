/- The functions that are reached, in their normal form; written by a program. -/
import Derived.Test.YtaeaaogpdipjfaaAmRules
set_option linter.unusedVariables false
set_option maxRecDepth 100000
namespace Am
open Go
/-- laws.FnPacked -/
def fn254 : AFun := ⟨1,
(.seq (reg [op 2 (.move (.const (B false)))])
(.seq (.seq (reg [op 34 (.move (.tmp 0)) 1,
  op 35 (call (.func 269) #[(.global 34)])])
(.cond (.tmp 35)
  (.seq (reg [op 2 (.move (.const (B true)))])
  .ret)
  .skip))
(.seq (reg [op 36 (.move (.tmp 0)) 1,
  op 37 (call (.func 362) #[(.global 36)]) 1,
  op 3 (.move (.const (.agg #[(I 0), (I 0), (sl 0 0 0 0)]))),
  op 3 (.insert 3 (.tmp 3) (.tmp 3) (.global 37))])
(.seq (reg [op 39 (.lookup 4 (.tmp 3) (.tmp 3) false) 1,
  op 40 (call (.func 107) #[(.global 39)]) 1,
  op 38 (.move (.global 40)) 1,
  op 41 (.extract (.global 38) 0) 1,
  op 42 (.extract (.global 38) 1) 1,
  op 4 (.move (.global 41)),
  op 5 (.move (.global 42))])
(.seq (reg [op 44 (.lookup 4 (.tmp 3) (.tmp 3) false) 1,
  op 45 (call (.func 398) #[(.global 44)]) 1,
  op 43 (.move (.global 45)) 1,
  op 46 (.extract (.global 43) 0) 1,
  op 47 (.extract (.global 43) 1) 1,
  op 6 (.move (.global 46)),
  op 7 (.move (.global 47))])
(.seq (reg [op 48 (.move (.tmp 0)) 1,
  op 49 (call (.func 375) #[(.global 48)]) 1,
  op 8 (.move (.global 49))])
(.seq (reg [op 51 (.move (.tmp 8)) 1,
  op 52 (call (.func 136) #[(.global 51)]) 1,
  op 50 (.move (.global 52)) 1,
  op 53 (.extract (.global 50) 0) 1,
  op 54 (.extract (.global 50) 1) 1,
  op 9 (.move (.const (.agg #[(I 0), (I 0), (sl 0 0 0 0)]))),
  op 9 (.insert 3 (.tmp 9) (.tmp 9) (.global 53)),
  op 10 (.move (.global 54))])
(.seq (reg [op 56 (.move (.tmp 8)) 1,
  op 57 (call (.func 426) #[(.global 56)]) 1,
  op 55 (.move (.global 57)) 1,
  op 58 (.extract (.global 55) 0) 1,
  op 59 (.extract (.global 55) 1) 1,
  op 11 (.move (.const (.agg #[(I 0), (I 0), (sl 0 0 0 0)]))),
  op 11 (.insert 3 (.tmp 11) (.tmp 11) (.global 58)),
  op 12 (.move (.global 59))])
(.seq (reg [op 60 (.move (.tmp 8)) 1,
  op 61 (call (.func 88) #[(.global 60)]) 1,
  op 13 (.move (.global 61))])
(.seq (reg [op 63 (.move (.tmp 0)) 1,
  op 64 (call (.func 363) #[(.global 63)]) 1,
  op 62 (.move (.global 64)) 1,
  op 65 (.extract (.global 62) 0) 1,
  op 66 (.extract (.global 62) 1) 1,
  op 14 (.move (.global 65)),
  op 15 (.move (.global 66))])
(.seq (reg [op 68 (.move (.tmp 14)) 1,
  op 69 (.move (.tmp 15)) 1,
  op 70 (call (.func 108) #[(.global 68), (.global 69)]) 1,
  op 67 (.move (.global 70)) 1,
  op 71 (.extract (.global 67) 0) 1,
  op 72 (.extract (.global 67) 1) 1,
  op 16 (.move (.global 71)),
  op 17 (.move (.global 72))])
(.seq (reg [op 74 (.move (.tmp 14)) 1,
  op 75 (.move (.tmp 15)) 1,
  op 76 (call (.func 399) #[(.global 74), (.global 75)]) 1,
  op 73 (.move (.global 76)) 1,
  op 77 (.extract (.global 73) 0) 1,
  op 78 (.extract (.global 73) 1) 1,
  op 18 (.move (.global 77)),
  op 19 (.move (.global 78))])
(.seq (reg [op 79 (.move (.tmp 0)) 1,
  op 80 (call (.func 369) #[(.global 79)]) 1,
  op 20 (.move (.global 80))])
(.seq (reg [op 82 (.move (.tmp 20)) 1,
  op 83 (call (.func 120) #[(.global 82)]) 1,
  op 81 (.move (.global 83)) 1,
  op 84 (.extract (.global 81) 0) 1,
  op 85 (.extract (.global 81) 1) 1,
  op 21 (.move (.global 84)),
  op 22 (.move (.global 85))])
(.seq (reg [op 87 (.move (.tmp 20)) 1,
  op 88 (call (.func 411) #[(.global 87)]) 1,
  op 86 (.move (.global 88)) 1,
  op 89 (.extract (.global 86) 0) 1,
  op 90 (.extract (.global 86) 1) 1,
  op 23 (.move (.global 89)),
  op 24 (.move (.global 90))])
(.seq (.seq (reg [op 91 (.move (.tmp 5)) 1,
  op 92 (.move (.tmp 7)) 1,
  op 93 (.binOp .neq 0 (.global 91) (.global 92) 0) 1,
  op 94 (.move (.global 93)) 1,
  op 95 (.move (.tmp 4)) 1 (some (377, false)),
  op 96 (.move (.tmp 6)) 1 (some (377, false)),
  op 97 (.binOp .neq 0 (.global 95) (.global 96) 0) 1 (some (377, false)),
  op 98 (.pick (.global 94) (.const (B true)) (.global 97)) 1,
  op 99 (.move (.global 98)) 1,
  op 100 (.move (.tmp 10)) 1 (some (397, false)),
  op 101 (.move (.tmp 12)) 1 (some (397, false)),
  op 102 (.binOp .neq 0 (.global 100) (.global 101) 0) 1 (some (397, false)),
  op 103 (.pick (.global 99) (.const (B true)) (.global 102)) 1,
  op 104 (.move (.global 103)) 1,
  op 105 (.lookup 4 (.tmp 9) (.tmp 9) false) 1 (some (417, false)),
  op 106 (.lookup 4 (.tmp 11) (.tmp 11) false) 1 (some (417, false)),
  op 107 (call (.func 420) #[(.global 105), (.global 106)]) 1 (some (417, false)),
  op 108 (.unOp .not 0 (.global 107)) 1 (some (417, false)),
  op 109 (.pick (.global 104) (.const (B true)) (.global 108)) 1,
  op 110 (.move (.global 109)) 1,
  op 111 (.move (.tmp 13)) 1 (some (441, false)),
  op 112 (.move (.tmp 8)) 1 (some (441, false)),
  op 113 (call (.func 381) #[(.global 112)]) 1 (some (441, false)),
  op 114 (.binOp .neq 0 (.global 111) (.global 113) 0) 1 (some (441, false)),
  op 115 (.pick (.global 110) (.const (B true)) (.global 114)) 1,
  op 116 (.move (.global 115)) 1,
  op 117 (.move (.tmp 13)) 1 (some (465, false)),
  op 118 (.binOp .eql 0 (.global 117) (.const (I 0)) 0) 1 (some (465, false)),
  op 119 (.move (.tmp 10)) 1 (some (465, false)),
  op 120 (.binOp .eql 0 (.global 119) (.const (I 0)) 0) 1 (some (465, false)),
  op 121 (.binOp .neq 1 (.global 118) (.global 120) 0) 1 (some (465, false)),
  op 122 (.pick (.global 116) (.const (B true)) (.global 121)) 1,
  op 123 (.move (.global 122)) 1,
  op 124 (.move (.tmp 17)) 1 (some (493, false)),
  op 125 (.move (.tmp 19)) 1 (some (493, false)),
  op 126 (.binOp .neq 0 (.global 124) (.global 125) 0) 1 (some (493, false)),
  op 127 (.pick (.global 123) (.const (B true)) (.global 126)) 1,
  op 128 (.move (.global 127)) 1,
  op 129 (.move (.tmp 16)) 1 (some (513, false)),
  op 130 (.move (.tmp 18)) 1 (some (513, false)),
  op 131 (.binOp .neq 0 (.global 129) (.global 130) 0) 1 (some (513, false)),
  op 132 (.pick (.global 128) (.const (B true)) (.global 131)) 1,
  op 133 (.move (.global 132)) 1,
  op 134 (.move (.tmp 22)) 1 (some (533, false)),
  op 135 (.move (.tmp 24)) 1 (some (533, false)),
  op 136 (.binOp .neq 1 (.global 134) (.global 135) 0) 1 (some (533, false)),
  op 137 (.pick (.global 133) (.const (B true)) (.global 136)) 1,
  op 138 (.move (.global 137)) 1,
  op 139 (.move (.tmp 21)) 1 (some (553, false)),
  op 140 (.move (.tmp 23)) 1 (some (553, false)),
  op 141 (.binOp .neq 0 (.global 139) (.global 140) 0) 1 (some (553, false)),
  op 142 (.pick (.global 138) (.const (B true)) (.global 141)) 1,
  op 143 (.move (.global 142)) 1,
  op 144 (.move (.tmp 8)) 1 (some (573, false)),
  op 145 (call (.func 64) #[(.global 144)]) 1 (some (573, false)),
  op 146 (.move (.tmp 8)) 1 (some (573, false)),
  op 147 (call (.func 333) #[(.global 146)]) 1 (some (573, false)),
  op 148 (.binOp .neq 0 (.global 145) (.global 147) 0) 1 (some (573, false)),
  op 149 (.pick (.global 143) (.const (B true)) (.global 148))])
(.cond (.tmp 149)
  (.seq (reg [op 2 (.move (.const (B false)))])
  .ret)
  .skip))
(.seq (reg [op 150 (.move (.tmp 8)) 1,
  op 151 (call (.func 87) #[(.global 150)]) 1,
  op 25 (.move (.global 151))])
(.seq (reg [op 153 (.move (.tmp 25)) 1,
  op 154 (call (.func 120) #[(.global 153)]) 1,
  op 152 (.move (.global 154)) 1,
  op 155 (.extract (.global 152) 0) 1,
  op 156 (.extract (.global 152) 1) 1,
  op 26 (.move (.global 155)),
  op 27 (.move (.global 156))])
(.seq (.seq (reg [op 157 (.move (.tmp 25)) 1,
  op 158 (.move (.tmp 8)) 1,
  op 159 (call (.func 380) #[(.global 158)]) 1,
  op 160 (.binOp .neq 0 (.global 157) (.global 159) 0) 1,
  op 161 (.move (.global 160)) 1,
  op 162 (.move (.tmp 27)) 1 (some (645, false)),
  op 163 (.unOp .not 0 (.global 162)) 1 (some (645, false)),
  op 164 (.pick (.global 161) (.const (B true)) (.global 163)) 1,
  op 165 (.move (.global 164)) 1,
  op 166 (.move (.tmp 26)) 1 (some (661, false)),
  op 167 (.move (.tmp 8)) 1 (some (661, false)),
  op 168 (.binOp .neq 0 (.global 166) (.global 167) 0) 1 (some (661, false)),
  op 169 (.pick (.global 165) (.const (B true)) (.global 168)) 1,
  op 170 (.move (.global 169)) 1,
  op 171 (.move (.tmp 25)) 1 (some (681, false)),
  op 172 (bi .len #[(.global 171)] 0) 1 (some (681, false)),
  op 173 (.move (.tmp 8)) 1 (some (681, false)),
  op 174 (bi .len #[(.global 173)] 0) 1 (some (681, false)),
  op 175 (.binOp .mul 0 (.const (I 2)) (.global 174) 0) 1 (some (681, false)),
  op 176 (.binOp .neq 0 (.global 172) (.global 175) 0) 1 (some (681, false)),
  op 177 (.pick (.global 170) (.const (B true)) (.global 176))])
(.cond (.tmp 177)
  (.seq (reg [op 2 (.move (.const (B false)))])
  .ret)
  .skip))
(.seq (.seq (reg [op 178 (.move (.tmp 10)) 1,
  op 179 (.binOp .eql 0 (.global 178) (.const (I 0)) 0)])
(.cond (.tmp 179)
  (.seq (reg [op 181 (.lookup 4 (.tmp 9) (.tmp 9) false) 1,
    op 182 (call (.func 107) #[(.global 181)]) 1,
    op 180 (.move (.global 182)) 1,
    op 183 (.extract (.global 180) 0) 1,
    op 184 (.extract (.global 180) 1) 1,
    op 28 (.move (.global 183)),
    op 29 (.move (.global 184))])
  (.seq (reg [op 185 (.move (.tmp 29)) 1,
    op 186 (.binOp .neq 0 (.global 185) (.const (I 0)) 0) 1,
    op 187 (.move (.global 186)) 1,
    op 188 (.move (.tmp 28)) 1 (some (749, false)),
    op 189 (.move (.tmp 8)) 1 (some (749, false)),
    op 190 (.binOp .neq 0 (.global 188) (.global 189) 0) 1 (some (749, false)),
    op 191 (.pick (.global 187) (.const (B true)) (.global 190))])
  (.cond (.tmp 191)
    (.seq (reg [op 2 (.move (.const (B false)))])
    .ret)
    .skip)))
  .skip))
(.seq (.seq (reg [op 192 (.move (.tmp 5)) 1,
  op 193 (.binOp .neq 0 (.global 192) (.const (I 0)) 0)])
(.cond (.tmp 193)
  (.seq (reg [op 2 (.move (.const (B true)))])
  .ret)
  .skip))
(.seq (reg [op 195 (.move (.tmp 4)) 1,
  op 196 (call (.func 136) #[(.global 195)]) 1,
  op 194 (.move (.global 196)) 1,
  op 197 (.extract (.global 194) 0) 1,
  op 198 (.extract (.global 194) 1) 1,
  op 30 (.move (.const (.agg #[(I 0), (I 0), (sl 0 0 0 0)]))),
  op 30 (.insert 3 (.tmp 30) (.tmp 30) (.global 197)),
  op 31 (.move (.global 198))])
(.seq (reg [op 200 (.fieldAddr 0 (.tmp 3) 1) 1,
  op 201 (.lookup 0 (.tmp 3) (.global 200) false) 1,
  op 202 (.fieldAddr 1 (.tmp 3) 1) 1,
  op 203 (.lookup 0 (.tmp 3) (.global 202) false) 1,
  op 204 (call (.func 108) #[(.global 201), (.global 203)]) 1,
  op 199 (.move (.global 204)) 1,
  op 205 (.extract (.global 199) 0) 1,
  op 206 (.extract (.global 199) 1) 1,
  op 32 (.move (.global 205)),
  op 33 (.move (.global 206))])
(.seq (reg [op 207 (.move (.tmp 31)) 1,
  op 208 (.binOp .eql 0 (.global 207) (.const (I 0)) 0) 1,
  op 209 (.move (.global 208)) 1,
  op 210 (.lookup 4 (.tmp 30) (.tmp 30) false) 1 (some (837, true)),
  op 211 (.lookup 4 (.tmp 3) (.tmp 3) false) 1 (some (837, true)),
  op 212 (call (.func 420) #[(.global 210), (.global 211)]) 1 (some (837, true)),
  op 213 (.pick (.global 209) (.global 212) (.const (B false))) 1,
  op 214 (.move (.global 213)) 1,
  op 215 (.move (.tmp 33)) 1 (some (857, true)),
  op 216 (.binOp .eql 0 (.global 215) (.const (I 0)) 0) 1 (some (857, true)),
  op 217 (.pick (.global 214) (.global 216) (.const (B false))) 1,
  op 218 (.move (.global 217)) 1,
  op 219 (.move (.tmp 32)) 1 (some (873, true)),
  op 220 (.move (.tmp 4)) 1 (some (873, true)),
  op 221 (bi .len #[(.global 220)] 0) 1 (some (873, true)),
  op 222 (.binOp .eql 0 (.global 219) (.global 221) 0) 1 (some (873, true)),
  op 223 (.pick (.global 218) (.global 222) (.const (B false))) 1,
  op 2 (.move (.global 223))])
.ret)))))))))))))))))))))))), [(2, 0)]⟩

/-- laws.f6big -/
def fn269 : AFun := ⟨1,
(.seq (reg [op 2 (.move (.const (B false)))])
(.seq (reg [op 3 (.move (.tmp 0)) 1,
  op 4 (bi .len #[(.global 3)] 1) 1,
  op 5 (.binOp .gtr 0 (.global 4) (.const (I 4096)) 0) 1,
  op 2 (.move (.global 5))])
.ret)), [(2, 0)]⟩

/-- spec.DrawPackPanel -/
def fn362 : AFun := ⟨1,
(.seq (reg [op 2 (.move (.const (.agg #[(I 0), (I 0), (sl 0 0 0 0)])))])
(.seq (reg [op 3 (.move (.tmp 0)) 1,
  op 4 (call (.func 431) #[(.global 3)]) 1,
  op 5 (call (.func 443) #[(.global 4)]) 1,
  op 2 (.insert 3 (.tmp 2) (.tmp 2) (.global 5))])
.ret)), [(2, 1000004)]⟩

/-- impl.PackPanel -/
def fn107 : AFun := ⟨1,
(.seq (reg [op 1 (.makeChan 3 (.tmp 0)),
  op 2 (.move (.const (S []))),
  op 3 (.move (.const (I 0)))])
(.seq (.seq (reg [op 4 (.lookup 4 (.tmp 1) (.tmp 1) false) 1,
  op 5 (call (.func 140) #[(.global 4)]) 1,
  op 6 (.unOp .not 0 (.global 5))])
(.cond (.tmp 6)
  (.seq (reg [op 2 (.move (.const (S []))),
    op 3 (.move (.const (I 1)))])
  .ret)
  .skip))
(.seq (reg [op 7 (.lookup 4 (.tmp 1) (.tmp 1) false) 1,
  op 8 (call (.func 180) #[(.global 7)]) 1,
  op 2 (.move (.global 8)),
  op 3 (.move (.const (I 0)))])
.ret))), [(2, 0), (3, 0)]⟩

/-- spec.PackPanel -/
def fn398 : AFun := ⟨1,
(.seq (reg [op 1 (.box 3 (.tmp 0)),
  op 2 (.move (.const (S []))),
  op 3 (.move (.const (I 0)))])
(.seq (.seq (reg [op 4 (call (.func 452) #[(.tmp 1)]) 1,
  op 5 (.unOp .not 0 (.global 4))])
(.cond (.tmp 5)
  (.seq (reg [op 2 (.move (.const (S []))),
    op 3 (.move (.const (I 1)))])
  .ret)
  .skip))
(.seq (reg [op 6 (call (.func 571) #[(.tmp 1)]) 1,
  op 2 (.move (.global 6)),
  op 3 (.move (.const (I 0)))])
.ret))), [(2, 0), (3, 0)]⟩

/-- spec.DrawUnpackPanel -/
def fn375 : AFun := ⟨1,
(.seq (reg [op 2 (.move (.const (S [])))])
(.seq (reg [op 3 (.move (.tmp 0)) 1,
  op 4 (call (.func 431) #[(.global 3)]) 1,
  op 5 (call (.func 565) #[(.global 4)]) 1,
  op 2 (.move (.global 5))])
.ret)), [(2, 0)]⟩

/-- impl.UnpackPanel -/
def fn136 : AFun := ⟨1,
(.seq (reg [op 2 (.move (.const (.agg #[(I 0), (I 0), (sl 0 0 0 0)]))),
  op 3 (.move (.const (I 0)))])
(.seq (reg [op 7 (.move (.tmp 0)) 1,
  op 8 (call (.func 195) #[(.global 7)]) 1,
  op 6 (.move (.global 8)) 1,
  op 9 (.extract (.global 6) 0) 1,
  op 10 (.extract (.global 6) 1) 1,
  op 4 (.move (.const (.agg #[(I 0), (I 0), (sl 0 0 0 0)]))),
  op 4 (.insert 3 (.tmp 4) (.tmp 4) (.global 9)),
  op 5 (.move (.global 10))])
(.seq (.seq (reg [op 11 (.move (.tmp 5)) 1,
  op 12 (.unOp .not 0 (.global 11))])
(.cond (.tmp 12)
  (.seq (reg [op 13 (.build 0 #[(0, (.const (.agg #[(I 0), (I 0), (sl 0 0 0 0)])))]) 1,
    op 2 (.insert 3 (.tmp 2) (.tmp 2) (.global 13)),
    op 3 (.move (.const (I 8)))])
  .ret)
  .skip))
(.seq (reg [op 14 (.lookup 4 (.tmp 4) (.tmp 4) false) 1,
  op 2 (.insert 3 (.tmp 2) (.tmp 2) (.global 14)),
  op 3 (.move (.const (I 0)))])
.ret)))), [(2, 1000004), (3, 0)]⟩

/-- spec.UnpackPanel -/
def fn426 : AFun := ⟨1,
(.seq (reg [op 2 (.move (.const (.agg #[(I 0), (I 0), (sl 0 0 0 0)]))),
  op 3 (.move (.const (I 0)))])
(.seq (reg [op 7 (.move (.tmp 0)) 1,
  op 8 (call (.func 574) #[(.global 7)]) 1,
  op 6 (.move (.global 8)) 1,
  op 9 (.extract (.global 6) 0) 1,
  op 10 (.extract (.global 6) 1) 1,
  op 4 (.move (.const (.agg #[(I 0), (I 0), (sl 0 0 0 0)]))),
  op 4 (.insert 3 (.tmp 4) (.tmp 4) (.global 9)),
  op 5 (.move (.global 10))])
(.seq (.seq (reg [op 11 (.move (.tmp 5)) 1,
  op 12 (.binOp .neq 0 (.global 11) (.const (I 0)) 0)])
(.cond (.tmp 12)
  (.seq (reg [op 13 (.build 0 #[(0, (.const (.agg #[(I 0), (I 0), (sl 0 0 0 0)])))]) 1,
    op 2 (.insert 3 (.tmp 2) (.tmp 2) (.global 13)),
    op 3 (.move (.const (I 8)))])
  .ret)
  .skip))
(.seq (reg [op 14 (.lookup 4 (.tmp 4) (.tmp 4) false) 1,
  op 2 (.insert 3 (.tmp 2) (.tmp 2) (.global 14)),
  op 3 (.move (.const (I 0)))])
.ret)))), [(2, 1000004), (3, 0)]⟩

/-- impl.ImageFault -/
def fn88 : AFun := ⟨1,
(.seq (reg [op 2 (.move (.const (I 0)))])
(.seq (.seq (reg [op 5 (.move (.tmp 0)) 1,
  op 6 (bi .len #[(.global 5)] 0) 1,
  op 7 (.binOp .lss 0 (.global 6) (.const (I 5)) 0) 1,
  op 8 (.move (.global 7)) 1,
  op 9 (.move (.tmp 0)) 1 (some (33, false)),
  op 10 (.index 0 (.global 9) (.const (I 0))) 1 (some (33, false)),
  op 11 (.binOp .neq 0 (.global 10) (.const (U 77)) 0) 1 (some (33, false)),
  op 12 (.pick (.global 8) (.const (B true)) (.global 11)) 1,
  op 13 (.move (.global 12)) 1,
  op 14 (.move (.tmp 0)) 1 (some (53, false)),
  op 15 (.index 0 (.global 14) (.const (I 1))) 1 (some (53, false)),
  op 16 (.convert 0 3 (.global 15)) 1 (some (53, false)),
  op 17 (.move (.tmp 0)) 1 (some (53, false)),
  op 18 (.index 0 (.global 17) (.const (I 2))) 1 (some (53, false)),
  op 19 (.convert 0 3 (.global 18)) 1 (some (53, false)),
  op 20 (call (.func 198) #[(.global 16), (.global 19)]) 1 (some (53, false)),
  op 21 (.unOp .not 0 (.global 20)) 1 (some (53, false)),
  op 22 (.pick (.global 13) (.const (B true)) (.global 21))])
(.cond (.tmp 22)
  (.seq (reg [op 2 (.move (.const (I 1)))])
  .ret)
  .skip))
(.seq (.seq (reg [op 23 (.move (.tmp 0)) 1,
  op 24 (bi .len #[(.global 23)] 0) 1,
  op 25 (.move (.tmp 0)) 1,
  op 26 (.index 0 (.global 25) (.const (I 1))) 1,
  op 27 (.convert 0 3 (.global 26)) 1,
  op 28 (.move (.tmp 0)) 1,
  op 29 (.index 0 (.global 28) (.const (I 2))) 1,
  op 30 (.convert 0 3 (.global 29)) 1,
  op 31 (call (.func 181) #[(.global 27), (.global 30)]) 1,
  op 32 (.binOp .neq 0 (.global 24) (.global 31) 0)])
(.cond (.tmp 32)
  (.seq (reg [op 2 (.move (.const (I 2)))])
  .ret)
  .skip))
(.seq (.seq (reg [op 33 (.move (.tmp 0)) 1,
  op 34 (.move (.tmp 0)) 1,
  op 35 (bi .len #[(.global 34)] 0) 1,
  op 36 (.binOp .sub 0 (.global 35) (.const (I 2)) 0) 1,
  op 37 (.slice 0 (.global 33) none (some (.global 36)) none) 1,
  op 38 (call (.func 191) #[(.global 37)]) 1,
  op 39 (.move (.tmp 0)) 1,
  op 40 (.binOp .neq 0 (.global 38) (.global 39) 0)])
(.cond (.tmp 40)
  (.seq (reg [op 2 (.move (.const (I 3)))])
  .ret)
  .skip))
(.seq (.seq (reg [op 42 (.move (.tmp 0)) 1,
  op 43 (call (.func 195) #[(.global 42)]) 1,
  op 41 (.move (.global 43)) 1,
  op 44 (.extract (.global 41) 0) 1,
  op 45 (.extract (.global 41) 1) 1,
  op 3 (.move (.const (.agg #[(I 0), (I 0), (sl 0 0 0 0)]))),
  op 3 (.insert 3 (.tmp 3) (.tmp 3) (.global 44)),
  op 4 (.move (.global 45))])
(.seq (reg [op 46 (.move (.tmp 4)) 1,
  op 47 (.unOp .not 0 (.global 46))])
(.cond (.tmp 47)
  (.seq (reg [op 2 (.move (.const (I 4)))])
  .ret)
  .skip)))
(.seq (reg [op 2 (.move (.const (I 0)))])
.ret)))))), [(2, 0)]⟩

/-- spec.DrawPackedSize -/
def fn363 : AFun := ⟨1,
(.seq (reg [op 2 (.move (.const (I 0))),
  op 3 (.move (.const (I 0)))])
(.seq (reg [op 6 (.move (.tmp 0)) 1,
  op 7 (call (.func 431) #[(.global 6)]) 1,
  op 4 (.move (.global 7))])
(.seq (reg [op 8 (.move (.tmp 4)) 1,
  op 9 (call (.func 7) #[(.global 8), (.const (I 11))]) 1,
  op 10 (.binOp .sub 0 (.global 9) (.const (I 1)) 0) 1,
  op 5 (.move (.global 10))])
(.seq (reg [op 11 (.move (.tmp 5)) 1,
  op 12 (.move (.tmp 4)) 1,
  op 13 (call (.func 7) #[(.global 12), (.const (I 11))]) 1,
  op 14 (.binOp .sub 0 (.global 13) (.const (I 1)) 0) 1,
  op 2 (.move (.global 11)),
  op 3 (.move (.global 14))])
.ret)))), [(2, 0), (3, 0)]⟩

/-- impl.PackedSize -/
def fn108 : AFun := ⟨2,
(.seq (reg [op 4 (.move (.const (I 0))),
  op 5 (.move (.const (I 0)))])
(.seq (.seq (reg [op 6 (.move (.tmp 0)) 1,
  op 7 (.move (.tmp 1)) 1,
  op 8 (call (.func 198) #[(.global 6), (.global 7)]) 1,
  op 9 (.unOp .not 0 (.global 8))])
(.cond (.tmp 9)
  (.seq (reg [op 4 (.move (.const (I 0))),
    op 5 (.move (.const (I 2)))])
  .ret)
  .skip))
(.seq (reg [op 10 (.move (.tmp 0)) 1,
  op 11 (.move (.tmp 1)) 1,
  op 12 (call (.func 181) #[(.global 10), (.global 11)]) 1,
  op 4 (.move (.global 12)),
  op 5 (.move (.const (I 0)))])
.ret))), [(4, 0), (5, 0)]⟩

/-- spec.PackedSize -/
def fn399 : AFun := ⟨2,
(.seq (reg [op 4 (.move (.const (I 0))),
  op 5 (.move (.const (I 0)))])
(.seq (.seq (reg [op 6 (.move (.tmp 0)) 1,
  op 7 (call (.func 457) #[(.global 6)]) 1,
  op 8 (.unOp .not 0 (.global 7)) 1,
  op 9 (.move (.global 8)) 1,
  op 10 (.move (.tmp 1)) 1 (some (37, false)),
  op 11 (call (.func 457) #[(.global 10)]) 1 (some (37, false)),
  op 12 (.unOp .not 0 (.global 11)) 1 (some (37, false)),
  op 13 (.pick (.global 9) (.const (B true)) (.global 12))])
(.cond (.tmp 13)
  (.seq (reg [op 4 (.move (.const (I 0))),
    op 5 (.move (.const (I 2)))])
  .ret)
  .skip))
(.seq (reg [op 14 (.move (.tmp 0)) 1,
  op 15 (.move (.tmp 1)) 1,
  op 16 (call (.func 572) #[(.global 14), (.global 15)]) 1,
  op 4 (.move (.global 16)),
  op 5 (.move (.const (I 0)))])
.ret))), [(4, 0), (5, 0)]⟩

/-- spec.DrawReadHex -/
def fn369 : AFun := ⟨1,
(.seq (reg [op 2 (.move (.const (S [])))])
(.seq (reg [op 5 (.move (.tmp 0)) 1,
  op 6 (call (.func 431) #[(.global 5)]) 1,
  op 3 (.move (.global 6))])
(.seq (reg [op 7 (.move (.tmp 3)) 1,
  op 8 (call (.func 565) #[(.global 7)]) 1,
  op 9 (call (.func 380) #[(.global 8)]) 1,
  op 4 (.move (.global 9))])
(.seq (.seq (reg [op 10 (.move (.tmp 3)) 1,
  op 11 (call (.func 6) #[(.global 10), (.const (I 3))])])
(.cond (.tmp 11)
  (.seq (reg [op 12 (.move (.tmp 3)) 1,
    op 13 (.move (.tmp 4)) 1,
    op 14 (call (.func 442) #[(.global 12), (.global 13)]) 1,
    op 2 (.move (.global 14))])
  .ret)
  .skip))
(.seq (reg [op 15 (.move (.tmp 4)) 1,
  op 2 (.move (.global 15))])
.ret))))), [(2, 0)]⟩

/-- impl.ReadHex -/
def fn120 : AFun := ⟨1,
(.seq (reg [op 2 (.move (.const (S []))),
  op 3 (.move (.const (B false)))])
(.seq (.seq (reg [op 8 (.move (.tmp 0)) 1,
  op 9 (bi .len #[(.global 8)] 0) 1,
  op 10 (.binOp .rem 0 (.global 9) (.const (I 2)) 0) 1,
  op 11 (.binOp .neq 0 (.global 10) (.const (I 0)) 0)])
(.cond (.tmp 11)
  (.seq (reg [op 2 (.move (.const (S []))),
    op 3 (.move (.const (B false)))])
  .ret)
  .skip))
(.seq (reg [op 12 (.move (.const (sl 0 0 0 1))) 1,
  op 4 (.move (.global 12))])
(.seq (.seq (reg [op 5 (.move (.const (I 0)))])
(.block 0
  (.loop
    (.seq (.seq (reg [op 13 (.move (.tmp 5)) 1,
      op 14 (.move (.tmp 0)) 1,
      op 15 (bi .len #[(.global 14)] 0) 1,
      op 16 (.binOp .lss 0 (.global 13) (.global 15) 0)])
    (.cond (.tmp 16)
      .skip
      (.exit 0)))
    (.seq (.block 1
      (.seq (reg [op 19 (.move (.tmp 0)) 1,
        op 20 (.move (.tmp 5)) 1,
        op 21 (.index 0 (.global 19) (.global 20)) 1,
        op 22 (call (.func 183) #[(.const (S [48, 49, 50, 51, 52, 53, 54, 55, 56, 57, 97, 98, 99, 100, 101, 102])), (.global 21), (.const (I 0))]) 1,
        op 23 (.move (.tmp 0)) 1,
        op 24 (.move (.tmp 5)) 1,
        op 25 (.binOp .add 0 (.global 24) (.const (I 1)) 0) 1,
        op 26 (.index 0 (.global 23) (.global 25)) 1,
        op 27 (call (.func 183) #[(.const (S [48, 49, 50, 51, 52, 53, 54, 55, 56, 57, 97, 98, 99, 100, 101, 102])), (.global 26), (.const (I 0))]) 1,
        op 6 (.move (.global 22)),
        op 7 (.move (.global 27))])
      (.seq (.seq (reg [op 28 (.move (.tmp 6)) 1,
        op 29 (.binOp .lss 0 (.global 28) (.const (I 0)) 0) 1,
        op 30 (.move (.global 29)) 1,
        op 31 (.move (.tmp 7)) 1 (some (121, false)),
        op 32 (.binOp .lss 0 (.global 31) (.const (I 0)) 0) 1 (some (121, false)),
        op 33 (.pick (.global 30) (.const (B true)) (.global 32))])
      (.cond (.tmp 33)
        (.seq (reg [op 2 (.move (.const (S []))),
          op 3 (.move (.const (B false)))])
        .ret)
        .skip))
      (reg [op 34 (.move (.tmp 4)) 1,
        op 35 (.move (.tmp 6)) 1,
        op 36 (.binOp .mul 0 (.const (I 16)) (.global 35) 0) 1,
        op 37 (.move (.tmp 7)) 1,
        op 38 (.binOp .add 0 (.global 36) (.global 37) 0) 1,
        op 39 (.convert 0 4 (.global 38)) 1,
        op 40 (.buildSlice 1 1 #[(0, (.const (.agg #[(U 0)]))), (1, (.global 39))]) 1,
        op 41 (bi .append #[(.global 34), (.global 40)] 1) 1,
        op 4 (.move (.global 41))]))))
    (reg [op 17 (.move (.tmp 5)) 1,
      op 18 (.binOp .add 0 (.global 17) (.const (I 2)) 0) 1,
      op 5 (.move (.global 18))]))))))
(.seq (reg [op 42 (.move (.tmp 4)) 1,
  op 43 (.convert 0 21 (.global 42)) 1,
  op 2 (.move (.global 43)),
  op 3 (.move (.const (B true)))])
.ret))))), [(2, 0), (3, 0)]⟩

/-- spec.ReadHex -/
def fn411 : AFun := ⟨1,
(.seq (reg [op 2 (.move (.const (S []))),
  op 3 (.move (.const (B false)))])
(.seq (.seq (reg [op 8 (.move (.tmp 0)) 1,
  op 9 (bi .len #[(.global 8)] 0) 1,
  op 10 (.binOp .rem 0 (.global 9) (.const (I 2)) 0) 1,
  op 11 (.binOp .eql 0 (.global 10) (.const (I 1)) 0)])
(.cond (.tmp 11)
  (.seq (reg [op 2 (.move (.const (S []))),
    op 3 (.move (.const (B false)))])
  .ret)
  .skip))
(.seq (reg [op 12 (.move (.const (sl 0 0 0 1))) 1,
  op 4 (.move (.global 12))])
(.seq (.seq (reg [op 5 (.move (.const (I 0)))])
(.block 0
  (.loop
    (.seq (.seq (reg [op 13 (.move (.tmp 5)) 1,
      op 14 (.move (.tmp 0)) 1,
      op 15 (bi .len #[(.global 14)] 0) 1,
      op 16 (.binOp .lss 0 (.global 13) (.global 15) 0)])
    (.cond (.tmp 16)
      .skip
      (.exit 0)))
    (.seq (.block 1
      (.seq (reg [op 19 (.move (.tmp 0)) 1,
        op 20 (.move (.tmp 5)) 1,
        op 21 (.index 0 (.global 19) (.global 20)) 1,
        op 22 (call (.func 567) #[(.global 21)]) 1,
        op 6 (.move (.global 22))])
      (.seq (reg [op 23 (.move (.tmp 0)) 1,
        op 24 (.move (.tmp 5)) 1,
        op 25 (.binOp .add 0 (.global 24) (.const (I 1)) 0) 1,
        op 26 (.index 0 (.global 23) (.global 25)) 1,
        op 27 (call (.func 567) #[(.global 26)]) 1,
        op 7 (.move (.global 27))])
      (.seq (.seq (reg [op 28 (.move (.tmp 6)) 1,
        op 29 (.binOp .lss 0 (.global 28) (.const (I 0)) 0) 1,
        op 30 (.move (.global 29)) 1,
        op 31 (.move (.tmp 7)) 1 (some (121, false)),
        op 32 (.binOp .lss 0 (.global 31) (.const (I 0)) 0) 1 (some (121, false)),
        op 33 (.pick (.global 30) (.const (B true)) (.global 32))])
      (.cond (.tmp 33)
        (.seq (reg [op 2 (.move (.const (S []))),
          op 3 (.move (.const (B false)))])
        .ret)
        .skip))
      (reg [op 34 (.move (.tmp 4)) 1,
        op 35 (.move (.tmp 6)) 1,
        op 36 (.binOp .mul 0 (.const (I 16)) (.global 35) 0) 1,
        op 37 (.move (.tmp 7)) 1,
        op 38 (.binOp .add 0 (.global 36) (.global 37) 0) 1,
        op 39 (.convert 0 4 (.global 38)) 1,
        op 40 (.buildSlice 1 1 #[(0, (.const (.agg #[(U 0)]))), (1, (.global 39))]) 1,
        op 41 (bi .append #[(.global 34), (.global 40)] 1) 1,
        op 4 (.move (.global 41))])))))
    (reg [op 17 (.move (.tmp 5)) 1,
      op 18 (.binOp .add 0 (.global 17) (.const (I 2)) 0) 1,
      op 5 (.move (.global 18))]))))))
(.seq (reg [op 42 (.move (.tmp 4)) 1,
  op 43 (.convert 0 21 (.global 42)) 1,
  op 2 (.move (.global 43)),
  op 3 (.move (.const (B true)))])
.ret))))), [(2, 0), (3, 0)]⟩

/-- spec.SamePanel -/
def fn420 : AFun := ⟨2,
(.seq (reg [op 2 (.box 3 (.tmp 0)),
  op 3 (.box 3 (.tmp 1)),
  op 4 (.move (.const (B false)))])
(.seq (reg [op 5 (call (.func 456) #[(.tmp 2), (.tmp 3)]) 1,
  op 4 (.move (.global 5))])
.ret)), [(4, 0)]⟩

/-- spec.ImageFault -/
def fn381 : AFun := ⟨1,
(.seq (reg [op 2 (.move (.const (I 0)))])
(.seq (reg [op 6 (.move (.tmp 0)) 1,
  op 7 (call (.func 574) #[(.global 6)]) 1,
  op 5 (.move (.global 7)) 1,
  op 8 (.extract (.global 5) 0) 1,
  op 9 (.extract (.global 5) 1) 1,
  op 3 (.move (.const (.agg #[(I 0), (I 0), (sl 0 0 0 0)]))),
  op 3 (.insert 3 (.tmp 3) (.tmp 3) (.global 8)),
  op 4 (.move (.global 9))])
(.seq (reg [op 10 (.move (.tmp 4)) 1,
  op 2 (.move (.global 10))])
.ret))), [(2, 0)]⟩

/-- impl.ChecksumOf -/
def fn64 : AFun := ⟨1,
(.seq (reg [op 2 (.move (.const (I 0)))])
(.seq (reg [op 3 (.move (.const (I 1))),
  op 4 (.move (.const (I 0)))])
(.seq (.seq (reg [op 6 (.move (.tmp 0)) 1,
  op 7 (bi .len #[(.global 6)] 0),
  op 8 (.move (.const (I 0)))])
(.block 0
  (.loop
    (.seq (reg [op 9 (.binOp .lss 0 (.tmp 8) (.tmp 7) 0)])
    (.seq (.cond (.tmp 9)
      .skip
      (.exit 0))
    (.seq (.block 1
      (.seq (reg [op 10 (.move (.tmp 8)) 1,
        op 5 (.move (.global 10))])
      (.seq (reg [op 11 (.move (.tmp 3)) 1,
        op 12 (.move (.tmp 0)) 1,
        op 13 (.move (.tmp 5)) 1,
        op 14 (.index 0 (.global 12) (.global 13)) 1,
        op 15 (.convert 0 3 (.global 14)) 1,
        op 16 (.binOp .add 0 (.global 11) (.global 15) 0) 1,
        op 17 (.binOp .rem 0 (.global 16) (.const (I 251)) 0) 1,
        op 3 (.move (.global 17))])
      (reg [op 18 (.move (.tmp 4)) 1,
        op 19 (.move (.tmp 3)) 1,
        op 20 (.binOp .add 0 (.global 18) (.global 19) 0) 1,
        op 21 (.binOp .rem 0 (.global 20) (.const (I 251)) 0) 1,
        op 4 (.move (.global 21))]))))
    (reg [op 22 (.binOp .add 0 (.tmp 8) (.const (I 1)) 0) 1,
      op 8 (.move (.global 22))])))))))
(.seq (reg [op 23 (.move (.tmp 4)) 1,
  op 24 (.binOp .mul 0 (.const (I 256)) (.global 23) 0) 1,
  op 25 (.move (.tmp 3)) 1,
  op 26 (.binOp .add 0 (.global 24) (.global 25) 0) 1,
  op 2 (.move (.global 26))])
.ret)))), [(2, 0)]⟩

/-- spec.ChecksumOf -/
def fn333 : AFun := ⟨1,
(.seq (reg [op 2 (.move (.const (I 0)))])
(.seq (reg [op 3 (.move (.tmp 0)) 1,
  op 4 (call (.func 573) #[(.global 3)]) 1,
  op 2 (.move (.global 4))])
.ret)), [(2, 0)]⟩

/-- impl.HexText -/
def fn87 : AFun := ⟨1,
(.seq (reg [op 2 (.move (.const (S [])))])
(.seq (reg [op 5 (.move (.const (sl 0 0 0 1))) 1,
  op 3 (.move (.global 5))])
(.seq (.seq (reg [op 6 (.move (.tmp 0)) 1,
  op 7 (bi .len #[(.global 6)] 0),
  op 8 (.move (.const (I 0)))])
(.block 0
  (.loop
    (.seq (reg [op 9 (.binOp .lss 0 (.tmp 8) (.tmp 7) 0)])
    (.seq (.cond (.tmp 9)
      .skip
      (.exit 0))
    (.seq (.block 1
      (.seq (reg [op 10 (.move (.tmp 8)) 1,
        op 4 (.move (.global 10))])
      (reg [op 11 (.move (.tmp 3)) 1,
        op 12 (.move (.tmp 0)) 1,
        op 13 (.move (.tmp 4)) 1,
        op 14 (.index 0 (.global 12) (.global 13)) 1,
        op 15 (.binOp .quo 0 (.global 14) (.const (U 16)) 0) 1,
        op 16 (.index 0 (.const (S [48, 49, 50, 51, 52, 53, 54, 55, 56, 57, 97, 98, 99, 100, 101, 102])) (.global 15)) 1,
        op 17 (.move (.tmp 0)) 1,
        op 18 (.move (.tmp 4)) 1,
        op 19 (.index 0 (.global 17) (.global 18)) 1,
        op 20 (.binOp .rem 0 (.global 19) (.const (U 16)) 0) 1,
        op 21 (.index 0 (.const (S [48, 49, 50, 51, 52, 53, 54, 55, 56, 57, 97, 98, 99, 100, 101, 102])) (.global 20)) 1,
        op 22 (.buildSlice 1 2 #[(0, (.const (.agg #[(U 0), (U 0)]))), (1, (.global 16)), (1001, (.global 21))]) 1,
        op 23 (bi .append #[(.global 11), (.global 22)] 1) 1,
        op 3 (.move (.global 23))])))
    (reg [op 24 (.binOp .add 0 (.tmp 8) (.const (I 1)) 0) 1,
      op 8 (.move (.global 24))])))))))
(.seq (reg [op 25 (.move (.tmp 3)) 1,
  op 26 (.convert 0 21 (.global 25)) 1,
  op 2 (.move (.global 26))])
.ret)))), [(2, 0)]⟩

/-- spec.HexText -/
def fn380 : AFun := ⟨1,
(.seq (reg [op 2 (.move (.const (S [])))])
(.seq (reg [op 3 (.move (.const (S [48, 49, 50, 51, 52, 53, 54, 55, 56, 57, 97, 98, 99, 100, 101, 102])))])
(.seq (reg [op 6 (.move (.const (sl 0 0 0 1))) 1,
  op 4 (.move (.global 6))])
(.seq (.seq (reg [op 5 (.move (.const (I 0)))])
(.block 0
  (.loop
    (.seq (.seq (reg [op 7 (.move (.tmp 5)) 1,
      op 8 (.move (.tmp 0)) 1,
      op 9 (bi .len #[(.global 8)] 0) 1,
      op 10 (.binOp .lss 0 (.global 7) (.global 9) 0)])
    (.cond (.tmp 10)
      .skip
      (.exit 0)))
    (.seq (.block 1
      (reg [op 13 (.move (.tmp 4)) 1,
        op 14 (.move (.tmp 3)) 1,
        op 15 (.move (.tmp 0)) 1,
        op 16 (.move (.tmp 5)) 1,
        op 17 (.index 0 (.global 15) (.global 16)) 1,
        op 18 (.binOp .quo 0 (.global 17) (.const (U 16)) 0) 1,
        op 19 (.index 0 (.global 14) (.global 18)) 1,
        op 20 (.move (.tmp 3)) 1,
        op 21 (.move (.tmp 0)) 1,
        op 22 (.move (.tmp 5)) 1,
        op 23 (.index 0 (.global 21) (.global 22)) 1,
        op 24 (.binOp .rem 0 (.global 23) (.const (U 16)) 0) 1,
        op 25 (.index 0 (.global 20) (.global 24)) 1,
        op 26 (.buildSlice 1 2 #[(0, (.const (.agg #[(U 0), (U 0)]))), (1, (.global 19)), (1001, (.global 25))]) 1,
        op 27 (bi .append #[(.global 13), (.global 26)] 1) 1,
        op 4 (.move (.global 27))]))
    (reg [op 11 (.move (.tmp 5)) 1,
      op 12 (.binOp .add 0 (.global 11) (.const (I 1)) 0) 1,
      op 5 (.move (.global 12))]))))))
(.seq (reg [op 28 (.move (.tmp 4)) 1,
  op 29 (.convert 0 21 (.global 28)) 1,
  op 2 (.move (.global 29))])
.ret))))), [(2, 0)]⟩

/-- spec.l02Bent -/
def fn443 : AFun := ⟨1,
(.seq (reg [op 2 (.move (.const (.agg #[(I 0), (I 0), (sl 0 0 0 0)])))])
(.seq (reg [op 4 (.move (.tmp 0)) 1,
  op 5 (call (.func 445) #[(.global 4), (.const (I 5))]) 1,
  op 3 (.move (.const (.agg #[(I 0), (I 0), (sl 0 0 0 0)]))),
  op 3 (.insert 3 (.tmp 3) (.tmp 3) (.global 5))])
(.seq (.seq (reg [op 6 (.move (.tmp 0)) 1,
  op 7 (call (.func 7) #[(.global 6), (.const (I 20))])])
(.block 0
  (.seq (reg [op 9 (.binOp .eql 0 (.tmp 7) (.const (I 0)) 0) 1,
    op 8 (.move (.global 9))])
  (.cond (.tmp 8)
    (reg [op 10 (.move (.tmp 0)) 1,
      op 11 (.buildSlice 1 4 #[(0, (.const (.agg #[(I 0), (I 0), (I 0), (I 0)]))), (1, (.const (I 0))), (1001, (.const (I 8))), (2001, (.const (I 9))), (3001, (.const (I (-9223372036854775808))))]) 1,
      op 12 (call (.func 4) #[(.global 10), (.global 11)]) 1,
      op 13 (.fieldAddr 0 (.tmp 3) 1) 1,
      op 3 (.insert 1 (.tmp 3) (.global 13) (.global 12))])
    (.seq (reg [op 15 (.binOp .eql 0 (.tmp 7) (.const (I 1)) 0) 1,
      op 14 (.move (.global 15))])
    (.cond (.tmp 14)
      (reg [op 16 (.fieldAddr 2 (.tmp 3) 1) 1,
        op 17 (.lookup 0 (.tmp 3) (.global 16) false) 1,
        op 18 (.buildSlice 1 1 #[(0, (.const (.agg #[(I 0)]))), (1, (.const (I 0)))]) 1,
        op 19 (bi .append #[(.global 17), (.global 18)] 1) 1,
        op 20 (.fieldAddr 2 (.tmp 3) 1) 1,
        op 3 (.insert 1 (.tmp 3) (.global 20) (.global 19))])
      (.seq (reg [op 22 (.binOp .eql 0 (.tmp 7) (.const (I 2)) 0) 1,
        op 21 (.move (.global 22))])
      (.cond (.tmp 21)
        (.seq (reg [op 23 (.fieldAddr 2 (.tmp 3) 1) 1,
          op 24 (.lookup 0 (.tmp 3) (.global 23) false) 1,
          op 25 (bi .len #[(.global 24)] 1) 1,
          op 26 (.binOp .gtr 0 (.global 25) (.const (I 0)) 0)])
        (.cond (.tmp 26)
          (reg [op 27 (.fieldAddr 2 (.tmp 3) 1) 1,
            op 28 (.lookup 0 (.tmp 3) (.global 27) false) 1,
            op 29 (.move (.tmp 0)) 1,
            op 30 (.fieldAddr 2 (.tmp 3) 1) 1,
            op 31 (.lookup 0 (.tmp 3) (.global 30) false) 1,
            op 32 (bi .len #[(.global 31)] 1) 1,
            op 33 (call (.func 7) #[(.global 29), (.global 32)]) 1,
            op 34 (.move (.tmp 0)) 1,
            op 35 (.buildSlice 1 3 #[(0, (.const (.agg #[(I 0), (I 0), (I 0)]))), (1, (.const (I (-1)))), (1001, (.const (I 2))), (2001, (.const (I 3)))]) 1,
            op 36 (call (.func 4) #[(.global 34), (.global 35)]) 1,
            op 37 (.indexAddr 3 (.global 28) (.global 33)) 1,
            opn (.store 1 (.global 37) (.global 36))])
          .skip))
        (.seq (reg [op 39 (.binOp .eql 0 (.tmp 7) (.const (I 3)) 0) 1,
          op 38 (.move (.global 39))])
        (.cond (.tmp 38)
          (reg [op 40 (call (.func 450) #[(.const (I 8)), (.const (I 8))]) 1,
            op 3 (.insert 3 (.tmp 3) (.tmp 3) (.global 40))])
          .skip))))))))))
(.seq (reg [op 41 (.lookup 4 (.tmp 3) (.tmp 3) false) 1,
  op 2 (.insert 3 (.tmp 2) (.tmp 2) (.global 41))])
.ret)))), [(2, 1000004)]⟩

/-- spec.l00From -/
def fn431 : AFun := ⟨1,
(.seq (reg [op 2 (.move (.const (.pointer none)))])
(.seq (reg [op 3 (.move (.tmp 0)) 1,
  op 4 (.build 0 #[(0, (.const (.agg #[(sl 0 0 0 0), (I 0), (.int .u64 0)]))), (1, (.global 3))]) 1,
  op 5 (.box 3 (.global 4)) 1,
  op 2 (.move (.global 5))])
.ret)), [(2, 0)]⟩

/-- impl.ValidPanel -/
def fn140 : AFun := ⟨1,
(.seq (reg [op 1 (.makeChan 3 (.tmp 0)),
  op 2 (.move (.const (B false)))])
(.seq (.seq (reg [op 5 (.fieldAddr 0 (.tmp 1) 1) 1,
  op 6 (.lookup 0 (.tmp 1) (.global 5) false) 1,
  op 7 (.fieldAddr 1 (.tmp 1) 1) 1,
  op 8 (.lookup 0 (.tmp 1) (.global 7) false) 1,
  op 9 (call (.func 198) #[(.global 6), (.global 8)]) 1,
  op 10 (.unOp .not 0 (.global 9)) 1,
  op 11 (.move (.global 10)) 1,
  op 12 (.fieldAddr 2 (.tmp 1) 1) 1 (some (45, false)),
  op 13 (.lookup 0 (.tmp 1) (.global 12) false) 1 (some (45, false)),
  op 14 (bi .len #[(.global 13)] 1) 1 (some (45, false)),
  op 15 (.fieldAddr 0 (.tmp 1) 1) 1 (some (45, false)),
  op 16 (.lookup 0 (.tmp 1) (.global 15) false) 1 (some (45, false)),
  op 17 (.fieldAddr 1 (.tmp 1) 1) 1 (some (45, false)),
  op 18 (.lookup 0 (.tmp 1) (.global 17) false) 1 (some (45, false)),
  op 19 (call (.func 166) #[(.global 16), (.global 18)]) 1 (some (45, false)),
  op 20 (.binOp .neq 0 (.global 14) (.global 19) 0) 1 (some (45, false)),
  op 21 (.pick (.global 11) (.const (B true)) (.global 20))])
(.cond (.tmp 21)
  (.seq (reg [op 2 (.move (.const (B false)))])
  .ret)
  .skip))
(.seq (.seq (reg [op 22 (.fieldAddr 2 (.tmp 1) 1) 1,
  op 23 (.lookup 0 (.tmp 1) (.global 22) false),
  op 24 (bi .len #[(.tmp 23)] 1),
  op 25 (.move (.const (I 0)))])
(.block 0
  (.loop
    (.seq (reg [op 26 (.binOp .lss 0 (.tmp 25) (.tmp 24) 0)])
    (.seq (.cond (.tmp 26)
      .skip
      (.exit 0))
    (.seq (.block 1
      (.seq (reg [op 27 (.indexAddr 3 (.tmp 23) (.tmp 25)) 1,
        op 28 (.load 0 (.global 27)) 1,
        op 4 (.move (.global 28))])
      (.seq (reg [op 29 (.move (.tmp 4)) 1,
        op 30 (call (.func 196) #[(.global 29)]) 1,
        op 31 (.unOp .not 0 (.global 30))])
      (.cond (.tmp 31)
        (.seq (reg [op 2 (.move (.const (B false)))])
        .ret)
        .skip))))
    (reg [op 32 (.binOp .add 0 (.tmp 25) (.const (I 1)) 0) 1,
      op 25 (.move (.global 32))])))))))
(.seq (reg [op 2 (.move (.const (B true)))])
.ret)))), [(2, 0)]⟩

/-- impl.packPanel -/
def fn180 : AFun := ⟨1,
(.seq (reg [op 1 (.makeChan 3 (.tmp 0)),
  op 2 (.move (.const (S [])))])
(.seq (reg [op 7 (.fieldAddr 0 (.tmp 1) 1) 1,
  op 8 (.lookup 0 (.tmp 1) (.global 7) false) 1,
  op 9 (.convert 0 4 (.global 8)) 1,
  op 10 (.fieldAddr 1 (.tmp 1) 1) 1,
  op 11 (.lookup 0 (.tmp 1) (.global 10) false) 1,
  op 12 (.convert 0 4 (.global 11)) 1,
  op 13 (.buildSlice 1 3 #[(0, (.const (.agg #[(U 0), (U 0), (U 0)]))), (1, (.const (U 77))), (1001, (.global 9)), (2001, (.global 12))]) 1,
  op 3 (.move (.global 13))])
(.seq (.seq (reg [op 4 (.move (.const (I 0)))])
(.block 0
  (.loop
    (.seq (.seq (reg [op 14 (.move (.tmp 4)) 1,
      op 15 (.fieldAddr 2 (.tmp 1) 1) 1,
      op 16 (.lookup 0 (.tmp 1) (.global 15) false) 1,
      op 17 (bi .len #[(.global 16)] 1) 1,
      op 18 (.binOp .lss 0 (.global 14) (.global 17) 0)])
    (.cond (.tmp 18)
      .skip
      (.exit 0)))
    (.seq (.block 1
      (.seq (reg [op 5 (.move (.const (U 0)))])
      (.seq (.seq (reg [op 21 (.move (.tmp 4)) 1,
        op 6 (.move (.global 21))])
      (.block 2
        (.loop
          (.seq (.seq (reg [op 22 (.move (.tmp 6)) 1,
            op 23 (.move (.tmp 4)) 1,
            op 24 (.binOp .add 0 (.global 23) (.const (I 5)) 0) 1,
            op 25 (.binOp .lss 0 (.global 22) (.global 24) 0)])
          (.cond (.tmp 25)
            .skip
            (.exit 2)))
          (.seq (.block 3
            (.seq (reg [op 28 (.move (.tmp 5)) 1,
              op 29 (.binOp .mul 0 (.global 28) (.const (U 3)) 0) 1,
              op 5 (.move (.global 29))])
            (.seq (reg [op 30 (.move (.tmp 6)) 1,
              op 31 (.fieldAddr 2 (.tmp 1) 1) 1,
              op 32 (.lookup 0 (.tmp 1) (.global 31) false) 1,
              op 33 (bi .len #[(.global 32)] 1) 1,
              op 34 (.binOp .lss 0 (.global 30) (.global 33) 0)])
            (.cond (.tmp 34)
              (reg [op 35 (.move (.tmp 5)) 1,
                op 36 (.fieldAddr 2 (.tmp 1) 1) 1,
                op 37 (.lookup 0 (.tmp 1) (.global 36) false) 1,
                op 38 (.move (.tmp 6)) 1,
                op 39 (.indexAddr 3 (.global 37) (.global 38)) 1,
                op 40 (.load 0 (.global 39)) 1,
                op 41 (.convert 0 4 (.global 40)) 1,
                op 42 (.binOp .add 0 (.global 35) (.global 41) 0) 1,
                op 5 (.move (.global 42))])
              .skip))))
          (reg [op 26 (.move (.tmp 6)) 1,
            op 27 (.binOp .add 0 (.global 26) (.const (I 1)) 0) 1,
            op 6 (.move (.global 27))]))))))
      (reg [op 43 (.move (.tmp 3)) 1,
        op 44 (.move (.tmp 5)) 1,
        op 45 (.buildSlice 1 1 #[(0, (.const (.agg #[(U 0)]))), (1, (.global 44))]) 1,
        op 46 (bi .append #[(.global 43), (.global 45)] 1) 1,
        op 3 (.move (.global 46))]))))
    (reg [op 19 (.move (.tmp 4)) 1,
      op 20 (.binOp .add 0 (.global 19) (.const (I 5)) 0) 1,
      op 4 (.move (.global 20))]))))))
(.seq (reg [op 47 (.move (.tmp 3)) 1,
  op 48 (.convert 0 21 (.global 47)) 1,
  op 49 (call (.func 191) #[(.global 48)]) 1,
  op 2 (.move (.global 49))])
.ret)))), [(2, 0)]⟩

/-- spec.l02Ok -/
def fn452 : AFun := ⟨1,
(.seq (reg [op 2 (.move (.const (B false)))])
(.seq (.seq (reg [op 4 (.move (.tmp 0)) 1,
  op 5 (.nilCheck (.global 4)) 1,
  op 6 (.fieldAddr 0 (.global 5) 0) 1,
  op 7 (.load 0 (.global 6)) 1,
  op 8 (call (.func 457) #[(.global 7)]) 1,
  op 9 (.unOp .not 0 (.global 8)) 1,
  op 10 (.move (.global 9)) 1,
  op 11 (.move (.tmp 0)) 1 (some (41, false)),
  op 12 (.nilCheck (.global 11)) 1 (some (41, false)),
  op 13 (.fieldAddr 1 (.global 12) 0) 1 (some (41, false)),
  op 14 (.load 0 (.global 13)) 1 (some (41, false)),
  op 15 (call (.func 457) #[(.global 14)]) 1 (some (41, false)),
  op 16 (.unOp .not 0 (.global 15)) 1 (some (41, false)),
  op 17 (.pick (.global 10) (.const (B true)) (.global 16)) 1,
  op 18 (.move (.global 17)) 1,
  op 19 (.move (.tmp 0)) 1 (some (73, false)),
  op 20 (.nilCheck (.global 19)) 1 (some (73, false)),
  op 21 (.fieldAddr 2 (.global 20) 0) 1 (some (73, false)),
  op 22 (.load 0 (.global 21)) 1 (some (73, false)),
  op 23 (bi .len #[(.global 22)] 1) 1 (some (73, false)),
  op 24 (.move (.tmp 0)) 1 (some (73, false)),
  op 25 (.nilCheck (.global 24)) 1 (some (73, false)),
  op 26 (.fieldAddr 0 (.global 25) 0) 1 (some (73, false)),
  op 27 (.load 0 (.global 26)) 1 (some (73, false)),
  op 28 (.move (.tmp 0)) 1 (some (73, false)),
  op 29 (.nilCheck (.global 28)) 1 (some (73, false)),
  op 30 (.fieldAddr 1 (.global 29) 0) 1 (some (73, false)),
  op 31 (.load 0 (.global 30)) 1 (some (73, false)),
  op 32 (call (.func 448) #[(.global 27), (.global 31)]) 3 (some (73, false)),
  op 33 (.binOp .neq 0 (.global 23) (.global 32) 0) 1 (some (73, false)),
  op 34 (.pick (.global 18) (.const (B true)) (.global 33))])
(.cond (.tmp 34)
  (.seq (reg [op 2 (.move (.const (B false)))])
  .ret)
  .skip))
(.seq (.seq (reg [op 3 (.move (.const (I 0)))])
(.block 0
  (.loop
    (.seq (.seq (reg [op 35 (.move (.tmp 3)) 1,
      op 36 (.move (.tmp 0)) 1,
      op 37 (.nilCheck (.global 36)) 1,
      op 38 (.fieldAddr 2 (.global 37) 0) 1,
      op 39 (.load 0 (.global 38)) 1,
      op 40 (bi .len #[(.global 39)] 1) 1,
      op 41 (.binOp .lss 0 (.global 35) (.global 40) 0)])
    (.cond (.tmp 41)
      .skip
      (.exit 0)))
    (.seq (.block 1
      (.seq (reg [op 44 (.move (.tmp 0)) 1,
        op 45 (.nilCheck (.global 44)) 1,
        op 46 (.fieldAddr 2 (.global 45) 0) 1,
        op 47 (.load 0 (.global 46)) 1,
        op 48 (.move (.tmp 3)) 1,
        op 49 (.indexAddr 3 (.global 47) (.global 48)) 1,
        op 50 (.load 0 (.global 49)) 1,
        op 51 (call (.func 432) #[(.global 50), (.const (I 0)), (.const (I 2))]) 1,
        op 52 (.unOp .not 0 (.global 51))])
      (.cond (.tmp 52)
        (.seq (reg [op 2 (.move (.const (B false)))])
        .ret)
        .skip)))
    (reg [op 42 (.move (.tmp 3)) 1,
      op 43 (.binOp .add 0 (.global 42) (.const (I 1)) 0) 1,
      op 3 (.move (.global 43))]))))))
(.seq (reg [op 2 (.move (.const (B true)))])
.ret)))), [(2, 0)]⟩

/-- spec.l27Pack -/
def fn571 : AFun := ⟨1,
(.seq (reg [op 2 (.move (.const (S [])))])
(.seq (reg [op 7 (.move (.tmp 0)) 1,
  op 8 (.nilCheck (.global 7)) 1,
  op 9 (.fieldAddr 0 (.global 8) 0) 1,
  op 10 (.load 0 (.global 9)) 1,
  op 11 (.convert 0 4 (.global 10)) 1,
  op 12 (.move (.tmp 0)) 1,
  op 13 (.nilCheck (.global 12)) 1,
  op 14 (.fieldAddr 1 (.global 13) 0) 1,
  op 15 (.load 0 (.global 14)) 1,
  op 16 (.convert 0 4 (.global 15)) 1,
  op 17 (.buildSlice 1 3 #[(0, (.const (.agg #[(U 0), (U 0), (U 0)]))), (1, (.const (U 77))), (1001, (.global 11)), (2001, (.global 16))]) 1,
  op 3 (.move (.global 17))])
(.seq (.seq (reg [op 4 (.move (.const (I 0)))])
(.block 0
  (.loop
    (.seq (.seq (reg [op 18 (.move (.tmp 4)) 1,
      op 19 (.move (.tmp 0)) 1,
      op 20 (.nilCheck (.global 19)) 1,
      op 21 (.fieldAddr 2 (.global 20) 0) 1,
      op 22 (.load 0 (.global 21)) 1,
      op 23 (bi .len #[(.global 22)] 1) 1,
      op 24 (.binOp .lss 0 (.global 18) (.global 23) 0)])
    (.cond (.tmp 24)
      .skip
      (.exit 0)))
    (.seq (.block 1
      (.seq (reg [op 5 (.move (.const (I 0)))])
      (.seq (.seq (reg [op 27 (.move (.tmp 4)) 1,
        op 6 (.move (.global 27))])
      (.block 2
        (.loop
          (.seq (.seq (reg [op 28 (.move (.tmp 6)) 1,
            op 29 (.move (.tmp 4)) 1,
            op 30 (.binOp .add 0 (.global 29) (.const (I 5)) 0) 1,
            op 31 (.binOp .lss 0 (.global 28) (.global 30) 0)])
          (.cond (.tmp 31)
            .skip
            (.exit 2)))
          (.seq (.block 3
            (.seq (reg [op 34 (.move (.tmp 5)) 1,
              op 35 (.binOp .mul 0 (.global 34) (.const (I 3)) 0) 1,
              op 5 (.move (.global 35))])
            (.seq (reg [op 36 (.move (.tmp 6)) 1,
              op 37 (.move (.tmp 0)) 1,
              op 38 (.nilCheck (.global 37)) 1,
              op 39 (.fieldAddr 2 (.global 38) 0) 1,
              op 40 (.load 0 (.global 39)) 1,
              op 41 (bi .len #[(.global 40)] 1) 1,
              op 42 (.binOp .lss 0 (.global 36) (.global 41) 0)])
            (.cond (.tmp 42)
              (reg [op 43 (.move (.tmp 5)) 1,
                op 44 (.move (.tmp 0)) 1,
                op 45 (.nilCheck (.global 44)) 1,
                op 46 (.fieldAddr 2 (.global 45) 0) 1,
                op 47 (.load 0 (.global 46)) 1,
                op 48 (.move (.tmp 6)) 1,
                op 49 (.indexAddr 3 (.global 47) (.global 48)) 1,
                op 50 (.load 0 (.global 49)) 1,
                op 51 (.binOp .add 0 (.global 43) (.global 50) 0) 1,
                op 5 (.move (.global 51))])
              .skip))))
          (reg [op 32 (.move (.tmp 6)) 1,
            op 33 (.binOp .add 0 (.global 32) (.const (I 1)) 0) 1,
            op 6 (.move (.global 33))]))))))
      (reg [op 52 (.move (.tmp 3)) 1,
        op 53 (.move (.tmp 5)) 1,
        op 54 (.convert 0 4 (.global 53)) 1,
        op 55 (.buildSlice 1 1 #[(0, (.const (.agg #[(U 0)]))), (1, (.global 54))]) 1,
        op 56 (bi .append #[(.global 52), (.global 55)] 1) 1,
        op 3 (.move (.global 56))]))))
    (reg [op 25 (.move (.tmp 4)) 1,
      op 26 (.binOp .add 0 (.global 25) (.const (I 5)) 0) 1,
      op 4 (.move (.global 26))]))))))
(.seq (reg [op 57 (.move (.tmp 3)) 1,
  op 58 (call (.func 568) #[(.global 57)]) 1,
  op 2 (.move (.global 58))])
.ret)))), [(2, 0)]⟩

/-- spec.l27Bytes -/
def fn565 : AFun := ⟨1,
(.seq (reg [op 2 (.move (.const (S [])))])
(.seq (reg [op 7 (.move (.tmp 0)) 1,
  op 8 (call (.func 445) #[(.global 7), (.const (I 4))]) 1,
  op 3 (.box 3 (.const (.agg #[(I 0), (I 0), (sl 0 0 0 0)]))),
  opn (.store 3 (.tmp 3) (.global 8))])
(.seq (reg [op 9 (call (.func 571) #[(.tmp 3)]) 1,
  op 10 (.convert 0 20 (.global 9)) 1,
  op 4 (.move (.global 10))])
(.seq (reg [op 11 (.move (.tmp 0)) 1,
  op 12 (.move (.tmp 4)) 1,
  op 13 (bi .len #[(.global 12)] 1) 1,
  op 14 (call (.func 7) #[(.global 11), (.global 13)]) 1,
  op 5 (.move (.global 14))])
(.seq (.seq (reg [op 15 (.move (.tmp 0)) 1,
  op 16 (call (.func 7) #[(.global 15), (.const (I 8))])])
(.block 0
  (.seq (reg [op 18 (.binOp .eql 0 (.tmp 16) (.const (I 0)) 0) 1,
    op 17 (.move (.global 18))])
  (.cond (.tmp 17)
    (reg [op 19 (.move (.tmp 4)) 1,
      op 20 (.move (.tmp 5)) 1,
      op 21 (.move (.tmp 0)) 1,
      op 22 (call (.func 7) #[(.global 21), (.const (I 256))]) 1,
      op 23 (.convert 0 4 (.global 22)) 1,
      op 24 (.indexAddr 3 (.global 19) (.global 20)) 1,
      opn (.store 1 (.global 24) (.global 23))])
    (.seq (reg [op 26 (.binOp .eql 0 (.tmp 16) (.const (I 1)) 0) 1,
      op 25 (.move (.global 26))])
    (.cond (.tmp 25)
      (.seq (reg [op 27 (.move (.tmp 4)) 1,
        op 28 (.move (.tmp 5)) 1,
        op 29 (.slice 3 (.global 27) none (some (.global 28)) none) 1,
        op 30 (.convert 0 21 (.global 29)) 1,
        op 2 (.move (.global 30))])
      .ret)
      (.seq (reg [op 32 (.binOp .eql 0 (.tmp 16) (.const (I 2)) 0) 1,
        op 31 (.move (.global 32))])
      (.cond (.tmp 31)
        (.seq (reg [op 33 (.move (.tmp 4)) 1,
          op 34 (.buildSlice 1 1 #[(0, (.const (.agg #[(U 0)]))), (1, (.const (U 0)))]) 1,
          op 35 (bi .append #[(.global 33), (.global 34)] 1) 1,
          op 36 (.convert 0 21 (.global 35)) 1,
          op 2 (.move (.global 36))])
        .ret)
        (.seq (reg [op 38 (.binOp .eql 0 (.tmp 16) (.const (I 3)) 0) 1,
          op 37 (.move (.global 38))])
        (.cond (.tmp 37)
          (.seq (reg [op 39 (.move (.tmp 4)) 1,
            op 40 (bi .len #[(.global 39)] 1) 1,
            op 6 (.move (.global 40))])
          (.seq (reg [op 41 (.move (.tmp 4)) 1,
            op 42 (.move (.tmp 0)) 1,
            op 43 (.move (.tmp 6)) 1,
            op 44 (.binOp .sub 0 (.global 43) (.const (I 2)) 0) 1,
            op 45 (call (.func 7) #[(.global 42), (.global 44)]) 1,
            op 46 (.move (.tmp 0)) 1,
            op 47 (call (.func 7) #[(.global 46), (.const (I 256))]) 1,
            op 48 (.convert 0 4 (.global 47)) 1,
            op 49 (.indexAddr 3 (.global 41) (.global 45)) 1,
            opn (.store 1 (.global 49) (.global 48))])
          (.seq (reg [op 50 (.move (.tmp 4)) 1,
            op 51 (.move (.tmp 6)) 1,
            op 52 (.binOp .sub 0 (.global 51) (.const (I 2)) 0) 1,
            op 53 (.slice 3 (.global 50) none (some (.global 52)) none) 1,
            op 54 (call (.func 568) #[(.global 53)]) 1,
            op 2 (.move (.global 54))])
          .ret)))
          .skip))))))))))
(.seq (reg [op 55 (.move (.tmp 4)) 1,
  op 56 (.convert 0 21 (.global 55)) 1,
  op 2 (.move (.global 56))])
.ret)))))), [(2, 0)]⟩

/-- impl.unpackPanel -/
def fn195 : AFun := ⟨1,
(.seq (reg [op 2 (.move (.const (.agg #[(I 0), (I 0), (sl 0 0 0 0)]))),
  op 3 (.move (.const (B false)))])
(.seq (.seq (reg [op 7 (.move (.tmp 0)) 1,
  op 8 (bi .len #[(.global 7)] 0) 1,
  op 9 (.binOp .lss 0 (.global 8) (.const (I 5)) 0) 1,
  op 10 (.move (.global 9)) 1,
  op 11 (.move (.tmp 0)) 1 (some (41, false)),
  op 12 (.index 0 (.global 11) (.const (I 1))) 1 (some (41, false)),
  op 13 (.convert 0 3 (.global 12)) 1 (some (41, false)),
  op 14 (.move (.tmp 0)) 1 (some (41, false)),
  op 15 (.index 0 (.global 14) (.const (I 2))) 1 (some (41, false)),
  op 16 (.convert 0 3 (.global 15)) 1 (some (41, false)),
  op 17 (call (.func 198) #[(.global 13), (.global 16)]) 1 (some (41, false)),
  op 18 (.unOp .not 0 (.global 17)) 1 (some (41, false)),
  op 19 (.pick (.global 10) (.const (B true)) (.global 18)) 1,
  op 20 (.move (.global 19)) 1,
  op 21 (.move (.tmp 0)) 1 (some (81, false)),
  op 22 (bi .len #[(.global 21)] 0) 1 (some (81, false)),
  op 23 (.move (.tmp 0)) 1 (some (81, false)),
  op 24 (.index 0 (.global 23) (.const (I 1))) 1 (some (81, false)),
  op 25 (.convert 0 3 (.global 24)) 1 (some (81, false)),
  op 26 (.move (.tmp 0)) 1 (some (81, false)),
  op 27 (.index 0 (.global 26) (.const (I 2))) 1 (some (81, false)),
  op 28 (.convert 0 3 (.global 27)) 1 (some (81, false)),
  op 29 (call (.func 181) #[(.global 25), (.global 28)]) 1 (some (81, false)),
  op 30 (.binOp .neq 0 (.global 22) (.global 29) 0) 1 (some (81, false)),
  op 31 (.pick (.global 20) (.const (B true)) (.global 30))])
(.cond (.tmp 31)
  (.seq (reg [op 32 (.build 0 #[(0, (.const (.agg #[(I 0), (I 0), (sl 0 0 0 0)])))]) 1,
    op 2 (.insert 3 (.tmp 2) (.tmp 2) (.global 32)),
    op 3 (.move (.const (B false)))])
  .ret)
  .skip))
(.seq (reg [op 33 (.move (.tmp 0)) 1,
  op 34 (.index 0 (.global 33) (.const (I 1))) 1,
  op 35 (.convert 0 3 (.global 34)) 1,
  op 36 (.move (.tmp 0)) 1,
  op 37 (.index 0 (.global 36) (.const (I 2))) 1,
  op 38 (.convert 0 3 (.global 37)) 1,
  op 39 (call (.func 177) #[(.global 35), (.global 38)]) 1,
  op 4 (.move (.const (.agg #[(I 0), (I 0), (sl 0 0 0 0)]))),
  op 4 (.insert 3 (.tmp 4) (.tmp 4) (.global 39))])
(.seq (.seq (reg [op 40 (.fieldAddr 2 (.tmp 4) 1) 1,
  op 41 (.lookup 0 (.tmp 4) (.global 40) false) 1,
  op 42 (bi .len #[(.global 41)] 1),
  op 43 (.move (.const (I 0)))])
(.block 0
  (.loop
    (.seq (reg [op 44 (.binOp .lss 0 (.tmp 43) (.tmp 42) 0)])
    (.seq (.cond (.tmp 44)
      .skip
      (.exit 0))
    (.seq (.block 1
      (.seq (reg [op 45 (.move (.tmp 43)) 1,
        op 5 (.move (.global 45))])
      (.seq (reg [op 46 (.move (.tmp 0)) 1,
        op 47 (.move (.tmp 5)) 1,
        op 48 (.binOp .quo 0 (.global 47) (.const (I 5)) 0) 1,
        op 49 (.binOp .add 0 (.const (I 3)) (.global 48) 0) 1,
        op 50 (.index 0 (.global 46) (.global 49)) 1,
        op 51 (.convert 0 3 (.global 50)) 1,
        op 6 (.move (.global 51))])
      (.seq (.seq (reg [op 52 (.move (.tmp 5)) 1,
        op 53 (.binOp .rem 0 (.global 52) (.const (I 5)) 0) 1,
        op 54 (.binOp .sub 0 (.const (I 4)) (.global 53) 0),
        op 55 (.move (.const (I 0)))])
      (.block 2
        (.loop
          (.seq (reg [op 56 (.binOp .lss 0 (.tmp 55) (.tmp 54) 0)])
          (.seq (.cond (.tmp 56)
            .skip
            (.exit 2))
          (.seq (.block 3
            (reg [op 57 (.move (.tmp 6)) 1,
              op 58 (.binOp .quo 0 (.global 57) (.const (I 3)) 0) 1,
              op 6 (.move (.global 58))]))
          (reg [op 59 (.binOp .add 0 (.tmp 55) (.const (I 1)) 0) 1,
            op 55 (.move (.global 59))])))))))
      (reg [op 60 (.fieldAddr 2 (.tmp 4) 1) 1,
        op 61 (.lookup 0 (.tmp 4) (.global 60) false) 1,
        op 62 (.move (.tmp 5)) 1,
        op 63 (.move (.tmp 6)) 1,
        op 64 (.binOp .rem 0 (.global 63) (.const (I 3)) 0) 1,
        op 65 (.indexAddr 3 (.global 61) (.global 62)) 1,
        opn (.store 1 (.global 65) (.global 64))])))))
    (reg [op 66 (.binOp .add 0 (.tmp 43) (.const (I 1)) 0) 1,
      op 43 (.move (.global 66))])))))))
(.seq (reg [op 67 (.lookup 4 (.tmp 4) (.tmp 4) false) 1,
  op 68 (.lookup 4 (.tmp 4) (.tmp 4) false) 1,
  op 69 (call (.func 180) #[(.global 68)]) 1,
  op 70 (.move (.tmp 0)) 1,
  op 71 (.binOp .eql 0 (.global 69) (.global 70) 0) 1,
  op 2 (.insert 3 (.tmp 2) (.tmp 2) (.global 67)),
  op 3 (.move (.global 71))])
.ret))))), [(2, 1000004), (3, 0)]⟩

/-- spec.l27Unpack -/
def fn574 : AFun := ⟨1,
(.seq (reg [op 2 (.move (.const (.agg #[(I 0), (I 0), (sl 0 0 0 0)]))),
  op 3 (.move (.const (I 0)))])
(.seq (.seq (reg [op 11 (.move (.tmp 0)) 1,
  op 12 (bi .len #[(.global 11)] 0) 1,
  op 13 (.binOp .lss 0 (.global 12) (.const (I 5)) 0) 1,
  op 14 (.move (.global 13)) 1,
  op 15 (.move (.tmp 0)) 1 (some (57, false)),
  op 16 (.index 0 (.global 15) (.const (I 0))) 1 (some (57, false)),
  op 17 (.binOp .neq 0 (.global 16) (.const (U 77)) 0) 1 (some (57, false)),
  op 18 (.pick (.global 14) (.const (B true)) (.global 17)) 1,
  op 19 (.move (.global 18)) 1,
  op 20 (.move (.tmp 0)) 1 (some (77, false)),
  op 21 (.index 0 (.global 20) (.const (I 1))) 1 (some (77, false)),
  op 22 (.convert 0 3 (.global 21)) 1 (some (77, false)),
  op 23 (call (.func 457) #[(.global 22)]) 1 (some (77, false)),
  op 24 (.unOp .not 0 (.global 23)) 1 (some (77, false)),
  op 25 (.pick (.global 19) (.const (B true)) (.global 24)) 1,
  op 26 (.move (.global 25)) 1,
  op 27 (.move (.tmp 0)) 1 (some (105, false)),
  op 28 (.index 0 (.global 27) (.const (I 2))) 1 (some (105, false)),
  op 29 (.convert 0 3 (.global 28)) 1 (some (105, false)),
  op 30 (call (.func 457) #[(.global 29)]) 1 (some (105, false)),
  op 31 (.unOp .not 0 (.global 30)) 1 (some (105, false)),
  op 32 (.pick (.global 26) (.const (B true)) (.global 31))])
(.cond (.tmp 32)
  (.seq (reg [op 33 (.build 0 #[(0, (.const (.agg #[(I 0), (I 0), (sl 0 0 0 0)])))]) 1,
    op 2 (.insert 3 (.tmp 2) (.tmp 2) (.global 33)),
    op 3 (.move (.const (I 1)))])
  .ret)
  .skip))
(.seq (reg [op 34 (.move (.tmp 0)) 1,
  op 35 (.index 0 (.global 34) (.const (I 1))) 1,
  op 36 (.convert 0 3 (.global 35)) 1,
  op 4 (.move (.global 36))])
(.seq (reg [op 37 (.move (.tmp 0)) 1,
  op 38 (.index 0 (.global 37) (.const (I 2))) 1,
  op 39 (.convert 0 3 (.global 38)) 1,
  op 5 (.move (.global 39))])
(.seq (.seq (reg [op 40 (.move (.tmp 0)) 1,
  op 41 (bi .len #[(.global 40)] 0) 1,
  op 42 (.move (.tmp 4)) 1,
  op 43 (.move (.tmp 5)) 1,
  op 44 (call (.func 572) #[(.global 42), (.global 43)]) 1,
  op 45 (.binOp .neq 0 (.global 41) (.global 44) 0)])
(.cond (.tmp 45)
  (.seq (reg [op 46 (.build 0 #[(0, (.const (.agg #[(I 0), (I 0), (sl 0 0 0 0)])))]) 1,
    op 2 (.insert 3 (.tmp 2) (.tmp 2) (.global 46)),
    op 3 (.move (.const (I 2)))])
  .ret)
  .skip))
(.seq (.seq (reg [op 47 (.move (.tmp 0)) 1,
  op 48 (call (.func 566) #[(.global 47)]) 1,
  op 49 (.unOp .not 0 (.global 48))])
(.cond (.tmp 49)
  (.seq (reg [op 50 (.build 0 #[(0, (.const (.agg #[(I 0), (I 0), (sl 0 0 0 0)])))]) 1,
    op 2 (.insert 3 (.tmp 2) (.tmp 2) (.global 50)),
    op 3 (.move (.const (I 3)))])
  .ret)
  .skip))
(.seq (reg [op 51 (.move (.tmp 4)) 1,
  op 52 (.move (.tmp 5)) 1,
  op 53 (call (.func 450) #[(.global 51), (.global 52)]) 1,
  op 6 (.box 3 (.const (.agg #[(I 0), (I 0), (sl 0 0 0 0)]))),
  opn (.store 3 (.tmp 6) (.global 53))])
(.seq (.seq (reg [op 7 (.move (.const (I 3)))])
(.block 0
  (.loop
    (.seq (.seq (reg [op 54 (.move (.tmp 7)) 1,
      op 55 (.move (.tmp 0)) 1,
      op 56 (bi .len #[(.global 55)] 0) 1,
      op 57 (.binOp .sub 0 (.global 56) (.const (I 2)) 0) 1,
      op 58 (.binOp .lss 0 (.global 54) (.global 57) 0)])
    (.cond (.tmp 58)
      .skip
      (.exit 0)))
    (.seq (.block 1
      (.seq (reg [op 61 (.move (.tmp 0)) 1,
        op 62 (.move (.tmp 7)) 1,
        op 63 (.index 0 (.global 61) (.global 62)) 1,
        op 64 (.convert 0 3 (.global 63)) 1,
        op 8 (.move (.global 64))])
      (.seq (reg [op 9 (.move (.const (I 4)))])
      (.block 2
        (.loop
          (.seq (.seq (reg [op 65 (.move (.tmp 9)) 1,
            op 66 (.binOp .geq 0 (.global 65) (.const (I 0)) 0)])
          (.cond (.tmp 66)
            .skip
            (.exit 2)))
          (.seq (.block 3
            (.seq (reg [op 69 (.move (.tmp 7)) 1,
              op 70 (.binOp .sub 0 (.global 69) (.const (I 3)) 0) 1,
              op 71 (.binOp .mul 0 (.const (I 5)) (.global 70) 0) 1,
              op 72 (.move (.tmp 9)) 1,
              op 73 (.binOp .add 0 (.global 71) (.global 72) 0) 1,
              op 10 (.move (.global 73))])
            (.seq (.seq (reg [op 74 (.move (.tmp 10)) 1,
              op 75 (.fieldAddr 2 (.tmp 6) 0) 1,
              op 76 (.load 0 (.global 75)) 1,
              op 77 (bi .len #[(.global 76)] 1) 1,
              op 78 (.binOp .lss 0 (.global 74) (.global 77) 0)])
            (.cond (.tmp 78)
              (reg [op 79 (.fieldAddr 2 (.tmp 6) 0) 1,
                op 80 (.load 0 (.global 79)) 1,
                op 81 (.move (.tmp 10)) 1,
                op 82 (.move (.tmp 8)) 1,
                op 83 (.binOp .rem 0 (.global 82) (.const (I 3)) 0) 1,
                op 84 (.indexAddr 3 (.global 80) (.global 81)) 1,
                opn (.store 1 (.global 84) (.global 83))])
              .skip))
            (reg [op 85 (.move (.tmp 8)) 1,
              op 86 (.binOp .quo 0 (.global 85) (.const (I 3)) 0) 1,
              op 8 (.move (.global 86))]))))
          (reg [op 67 (.move (.tmp 9)) 1,
            op 68 (.binOp .sub 0 (.global 67) (.const (I 1)) 0) 1,
            op 9 (.move (.global 68))]))))))))
    (reg [op 59 (.move (.tmp 7)) 1,
      op 60 (.binOp .add 0 (.global 59) (.const (I 1)) 0) 1,
      op 7 (.move (.global 60))]))))))
(.seq (.seq (reg [op 87 (call (.func 571) #[(.tmp 6)]) 1,
  op 88 (.move (.tmp 0)) 1,
  op 89 (.binOp .neq 0 (.global 87) (.global 88) 0)])
(.cond (.tmp 89)
  (.seq (reg [op 90 (.build 0 #[(0, (.const (.agg #[(I 0), (I 0), (sl 0 0 0 0)])))]) 1,
    op 2 (.insert 3 (.tmp 2) (.tmp 2) (.global 90)),
    op 3 (.move (.const (I 4)))])
  .ret)
  .skip))
(.seq (reg [op 91 (.load 4 (.tmp 6)) 1,
  op 2 (.insert 3 (.tmp 2) (.tmp 2) (.global 91)),
  op 3 (.move (.const (I 0)))])
.ret)))))))))), [(2, 1000004), (3, 0)]⟩

/-- impl.validSize -/
def fn198 : AFun := ⟨2,
(.seq (reg [op 4 (.move (.const (B false)))])
(.seq (reg [op 5 (.move (.tmp 0)) 1,
  op 6 (call (.func 164) #[(.global 5), (.const (I 1)), (.const (I 8))]) 1,
  op 7 (.move (.global 6)) 1,
  op 8 (.move (.tmp 1)) 1 (some (29, true)),
  op 9 (call (.func 164) #[(.global 8), (.const (I 1)), (.const (I 8))]) 1 (some (29, true)),
  op 10 (.pick (.global 7) (.global 9) (.const (B false))) 1,
  op 4 (.move (.global 10))])
.ret)), [(4, 0)]⟩

/-- impl.packedSize -/
def fn181 : AFun := ⟨2,
(.seq (reg [op 4 (.move (.const (I 0)))])
(.seq (reg [op 5 (.move (.tmp 0)) 1,
  op 6 (.move (.tmp 1)) 1,
  op 7 (call (.func 166) #[(.global 5), (.global 6)]) 1,
  op 8 (.binOp .add 0 (.global 7) (.const (I 4)) 0) 1,
  op 9 (.binOp .quo 0 (.global 8) (.const (I 5)) 0) 1,
  op 10 (.binOp .add 0 (.const (I 5)) (.global 9) 0) 1,
  op 4 (.move (.global 10))])
.ret)), [(4, 0)]⟩

/-- impl.summed -/
def fn191 : AFun := ⟨1,
(.seq (reg [op 2 (.move (.const (S [])))])
(.seq (reg [op 4 (.move (.tmp 0)) 1,
  op 5 (call (.func 64) #[(.global 4)]) 1,
  op 3 (.move (.global 5))])
(.seq (reg [op 6 (.move (.tmp 0)) 1,
  op 7 (.move (.tmp 3)) 1,
  op 8 (.binOp .quo 0 (.global 7) (.const (I 256)) 0) 1,
  op 9 (.convert 0 4 (.global 8)) 1,
  op 10 (.move (.tmp 3)) 1,
  op 11 (.binOp .rem 0 (.global 10) (.const (I 256)) 0) 1,
  op 12 (.convert 0 4 (.global 11)) 1,
  op 13 (.buildSlice 1 2 #[(0, (.const (.agg #[(U 0), (U 0)]))), (1, (.global 9)), (1001, (.global 12))]) 1,
  op 14 (.convert 0 21 (.global 13)) 1,
  op 15 (.binOp .add 0 (.global 6) (.global 14) 0) 1,
  op 2 (.move (.global 15))])
.ret))), [(2, 0)]⟩

/-- (*spec.l00Src).pick -/
def fn7 : AFun := ⟨2,
(.seq (reg [op 4 (.move (.const (I 0)))])
(.seq (.seq (reg [op 6 (.move (.tmp 1)) 1,
  op 7 (.binOp .leq 0 (.global 6) (.const (I 1)) 0)])
(.cond (.tmp 7)
  (.seq (reg [op 4 (.move (.const (I 0)))])
  .ret)
  .skip))
(.seq (reg [op 8 (.move (.tmp 0)) 1,
  op 9 (call (.func 5) #[(.global 8)]) 1,
  op 5 (.move (.global 9))])
(.seq (.seq (reg [op 10 (.move (.tmp 1)) 1,
  op 11 (.binOp .gtr 0 (.global 10) (.const (I 200)) 0)])
(.cond (.tmp 11)
  (reg [op 12 (.move (.tmp 5)) 1,
    op 13 (.binOp .mul 0 (.global 12) (.const (I 256)) 0) 1,
    op 14 (.move (.tmp 0)) 1,
    op 15 (call (.func 5) #[(.global 14)]) 1,
    op 16 (.binOp .add 0 (.global 13) (.global 15) 0) 1,
    op 5 (.move (.global 16))])
  .skip))
(.seq (reg [op 17 (.move (.tmp 5)) 1,
  op 18 (.move (.tmp 1)) 1,
  op 19 (.binOp .rem 0 (.global 17) (.global 18) 0) 1,
  op 4 (.move (.global 19))])
.ret))))), [(4, 0)]⟩

/-- spec.l02Side -/
def fn457 : AFun := ⟨1,
(.seq (reg [op 2 (.move (.const (B false)))])
(.seq (reg [op 3 (.move (.tmp 0)) 1,
  op 4 (call (.func 432) #[(.global 3), (.const (I 1)), (.const (I 8))]) 1,
  op 2 (.move (.global 4))])
.ret)), [(2, 0)]⟩

/-- spec.l27Size -/
def fn572 : AFun := ⟨2,
(.seq (reg [op 4 (.move (.const (I 0)))])
(.seq (reg [op 5 (.move (.tmp 0)) 1,
  op 6 (.move (.tmp 1)) 1,
  op 7 (call (.func 448) #[(.global 5), (.global 6)]) 1,
  op 8 (.binOp .add 0 (.global 7) (.const (I 4)) 0) 1,
  op 9 (.binOp .quo 0 (.global 8) (.const (I 5)) 0) 1,
  op 10 (.binOp .add 0 (.const (I 3)) (.global 9) 0) 1,
  op 11 (.binOp .add 0 (.global 10) (.const (I 2)) 0) 1,
  op 4 (.move (.global 11))])
.ret)), [(4, 0)]⟩

/-- (*spec.l00Src).one -/
def fn6 : AFun := ⟨2,
(.seq (reg [op 4 (.move (.const (B false)))])
(.seq (reg [op 5 (.move (.tmp 0)) 1,
  op 6 (.move (.tmp 1)) 1,
  op 7 (call (.func 7) #[(.global 5), (.global 6)]) 1,
  op 8 (.binOp .eql 0 (.global 7) (.const (I 0)) 0) 1,
  op 4 (.move (.global 8))])
.ret)), [(4, 0)]⟩

/-- spec.l01Spoil -/
def fn442 : AFun := ⟨2,
(.seq (reg [op 4 (.move (.const (S [])))])
(.seq (.seq (reg [op 7 (.move (.tmp 0)) 1,
  op 8 (call (.func 7) #[(.global 7), (.const (I 5))])])
(.block 0
  (.seq (reg [op 10 (.binOp .eql 0 (.tmp 8) (.const (I 0)) 0) 1,
    op 9 (.move (.global 10))])
  (.cond (.tmp 9)
    (.seq (reg [op 11 (.move (.tmp 0)) 1,
      op 12 (.move (.tmp 1)) 1,
      op 13 (bi .len #[(.global 12)] 0) 1,
      op 14 (.binOp .add 0 (.global 13) (.const (I 1)) 0) 1,
      op 15 (call (.func 7) #[(.global 11), (.global 14)]) 1,
      op 5 (.move (.global 15))])
    (reg [op 16 (.move (.tmp 1)) 1,
      op 17 (.move (.tmp 5)) 1,
      op 18 (.slice 0 (.global 16) none (some (.global 17)) none) 1,
      op 19 (.move (.tmp 0)) 1,
      op 20 (.buildSlice 1 7 #[(0, (.const (.agg #[(S []), (S []), (S []), (S []), (S []), (S []), (S [])]))), (1, (.const (S [32]))), (1001, (.const (S [48]))), (2001, (.const (S [45]))), (3001, (.const (S [120]))), (4001, (.const (S [49]))), (5001, (.const (S [57]))), (6001, (.const (S [46])))]) 1,
      op 21 (call (.func 8) #[(.global 19), (.global 20)]) 1,
      op 22 (.binOp .add 0 (.global 18) (.global 21) 0) 1,
      op 23 (.move (.tmp 1)) 1,
      op 24 (.move (.tmp 5)) 1,
      op 25 (.slice 0 (.global 23) (some (.global 24)) none none) 1,
      op 26 (.binOp .add 0 (.global 22) (.global 25) 0) 1,
      op 1 (.move (.global 26))]))
    (.seq (reg [op 28 (.binOp .eql 0 (.tmp 8) (.const (I 1)) 0) 1,
      op 27 (.move (.global 28))])
    (.cond (.tmp 27)
      (.seq (reg [op 29 (.move (.tmp 1)) 1,
        op 30 (.binOp .neq 0 (.global 29) (.const (S [])) 0)])
      (.cond (.tmp 30)
        (.seq (reg [op 31 (.move (.tmp 0)) 1,
          op 32 (.move (.tmp 1)) 1,
          op 33 (bi .len #[(.global 32)] 0) 1,
          op 34 (call (.func 7) #[(.global 31), (.global 33)]) 1,
          op 6 (.move (.global 34))])
        (reg [op 35 (.move (.tmp 1)) 1,
          op 36 (.move (.tmp 6)) 1,
          op 37 (.slice 0 (.global 35) none (some (.global 36)) none) 1,
          op 38 (.move (.tmp 1)) 1,
          op 39 (.move (.tmp 6)) 1,
          op 40 (.binOp .add 0 (.global 39) (.const (I 1)) 0) 1,
          op 41 (.slice 0 (.global 38) (some (.global 40)) none none) 1,
          op 42 (.binOp .add 0 (.global 37) (.global 41) 0) 1,
          op 1 (.move (.global 42))]))
        .skip))
      .skip))))))
(.seq (reg [op 43 (.move (.tmp 1)) 1,
  op 4 (.move (.global 43))])
.ret))), [(4, 0)]⟩

/-- impl.placeOf -/
def fn183 : AFun := ⟨3,
(.seq (reg [op 6 (.move (.const (I 0)))])
(.seq (.seq (reg [op 8 (.move (.tmp 2)) 1,
  op 7 (.move (.global 8))])
(.block 0
  (.loop
    (.seq (.seq (reg [op 9 (.move (.tmp 7)) 1,
      op 10 (.move (.tmp 0)) 1,
      op 11 (bi .len #[(.global 10)] 0) 1,
      op 12 (.binOp .lss 0 (.global 9) (.global 11) 0)])
    (.cond (.tmp 12)
      .skip
      (.exit 0)))
    (.seq (.block 1
      (.seq (reg [op 15 (.move (.tmp 0)) 1,
        op 16 (.move (.tmp 7)) 1,
        op 17 (.index 0 (.global 15) (.global 16)) 1,
        op 18 (.move (.tmp 1)) 1,
        op 19 (.binOp .eql 0 (.global 17) (.global 18) 0)])
      (.cond (.tmp 19)
        (.seq (reg [op 20 (.move (.tmp 7)) 1,
          op 6 (.move (.global 20))])
        .ret)
        .skip)))
    (reg [op 13 (.move (.tmp 7)) 1,
      op 14 (.binOp .add 0 (.global 13) (.const (I 1)) 0) 1,
      op 7 (.move (.global 14))]))))))
(.seq (reg [op 6 (.move (.const (I (-1))))])
.ret))), [(6, 0)]⟩

/-- spec.l27Digit -/
def fn567 : AFun := ⟨1,
(.seq (reg [op 2 (.move (.const (I 0)))])
(.seq (.block 0
  (.seq (reg [op 4 (.move (.tmp 0)) 1,
    op 5 (.binOp .geq 0 (.global 4) (.const (U 48)) 0) 1,
    op 6 (.move (.global 5)) 1,
    op 7 (.move (.tmp 0)) 1 (some (25, true)),
    op 8 (.binOp .leq 0 (.global 7) (.const (U 57)) 0) 1 (some (25, true)),
    op 9 (.pick (.global 6) (.global 8) (.const (B false))) 1,
    op 3 (.move (.global 9))])
  (.cond (.tmp 3)
    (.seq (reg [op 10 (.move (.tmp 0)) 1,
      op 11 (.binOp .sub 0 (.global 10) (.const (U 48)) 0) 1,
      op 12 (.convert 0 3 (.global 11)) 1,
      op 2 (.move (.global 12))])
    .ret)
    (.seq (reg [op 14 (.move (.tmp 0)) 1,
      op 15 (.binOp .geq 0 (.global 14) (.const (U 97)) 0) 1,
      op 16 (.move (.global 15)) 1,
      op 17 (.move (.tmp 0)) 1 (some (65, true)),
      op 18 (.binOp .leq 0 (.global 17) (.const (U 102)) 0) 1 (some (65, true)),
      op 19 (.pick (.global 16) (.global 18) (.const (B false))) 1,
      op 13 (.move (.global 19))])
    (.cond (.tmp 13)
      (.seq (reg [op 20 (.move (.tmp 0)) 1,
        op 21 (.binOp .sub 0 (.global 20) (.const (U 97)) 0) 1,
        op 22 (.convert 0 3 (.global 21)) 1,
        op 23 (.binOp .add 0 (.global 22) (.const (I 10)) 0) 1,
        op 2 (.move (.global 23))])
      .ret)
      .skip)))))
(.seq (reg [op 2 (.move (.const (I (-1))))])
.ret))), [(2, 0)]⟩

/-- spec.l02Same -/
def fn456 : AFun := ⟨2,
(.seq (reg [op 4 (.move (.const (B false)))])
(.seq (reg [op 5 (.move (.tmp 0)) 1,
  op 6 (.nilCheck (.global 5)) 1,
  op 7 (.fieldAddr 0 (.global 6) 0) 1,
  op 8 (.load 0 (.global 7)) 1,
  op 9 (.move (.tmp 1)) 1,
  op 10 (.nilCheck (.global 9)) 1,
  op 11 (.fieldAddr 0 (.global 10) 0) 1,
  op 12 (.load 0 (.global 11)) 1,
  op 13 (.binOp .eql 0 (.global 8) (.global 12) 0) 1,
  op 14 (.move (.global 13)) 1,
  op 15 (.move (.tmp 0)) 1 (some (57, true)),
  op 16 (.nilCheck (.global 15)) 1 (some (57, true)),
  op 17 (.fieldAddr 1 (.global 16) 0) 1 (some (57, true)),
  op 18 (.load 0 (.global 17)) 1 (some (57, true)),
  op 19 (.move (.tmp 1)) 1 (some (57, true)),
  op 20 (.nilCheck (.global 19)) 1 (some (57, true)),
  op 21 (.fieldAddr 1 (.global 20) 0) 1 (some (57, true)),
  op 22 (.load 0 (.global 21)) 1 (some (57, true)),
  op 23 (.binOp .eql 0 (.global 18) (.global 22) 0) 1 (some (57, true)),
  op 24 (.pick (.global 14) (.global 23) (.const (B false))) 1,
  op 25 (.move (.global 24)) 1,
  op 26 (.move (.tmp 0)) 1 (some (101, true)),
  op 27 (.nilCheck (.global 26)) 1 (some (101, true)),
  op 28 (.fieldAddr 2 (.global 27) 0) 1 (some (101, true)),
  op 29 (.load 0 (.global 28)) 1 (some (101, true)),
  op 30 (.move (.tmp 1)) 1 (some (101, true)),
  op 31 (.nilCheck (.global 30)) 1 (some (101, true)),
  op 32 (.fieldAddr 2 (.global 31) 0) 1 (some (101, true)),
  op 33 (.load 0 (.global 32)) 1 (some (101, true)),
  op 34 (call (.func 436) #[(.global 29), (.global 33)]) 1 (some (101, true)),
  op 35 (.pick (.global 25) (.global 34) (.const (B false))) 1,
  op 4 (.move (.global 35))])
.ret)), [(4, 0)]⟩

/-- spec.l27Sum -/
def fn573 : AFun := ⟨1,
(.seq (reg [op 2 (.move (.const (I 0)))])
(.seq (reg [op 3 (.move (.const (I 1)))])
(.seq (reg [op 4 (.move (.const (I 0)))])
(.seq (.seq (reg [op 5 (.move (.const (I 0)))])
(.block 0
  (.loop
    (.seq (.seq (reg [op 6 (.move (.tmp 5)) 1,
      op 7 (.move (.tmp 0)) 1,
      op 8 (bi .len #[(.global 7)] 0) 1,
      op 9 (.binOp .lss 0 (.global 6) (.global 8) 0)])
    (.cond (.tmp 9)
      .skip
      (.exit 0)))
    (.seq (.block 1
      (.seq (reg [op 12 (.move (.tmp 3)) 1,
        op 13 (.move (.tmp 0)) 1,
        op 14 (.move (.tmp 5)) 1,
        op 15 (.index 0 (.global 13) (.global 14)) 1,
        op 16 (.convert 0 3 (.global 15)) 1,
        op 17 (.binOp .add 0 (.global 12) (.global 16) 0) 1,
        op 18 (.binOp .rem 0 (.global 17) (.const (I 251)) 0) 1,
        op 3 (.move (.global 18))])
      (reg [op 19 (.move (.tmp 4)) 1,
        op 20 (.move (.tmp 3)) 1,
        op 21 (.binOp .add 0 (.global 19) (.global 20) 0) 1,
        op 22 (.binOp .rem 0 (.global 21) (.const (I 251)) 0) 1,
        op 4 (.move (.global 22))])))
    (reg [op 10 (.move (.tmp 5)) 1,
      op 11 (.binOp .add 0 (.global 10) (.const (I 1)) 0) 1,
      op 5 (.move (.global 11))]))))))
(.seq (reg [op 23 (.move (.tmp 4)) 1,
  op 24 (.binOp .mul 0 (.const (I 256)) (.global 23) 0) 1,
  op 25 (.move (.tmp 3)) 1,
  op 26 (.binOp .add 0 (.global 24) (.global 25) 0) 1,
  op 2 (.move (.global 26))])
.ret))))), [(2, 0)]⟩

/-- impl.validBreak -/
def fn196 : AFun := ⟨1,
(.seq (reg [op 2 (.move (.const (B false)))])
(.seq (reg [op 3 (.move (.tmp 0)) 1,
  op 4 (call (.func 164) #[(.global 3), (.const (I 0)), (.const (I 2))]) 1,
  op 2 (.move (.global 4))])
.ret)), [(2, 0)]⟩

/-- impl.inRange -/
def fn164 : AFun := ⟨3,
(.seq (reg [op 6 (.move (.const (B false)))])
(.seq (reg [op 7 (.move (.tmp 0)) 1,
  op 8 (.move (.tmp 1)) 1,
  op 9 (.binOp .geq 0 (.global 7) (.global 8) 0) 1,
  op 10 (.move (.global 9)) 1,
  op 11 (.move (.tmp 0)) 1 (some (41, true)),
  op 12 (.move (.tmp 2)) 1 (some (41, true)),
  op 13 (.binOp .leq 0 (.global 11) (.global 12) 0) 1 (some (41, true)),
  op 14 (.pick (.global 10) (.global 13) (.const (B false))) 1,
  op 6 (.move (.global 14))])
.ret)), [(6, 0)]⟩

/-- spec.l00In -/
def fn432 : AFun := ⟨3,
(.seq (reg [op 6 (.move (.const (B false)))])
(.seq (reg [op 7 (.move (.tmp 0)) 1,
  op 8 (.move (.tmp 1)) 1,
  op 9 (.binOp .geq 0 (.global 7) (.global 8) 0) 1,
  op 10 (.move (.global 9)) 1,
  op 11 (.move (.tmp 0)) 1 (some (41, true)),
  op 12 (.move (.tmp 2)) 1 (some (41, true)),
  op 13 (.binOp .leq 0 (.global 11) (.global 12) 0) 1 (some (41, true)),
  op 14 (.pick (.global 10) (.global 13) (.const (B false))) 1,
  op 6 (.move (.global 14))])
.ret)), [(6, 0)]⟩

/-- (*spec.l00Src).text -/
def fn8 : AFun := ⟨2,
(.seq (reg [op 4 (.move (.const (S [])))])
(.seq (reg [op 5 (.move (.tmp 1)) 1,
  op 6 (.move (.tmp 0)) 1,
  op 7 (.move (.tmp 1)) 1,
  op 8 (bi .len #[(.global 7)] 1) 1,
  op 9 (call (.func 7) #[(.global 6), (.global 8)]) 1,
  op 10 (.indexAddr 3 (.global 5) (.global 9)) 1,
  op 11 (.load 0 (.global 10)) 1,
  op 4 (.move (.global 11))])
.ret)), [(4, 0)]⟩

/-- spec.l02Draw -/
def fn445 : AFun := ⟨2,
(.seq (reg [op 4 (.move (.const (.agg #[(I 0), (I 0), (sl 0 0 0 0)])))])
(.seq (reg [op 9 (.move (.tmp 0)) 1,
  op 10 (.move (.tmp 1)) 1,
  op 11 (call (.func 7) #[(.global 9), (.global 10)]) 1,
  op 12 (.binOp .add 0 (.const (I 1)) (.global 11) 0) 1,
  op 5 (.move (.global 12))])
(.seq (reg [op 13 (.move (.tmp 5)) 1,
  op 14 (.move (.tmp 0)) 1,
  op 15 (.move (.tmp 1)) 1,
  op 16 (call (.func 7) #[(.global 14), (.global 15)]) 1,
  op 17 (.binOp .add 0 (.const (I 1)) (.global 16) 0) 1,
  op 18 (call (.func 450) #[(.global 13), (.global 17)]) 1,
  op 6 (.move (.const (.agg #[(I 0), (I 0), (sl 0 0 0 0)]))),
  op 6 (.insert 3 (.tmp 6) (.tmp 6) (.global 18))])
(.seq (reg [op 19 (.move (.tmp 0)) 1,
  op 20 (call (.func 7) #[(.global 19), (.const (I 4))]) 1,
  op 7 (.move (.global 20))])
(.seq (.seq (reg [op 8 (.move (.const (I 0)))])
(.block 0
  (.loop
    (.seq (.seq (reg [op 21 (.move (.tmp 8)) 1,
      op 22 (.fieldAddr 2 (.tmp 6) 1) 1,
      op 23 (.lookup 0 (.tmp 6) (.global 22) false) 1,
      op 24 (bi .len #[(.global 23)] 1) 1,
      op 25 (.binOp .lss 0 (.global 21) (.global 24) 0)])
    (.cond (.tmp 25)
      .skip
      (.exit 0)))
    (.seq (.block 1
      (.seq (reg [op 28 (.move (.tmp 0)) 1,
        op 29 (call (.func 7) #[(.global 28), (.const (I 4))]) 1,
        op 30 (.move (.tmp 7)) 1,
        op 31 (.binOp .lss 0 (.global 29) (.global 30) 0)])
      (.cond (.tmp 31)
        (reg [op 32 (.fieldAddr 2 (.tmp 6) 1) 1,
          op 33 (.lookup 0 (.tmp 6) (.global 32) false) 1,
          op 34 (.move (.tmp 8)) 1,
          op 35 (.move (.tmp 0)) 1,
          op 36 (call (.func 7) #[(.global 35), (.const (I 2))]) 1,
          op 37 (.binOp .add 0 (.const (I 1)) (.global 36) 0) 1,
          op 38 (.indexAddr 3 (.global 33) (.global 34)) 1,
          opn (.store 1 (.global 38) (.global 37))])
        .skip)))
    (reg [op 26 (.move (.tmp 8)) 1,
      op 27 (.binOp .add 0 (.global 26) (.const (I 1)) 0) 1,
      op 8 (.move (.global 27))]))))))
(.seq (reg [op 39 (.lookup 4 (.tmp 6) (.tmp 6) false) 1,
  op 4 (.insert 3 (.tmp 4) (.tmp 4) (.global 39))])
.ret)))))), [(4, 1000004)]⟩

/-- impl.newPanel -/
def fn177 : AFun := ⟨2,
(.seq (reg [op 4 (.move (.const (.agg #[(I 0), (I 0), (sl 0 0 0 0)])))])
(.seq (reg [op 5 (.move (.tmp 0)) 1,
  op 6 (.move (.tmp 1)) 1,
  op 7 (.move (.tmp 0)) 1,
  op 8 (.move (.tmp 1)) 1,
  op 9 (call (.func 166) #[(.global 7), (.global 8)]) 1,
  op 10 (.mapUpdate 1 (.global 9) (.global 9) (.const (.agg #[(I 0)]))) 1,
  op 11 (.build 0 #[(0, (.const (.agg #[(I 0), (I 0), (sl 0 0 0 0)]))), (1, (.global 5)), (1001, (.global 6)), (2001, (.global 10))]) 1,
  op 4 (.insert 3 (.tmp 4) (.tmp 4) (.global 11))])
.ret)), [(4, 1000004)]⟩

/-- spec.l02New -/
def fn450 : AFun := ⟨2,
(.seq (reg [op 4 (.move (.const (.agg #[(I 0), (I 0), (sl 0 0 0 0)])))])
(.seq (reg [op 5 (.move (.tmp 0)) 1,
  op 6 (.move (.tmp 1)) 1,
  op 7 (.move (.tmp 0)) 1,
  op 8 (.move (.tmp 1)) 1,
  op 9 (call (.func 448) #[(.global 7), (.global 8)]) 1,
  op 10 (.mapUpdate 1 (.global 9) (.global 9) (.const (.agg #[(I 0)]))) 1,
  op 11 (.build 0 #[(0, (.const (.agg #[(I 0), (I 0), (sl 0 0 0 0)]))), (1, (.global 5)), (1001, (.global 6)), (2001, (.global 10))]) 1,
  op 4 (.insert 3 (.tmp 4) (.tmp 4) (.global 11))])
.ret)), [(4, 1000004)]⟩

/-- (*spec.l00Src).among -/
def fn4 : AFun := ⟨2,
(.seq (reg [op 4 (.move (.const (I 0)))])
(.seq (reg [op 5 (.move (.tmp 1)) 1,
  op 6 (.move (.tmp 0)) 1,
  op 7 (.move (.tmp 1)) 1,
  op 8 (bi .len #[(.global 7)] 1) 1,
  op 9 (call (.func 7) #[(.global 6), (.global 8)]) 1,
  op 10 (.indexAddr 3 (.global 5) (.global 9)) 1,
  op 11 (.load 0 (.global 10)) 1,
  op 4 (.move (.global 11))])
.ret)), [(4, 0)]⟩

/-- impl.innerPoints -/
def fn166 : AFun := ⟨2,
(.seq (reg [op 4 (.move (.const (I 0)))])
(.seq (reg [op 5 (.move (.tmp 0)) 1,
  op 6 (.move (.tmp 1)) 1,
  op 7 (.binOp .sub 0 (.global 6) (.const (I 1)) 0) 1,
  op 8 (.binOp .mul 0 (.global 5) (.global 7) 0) 1,
  op 9 (.move (.tmp 1)) 1,
  op 10 (.move (.tmp 0)) 1,
  op 11 (.binOp .sub 0 (.global 10) (.const (I 1)) 0) 1,
  op 12 (.binOp .mul 0 (.global 9) (.global 11) 0) 1,
  op 13 (.binOp .add 0 (.global 8) (.global 12) 0) 1,
  op 4 (.move (.global 13))])
.ret)), [(4, 0)]⟩

/-- spec.l02Inner -/
def fn448 : AFun := ⟨2,
(.seq (reg [op 4 (.move (.const (I 0)))])
(.seq (reg [op 5 (.move (.tmp 0)) 1,
  op 6 (.move (.tmp 1)) 1,
  op 7 (.binOp .sub 0 (.global 6) (.const (I 1)) 0) 1,
  op 8 (.binOp .mul 0 (.global 5) (.global 7) 0) 1,
  op 9 (.move (.tmp 1)) 1,
  op 10 (.move (.tmp 0)) 1,
  op 11 (.binOp .sub 0 (.global 10) (.const (I 1)) 0) 1,
  op 12 (.binOp .mul 0 (.global 9) (.global 11) 0) 1,
  op 13 (.binOp .add 0 (.global 8) (.global 12) 0) 1,
  op 4 (.move (.global 13))])
.ret)), [(4, 0)]⟩

/-- spec.l27Ended -/
def fn568 : AFun := ⟨1,
(.seq (reg [op 2 (.move (.const (S [])))])
(.seq (reg [op 4 (.move (.tmp 0)) 1,
  op 5 (.convert 0 21 (.global 4)) 1,
  op 6 (call (.func 573) #[(.global 5)]) 1,
  op 3 (.move (.global 6))])
(.seq (reg [op 7 (.move (.tmp 0)) 1,
  op 8 (.move (.tmp 3)) 1,
  op 9 (.binOp .quo 0 (.global 8) (.const (I 256)) 0) 1,
  op 10 (.convert 0 4 (.global 9)) 1,
  op 11 (.move (.tmp 3)) 1,
  op 12 (.binOp .rem 0 (.global 11) (.const (I 256)) 0) 1,
  op 13 (.convert 0 4 (.global 12)) 1,
  op 14 (.buildSlice 1 2 #[(0, (.const (.agg #[(U 0), (U 0)]))), (1, (.global 10)), (1001, (.global 13))]) 1,
  op 15 (bi .append #[(.global 7), (.global 14)] 1) 1,
  op 16 (.convert 0 21 (.global 15)) 1,
  op 2 (.move (.global 16))])
.ret))), [(2, 0)]⟩

/-- spec.l27Checked -/
def fn566 : AFun := ⟨1,
(.seq (reg [op 2 (.move (.const (B false)))])
(.seq (reg [op 4 (.move (.tmp 0)) 1,
  op 5 (bi .len #[(.global 4)] 0) 1,
  op 3 (.move (.global 5))])
(.seq (.seq (reg [op 6 (.move (.tmp 3)) 1,
  op 7 (.binOp .lss 0 (.global 6) (.const (I 2)) 0)])
(.cond (.tmp 7)
  (.seq (reg [op 2 (.move (.const (B false)))])
  .ret)
  .skip))
(.seq (reg [op 8 (.move (.tmp 0)) 1,
  op 9 (.move (.tmp 3)) 1,
  op 10 (.binOp .sub 0 (.global 9) (.const (I 2)) 0) 1,
  op 11 (.slice 0 (.global 8) none (some (.global 10)) none) 1,
  op 12 (call (.func 573) #[(.global 11)]) 1,
  op 13 (.move (.tmp 0)) 1,
  op 14 (.move (.tmp 3)) 1,
  op 15 (.binOp .sub 0 (.global 14) (.const (I 2)) 0) 1,
  op 16 (.index 0 (.global 13) (.global 15)) 1,
  op 17 (.convert 0 3 (.global 16)) 1,
  op 18 (.binOp .mul 0 (.const (I 256)) (.global 17) 0) 1,
  op 19 (.move (.tmp 0)) 1,
  op 20 (.move (.tmp 3)) 1,
  op 21 (.binOp .sub 0 (.global 20) (.const (I 1)) 0) 1,
  op 22 (.index 0 (.global 19) (.global 21)) 1,
  op 23 (.convert 0 3 (.global 22)) 1,
  op 24 (.binOp .add 0 (.global 18) (.global 23) 0) 1,
  op 25 (.binOp .eql 0 (.global 12) (.global 24) 0) 1,
  op 2 (.move (.global 25))])
.ret)))), [(2, 0)]⟩

/-- (*spec.l00Src).next -/
def fn5 : AFun := ⟨1,
(.seq (reg [op 2 (.move (.const (I 0)))])
(.seq (reg [op 3 (.move (.const (I 0)))])
(.seq (.seq (reg [op 4 (.move (.tmp 0)) 1,
  op 5 (.nilCheck (.global 4)) 1,
  op 6 (.fieldAddr 1 (.global 5) 0) 1,
  op 7 (.load 0 (.global 6)) 1,
  op 8 (.move (.tmp 0)) 1,
  op 9 (.nilCheck (.global 8)) 1,
  op 10 (.fieldAddr 0 (.global 9) 0) 1,
  op 11 (.load 0 (.global 10)) 1,
  op 12 (bi .len #[(.global 11)] 1) 1,
  op 13 (.binOp .lss 0 (.global 7) (.global 12) 0)])
(.cond (.tmp 13)
  (reg [op 14 (.move (.tmp 0)) 1,
    op 15 (.nilCheck (.global 14)) 1,
    op 16 (.fieldAddr 0 (.global 15) 0) 1,
    op 17 (.load 0 (.global 16)) 1,
    op 18 (.move (.tmp 0)) 1,
    op 19 (.nilCheck (.global 18)) 1,
    op 20 (.fieldAddr 1 (.global 19) 0) 1,
    op 21 (.load 0 (.global 20)) 1,
    op 22 (.indexAddr 3 (.global 17) (.global 21)) 1,
    op 23 (.load 0 (.global 22)) 1,
    op 24 (.convert 0 3 (.global 23)) 1,
    op 3 (.move (.global 24))])
  .skip))
(.seq (reg [op 25 (.move (.tmp 0)) 1,
  op 26 (.nilCheck (.global 25)) 1,
  op 27 (.fieldAddr 1 (.global 26) 0) 1,
  op 28 (.load 0 (.global 27)) 1,
  op 29 (.binOp .add 0 (.global 28) (.const (I 1)) 0) 1,
  op 30 (.nilCheck (.global 25)) 1,
  op 31 (.fieldAddr 1 (.global 30) 0) 1,
  opn (.store 1 (.global 31) (.global 29))])
(.seq (reg [op 32 (.move (.tmp 0)) 1,
  op 33 (.move (.tmp 0)) 1,
  op 34 (.nilCheck (.global 33)) 1,
  op 35 (.fieldAddr 2 (.global 34) 0) 1,
  op 36 (.load 0 (.global 35)) 1,
  op 37 (.binOp .mul 0 (.global 36) (.const (.int .u64 6364136223846793005)) 0) 1,
  op 38 (.move (.tmp 3)) 1,
  op 39 (.convert 0 7 (.global 38)) 1,
  op 40 (.binOp .add 0 (.global 37) (.global 39) 0) 1,
  op 41 (.binOp .add 0 (.global 40) (.const (.int .u64 1442695040888963407)) 0) 1,
  op 42 (.nilCheck (.global 32)) 1,
  op 43 (.fieldAddr 2 (.global 42) 0) 1,
  opn (.store 1 (.global 43) (.global 41))])
(.seq (.seq (reg [op 44 (.move (.tmp 0)) 1,
  op 45 (.nilCheck (.global 44)) 1,
  op 46 (.fieldAddr 1 (.global 45) 0) 1,
  op 47 (.load 0 (.global 46)) 1,
  op 48 (.move (.tmp 0)) 1,
  op 49 (.nilCheck (.global 48)) 1,
  op 50 (.fieldAddr 0 (.global 49) 0) 1,
  op 51 (.load 0 (.global 50)) 1,
  op 52 (bi .len #[(.global 51)] 1) 1,
  op 53 (.binOp .leq 0 (.global 47) (.global 52) 0)])
(.cond (.tmp 53)
  (.seq (reg [op 54 (.move (.tmp 3)) 1,
    op 2 (.move (.global 54))])
  .ret)
  .skip))
(.seq (reg [op 55 (.move (.tmp 0)) 1,
  op 56 (.nilCheck (.global 55)) 1,
  op 57 (.fieldAddr 2 (.global 56) 0) 1,
  op 58 (.load 0 (.global 57)) 1,
  op 59 (.binOp .shr 0 (.global 58) (.const (.int .u64 40)) 0) 1,
  op 60 (.binOp .and 0 (.global 59) (.const (.int .u64 255)) 0) 1,
  op 61 (.convert 0 3 (.global 60)) 1,
  op 2 (.move (.global 61))])
.ret))))))), [(2, 0)]⟩

/-- spec.l00Same -/
def fn436 : AFun := ⟨2,
(.seq (reg [op 4 (.move (.const (B false)))])
(.seq (.seq (reg [op 6 (.move (.tmp 0)) 1,
  op 7 (bi .len #[(.global 6)] 1) 1,
  op 8 (.move (.tmp 1)) 1,
  op 9 (bi .len #[(.global 8)] 1) 1,
  op 10 (.binOp .neq 0 (.global 7) (.global 9) 0)])
(.cond (.tmp 10)
  (.seq (reg [op 4 (.move (.const (B false)))])
  .ret)
  .skip))
(.seq (.seq (reg [op 5 (.move (.const (I 0)))])
(.block 0
  (.loop
    (.seq (.seq (reg [op 11 (.move (.tmp 5)) 1,
      op 12 (.move (.tmp 0)) 1,
      op 13 (bi .len #[(.global 12)] 1) 1,
      op 14 (.binOp .lss 0 (.global 11) (.global 13) 0)])
    (.cond (.tmp 14)
      .skip
      (.exit 0)))
    (.seq (.block 1
      (.seq (reg [op 17 (.move (.tmp 0)) 1,
        op 18 (.move (.tmp 5)) 1,
        op 19 (.indexAddr 3 (.global 17) (.global 18)) 1,
        op 20 (.load 0 (.global 19)) 1,
        op 21 (.move (.tmp 1)) 1,
        op 22 (.move (.tmp 5)) 1,
        op 23 (.indexAddr 3 (.global 21) (.global 22)) 1,
        op 24 (.load 0 (.global 23)) 1,
        op 25 (.binOp .neq 0 (.global 20) (.global 24) 0)])
      (.cond (.tmp 25)
        (.seq (reg [op 4 (.move (.const (B false)))])
        .ret)
        .skip)))
    (reg [op 15 (.move (.tmp 5)) 1,
      op 16 (.binOp .add 0 (.global 15) (.const (I 1)) 0) 1,
      op 5 (.move (.global 16))]))))))
(.seq (reg [op 4 (.move (.const (B true)))])
.ret)))), [(4, 0)]⟩

def tab : Tab := [(254, fn254), (269, fn269), (362, fn362), (107, fn107), (398, fn398), (375, fn375), (136, fn136), (426, fn426), (88, fn88), (363, fn363), (108, fn108), (399, fn399), (369, fn369), (120, fn120), (411, fn411), (420, fn420), (381, fn381), (64, fn64), (333, fn333), (87, fn87), (380, fn380), (443, fn443), (431, fn431), (140, fn140), (180, fn180), (452, fn452), (571, fn571), (565, fn565), (195, fn195), (574, fn574), (198, fn198), (181, fn181), (191, fn191), (7, fn7), (457, fn457), (572, fn572), (6, fn6), (442, fn442), (183, fn183), (567, fn567), (456, fn456), (573, fn573), (196, fn196), (164, fn164), (432, fn432), (8, fn8), (445, fn445), (177, fn177), (450, fn450), (4, fn4), (166, fn166), (448, fn448), (568, fn568), (566, fn566), (5, fn5), (436, fn436)]
def Gam : Nat → Option AFun := look tab
theorem g254 : Gam 254 = some fn254 := rfl
theorem g269 : Gam 269 = some fn269 := rfl
theorem g362 : Gam 362 = some fn362 := rfl
theorem g107 : Gam 107 = some fn107 := rfl
theorem g398 : Gam 398 = some fn398 := rfl
theorem g375 : Gam 375 = some fn375 := rfl
theorem g136 : Gam 136 = some fn136 := rfl
theorem g426 : Gam 426 = some fn426 := rfl
theorem g88 : Gam 88 = some fn88 := rfl
theorem g363 : Gam 363 = some fn363 := rfl
theorem g108 : Gam 108 = some fn108 := rfl
theorem g399 : Gam 399 = some fn399 := rfl
theorem g369 : Gam 369 = some fn369 := rfl
theorem g120 : Gam 120 = some fn120 := rfl
theorem g411 : Gam 411 = some fn411 := rfl
theorem g420 : Gam 420 = some fn420 := rfl
theorem g381 : Gam 381 = some fn381 := rfl
theorem g64 : Gam 64 = some fn64 := rfl
theorem g333 : Gam 333 = some fn333 := rfl
theorem g87 : Gam 87 = some fn87 := rfl
theorem g380 : Gam 380 = some fn380 := rfl
theorem g443 : Gam 443 = some fn443 := rfl
theorem g431 : Gam 431 = some fn431 := rfl
theorem g140 : Gam 140 = some fn140 := rfl
theorem g180 : Gam 180 = some fn180 := rfl
theorem g452 : Gam 452 = some fn452 := rfl
theorem g571 : Gam 571 = some fn571 := rfl
theorem g565 : Gam 565 = some fn565 := rfl
theorem g195 : Gam 195 = some fn195 := rfl
theorem g574 : Gam 574 = some fn574 := rfl
theorem g198 : Gam 198 = some fn198 := rfl
theorem g181 : Gam 181 = some fn181 := rfl
theorem g191 : Gam 191 = some fn191 := rfl
theorem g7 : Gam 7 = some fn7 := rfl
theorem g457 : Gam 457 = some fn457 := rfl
theorem g572 : Gam 572 = some fn572 := rfl
theorem g6 : Gam 6 = some fn6 := rfl
theorem g442 : Gam 442 = some fn442 := rfl
theorem g183 : Gam 183 = some fn183 := rfl
theorem g567 : Gam 567 = some fn567 := rfl
theorem g456 : Gam 456 = some fn456 := rfl
theorem g573 : Gam 573 = some fn573 := rfl
theorem g196 : Gam 196 = some fn196 := rfl
theorem g164 : Gam 164 = some fn164 := rfl
theorem g432 : Gam 432 = some fn432 := rfl
theorem g8 : Gam 8 = some fn8 := rfl
theorem g445 : Gam 445 = some fn445 := rfl
theorem g177 : Gam 177 = some fn177 := rfl
theorem g450 : Gam 450 = some fn450 := rfl
theorem g4 : Gam 4 = some fn4 := rfl
theorem g166 : Gam 166 = some fn166 := rfl
theorem g448 : Gam 448 = some fn448 := rfl
theorem g568 : Gam 568 = some fn568 := rfl
theorem g566 : Gam 566 = some fn566 := rfl
theorem g5 : Gam 5 = some fn5 := rfl
theorem g436 : Gam 436 = some fn436 := rfl
end Am
