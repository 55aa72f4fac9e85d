/- The functions that are reached, in their normal form; written by a program. -/
import Derived.Test.YtaeaaogpdipjfaaAmRules
set_option linter.unusedVariables false
set_option maxRecDepth 100000
namespace Am
open Go
/-- laws.FnMergedPanels -/
def fn253 : AFun := ⟨1,
(.seq (reg [op 2 (.move (.const (B false)))])
(.seq (.seq (reg [op 47 (.move (.tmp 0)) 1,
  op 48 (call (.func 269) #[(.global 47)])])
(.cond (.tmp 48)
  (.seq (reg [op 2 (.move (.const (B true)))])
  .ret)
  .skip))
(.seq (reg [op 50 (.move (.tmp 0)) 1,
  op 51 (call (.func 359) #[(.global 50)]) 1,
  op 49 (.move (.global 51)) 1,
  op 52 (.extract (.global 49) 0) 1,
  op 53 (.extract (.global 49) 1) 1,
  op 54 (.extract (.global 49) 2) 1,
  op 3 (.move (.const (.agg #[(I 0), (I 0), (sl 0 0 0 0)]))),
  op 4 (.move (.const (.agg #[(I 0), (I 0), (sl 0 0 0 0)]))),
  op 5 (.move (.const (.agg #[(I 0), (I 0), (sl 0 0 0 0)]))),
  op 3 (.insert 3 (.tmp 3) (.tmp 3) (.global 52)),
  op 4 (.insert 3 (.tmp 4) (.tmp 4) (.global 53)),
  op 5 (.insert 3 (.tmp 5) (.tmp 5) (.global 54))])
(.seq (reg [op 56 (.lookup 4 (.tmp 3) (.tmp 3) false) 1,
  op 57 (.lookup 4 (.tmp 4) (.tmp 4) false) 1,
  op 58 (.lookup 4 (.tmp 5) (.tmp 5) false) 1,
  op 59 (call (.func 98) #[(.global 56), (.global 57), (.global 58)]) 1,
  op 55 (.move (.global 59)) 1,
  op 60 (.extract (.global 55) 0) 1,
  op 61 (.extract (.global 55) 1) 1,
  op 6 (.move (.const (.agg #[(I 0), (I 0), (sl 0 0 0 0)]))),
  op 6 (.insert 3 (.tmp 6) (.tmp 6) (.global 60)),
  op 7 (.move (.global 61))])
(.seq (reg [op 63 (.lookup 4 (.tmp 3) (.tmp 3) false) 1,
  op 64 (.lookup 4 (.tmp 4) (.tmp 4) false) 1,
  op 65 (.lookup 4 (.tmp 5) (.tmp 5) false) 1,
  op 66 (call (.func 391) #[(.global 63), (.global 64), (.global 65)]) 1,
  op 62 (.move (.global 66)) 1,
  op 67 (.extract (.global 62) 0) 1,
  op 68 (.extract (.global 62) 1) 1,
  op 8 (.move (.const (.agg #[(I 0), (I 0), (sl 0 0 0 0)]))),
  op 8 (.insert 3 (.tmp 8) (.tmp 8) (.global 67)),
  op 9 (.move (.global 68))])
(.seq (reg [op 70 (.lookup 4 (.tmp 3) (.tmp 3) false) 1,
  op 71 (.lookup 4 (.tmp 4) (.tmp 4) false) 1,
  op 72 (.lookup 4 (.tmp 5) (.tmp 5) false) 1,
  op 73 (call (.func 65) #[(.global 70), (.global 71), (.global 72)]) 1,
  op 69 (.move (.global 73)) 1,
  op 74 (.extract (.global 69) 0) 1,
  op 75 (.extract (.global 69) 1) 1,
  op 10 (.move (.global 74)),
  op 11 (.move (.global 75))])
(.seq (reg [op 77 (.lookup 4 (.tmp 3) (.tmp 3) false) 1,
  op 78 (.lookup 4 (.tmp 4) (.tmp 4) false) 1,
  op 79 (.lookup 4 (.tmp 5) (.tmp 5) false) 1,
  op 80 (call (.func 334) #[(.global 77), (.global 78), (.global 79)]) 1,
  op 76 (.move (.global 80)) 1,
  op 81 (.extract (.global 76) 0) 1,
  op 82 (.extract (.global 76) 1) 1,
  op 12 (.move (.global 81)),
  op 13 (.move (.global 82))])
(.seq (reg [op 84 (.move (.tmp 0)) 1,
  op 85 (call (.func 365) #[(.global 84)]) 1,
  op 83 (.move (.global 85)) 1,
  op 86 (.extract (.global 83) 0) 1,
  op 87 (.extract (.global 83) 1) 1,
  op 88 (.extract (.global 83) 2) 1,
  op 89 (.extract (.global 83) 3) 1,
  op 14 (.move (.const (.agg #[(I 0), (I 0), (sl 0 0 0 0)]))),
  op 17 (.move (.const (.agg #[(I 0), (I 0), (sl 0 0 0 0)]))),
  op 14 (.insert 3 (.tmp 14) (.tmp 14) (.global 86)),
  op 15 (.move (.global 87)),
  op 16 (.move (.global 88)),
  op 17 (.insert 3 (.tmp 17) (.tmp 17) (.global 89))])
(.seq (reg [op 91 (.lookup 4 (.tmp 14) (.tmp 14) false) 1,
  op 92 (.move (.tmp 15)) 1,
  op 93 (.move (.tmp 16)) 1,
  op 94 (.lookup 4 (.tmp 17) (.tmp 17) false) 1,
  op 95 (call (.func 114) #[(.global 91), (.global 92), (.global 93), (.global 94)]) 1,
  op 90 (.move (.global 95)) 1,
  op 96 (.extract (.global 90) 0) 1,
  op 97 (.extract (.global 90) 1) 1,
  op 18 (.move (.const (.agg #[(I 0), (I 0), (sl 0 0 0 0)]))),
  op 18 (.insert 3 (.tmp 18) (.tmp 18) (.global 96)),
  op 19 (.move (.global 97))])
(.seq (reg [op 99 (.lookup 4 (.tmp 14) (.tmp 14) false) 1,
  op 100 (.move (.tmp 15)) 1,
  op 101 (.move (.tmp 16)) 1,
  op 102 (.lookup 4 (.tmp 17) (.tmp 17) false) 1,
  op 103 (call (.func 406) #[(.global 99), (.global 100), (.global 101), (.global 102)]) 1,
  op 98 (.move (.global 103)) 1,
  op 104 (.extract (.global 98) 0) 1,
  op 105 (.extract (.global 98) 1) 1,
  op 20 (.move (.const (.agg #[(I 0), (I 0), (sl 0 0 0 0)]))),
  op 20 (.insert 3 (.tmp 20) (.tmp 20) (.global 104)),
  op 21 (.move (.global 105))])
(.seq (reg [op 107 (.move (.tmp 0)) 1,
  op 108 (call (.func 364) #[(.global 107)]) 1,
  op 106 (.move (.global 108)) 1,
  op 109 (.extract (.global 106) 0) 1,
  op 110 (.extract (.global 106) 1) 1,
  op 111 (.extract (.global 106) 2) 1,
  op 112 (.extract (.global 106) 3) 1,
  op 113 (.extract (.global 106) 4) 1,
  op 22 (.move (.const (.agg #[(I 0), (I 0), (sl 0 0 0 0)]))),
  op 22 (.insert 3 (.tmp 22) (.tmp 22) (.global 109)),
  op 23 (.move (.global 110)),
  op 24 (.move (.global 111)),
  op 25 (.move (.global 112)),
  op 26 (.move (.global 113))])
(.seq (reg [op 115 (.lookup 4 (.tmp 22) (.tmp 22) false) 1,
  op 116 (.move (.tmp 23)) 1,
  op 117 (.move (.tmp 24)) 1,
  op 118 (.move (.tmp 25)) 1,
  op 119 (.move (.tmp 26)) 1,
  op 120 (call (.func 111) #[(.global 115), (.global 116), (.global 117), (.global 118), (.global 119)]) 1,
  op 114 (.move (.global 120)) 1,
  op 121 (.extract (.global 114) 0) 1,
  op 122 (.extract (.global 114) 1) 1,
  op 27 (.move (.const (.agg #[(I 0), (I 0), (sl 0 0 0 0)]))),
  op 27 (.insert 3 (.tmp 27) (.tmp 27) (.global 121)),
  op 28 (.move (.global 122))])
(.seq (reg [op 124 (.lookup 4 (.tmp 22) (.tmp 22) false) 1,
  op 125 (.move (.tmp 23)) 1,
  op 126 (.move (.tmp 24)) 1,
  op 127 (.move (.tmp 25)) 1,
  op 128 (.move (.tmp 26)) 1,
  op 129 (call (.func 403) #[(.global 124), (.global 125), (.global 126), (.global 127), (.global 128)]) 1,
  op 123 (.move (.global 129)) 1,
  op 130 (.extract (.global 123) 0) 1,
  op 131 (.extract (.global 123) 1) 1,
  op 29 (.move (.const (.agg #[(I 0), (I 0), (sl 0 0 0 0)]))),
  op 29 (.insert 3 (.tmp 29) (.tmp 29) (.global 130)),
  op 30 (.move (.global 131))])
(.seq (reg [op 133 (.move (.tmp 0)) 1,
  op 134 (call (.func 355) #[(.global 133)]) 1,
  op 132 (.move (.global 134)) 1,
  op 135 (.extract (.global 132) 0) 1,
  op 136 (.extract (.global 132) 1) 1,
  op 31 (.move (.const (.agg #[(I 0), (I 0), (sl 0 0 0 0)]))),
  op 32 (.move (.const (.agg #[(I 0), (I 0), (sl 0 0 0 0)]))),
  op 31 (.insert 3 (.tmp 31) (.tmp 31) (.global 135)),
  op 32 (.insert 3 (.tmp 32) (.tmp 32) (.global 136))])
(.seq (reg [op 138 (.lookup 4 (.tmp 31) (.tmp 31) false) 1,
  op 139 (.lookup 4 (.tmp 32) (.tmp 32) false) 1,
  op 140 (call (.func 92) #[(.global 138), (.global 139)]) 1,
  op 137 (.move (.global 140)) 1,
  op 141 (.extract (.global 137) 0) 1,
  op 142 (.extract (.global 137) 1) 1,
  op 33 (.move (.const (.agg #[(I 0), (I 0), (sl 0 0 0 0)]))),
  op 33 (.insert 3 (.tmp 33) (.tmp 33) (.global 141)),
  op 34 (.move (.global 142))])
(.seq (reg [op 144 (.lookup 4 (.tmp 31) (.tmp 31) false) 1,
  op 145 (.lookup 4 (.tmp 32) (.tmp 32) false) 1,
  op 146 (call (.func 384) #[(.global 144), (.global 145)]) 1,
  op 143 (.move (.global 146)) 1,
  op 147 (.extract (.global 143) 0) 1,
  op 148 (.extract (.global 143) 1) 1,
  op 35 (.move (.const (.agg #[(I 0), (I 0), (sl 0 0 0 0)]))),
  op 35 (.insert 3 (.tmp 35) (.tmp 35) (.global 147)),
  op 36 (.move (.global 148))])
(.seq (.seq (reg [op 149 (.move (.tmp 7)) 1,
  op 150 (.move (.tmp 9)) 1,
  op 151 (.binOp .neq 0 (.global 149) (.global 150) 0) 1,
  op 152 (.move (.global 151)) 1,
  op 153 (.lookup 4 (.tmp 6) (.tmp 6) false) 1 (some (609, false)),
  op 154 (.lookup 4 (.tmp 8) (.tmp 8) false) 1 (some (609, false)),
  op 155 (call (.func 420) #[(.global 153), (.global 154)]) 1 (some (609, false)),
  op 156 (.unOp .not 0 (.global 155)) 1 (some (609, false)),
  op 157 (.pick (.global 152) (.const (B true)) (.global 156)) 1,
  op 158 (.move (.global 157)) 1,
  op 159 (.move (.tmp 11)) 1 (some (633, false)),
  op 160 (.move (.tmp 13)) 1 (some (633, false)),
  op 161 (.binOp .neq 0 (.global 159) (.global 160) 0) 1 (some (633, false)),
  op 162 (.pick (.global 158) (.const (B true)) (.global 161)) 1,
  op 163 (.move (.global 162)) 1,
  op 164 (.move (.tmp 10)) 1 (some (653, false)),
  op 165 (.move (.tmp 12)) 1 (some (653, false)),
  op 166 (call (.func 271) #[(.global 164), (.global 165)]) 1 (some (653, false)),
  op 167 (.unOp .not 0 (.global 166)) 1 (some (653, false)),
  op 168 (.pick (.global 163) (.const (B true)) (.global 167)) 1,
  op 169 (.move (.global 168)) 1,
  op 170 (.move (.tmp 19)) 1 (some (677, false)),
  op 171 (.move (.tmp 21)) 1 (some (677, false)),
  op 172 (.binOp .neq 0 (.global 170) (.global 171) 0) 1 (some (677, false)),
  op 173 (.pick (.global 169) (.const (B true)) (.global 172)) 1,
  op 174 (.move (.global 173)) 1,
  op 175 (.lookup 4 (.tmp 18) (.tmp 18) false) 1 (some (697, false)),
  op 176 (.lookup 4 (.tmp 20) (.tmp 20) false) 1 (some (697, false)),
  op 177 (call (.func 420) #[(.global 175), (.global 176)]) 1 (some (697, false)),
  op 178 (.unOp .not 0 (.global 177)) 1 (some (697, false)),
  op 179 (.pick (.global 174) (.const (B true)) (.global 178)) 1,
  op 180 (.move (.global 179)) 1,
  op 181 (.move (.tmp 28)) 1 (some (721, false)),
  op 182 (.move (.tmp 30)) 1 (some (721, false)),
  op 183 (.binOp .neq 0 (.global 181) (.global 182) 0) 1 (some (721, false)),
  op 184 (.pick (.global 180) (.const (B true)) (.global 183)) 1,
  op 185 (.move (.global 184)) 1,
  op 186 (.lookup 4 (.tmp 27) (.tmp 27) false) 1 (some (741, false)),
  op 187 (.lookup 4 (.tmp 29) (.tmp 29) false) 1 (some (741, false)),
  op 188 (call (.func 420) #[(.global 186), (.global 187)]) 1 (some (741, false)),
  op 189 (.unOp .not 0 (.global 188)) 1 (some (741, false)),
  op 190 (.pick (.global 185) (.const (B true)) (.global 189)) 1,
  op 191 (.move (.global 190)) 1,
  op 192 (.move (.tmp 34)) 1 (some (765, false)),
  op 193 (.move (.tmp 36)) 1 (some (765, false)),
  op 194 (.binOp .neq 0 (.global 192) (.global 193) 0) 1 (some (765, false)),
  op 195 (.pick (.global 191) (.const (B true)) (.global 194)) 1,
  op 196 (.move (.global 195)) 1,
  op 197 (.lookup 4 (.tmp 33) (.tmp 33) false) 1 (some (785, false)),
  op 198 (.lookup 4 (.tmp 35) (.tmp 35) false) 1 (some (785, false)),
  op 199 (call (.func 420) #[(.global 197), (.global 198)]) 1 (some (785, false)),
  op 200 (.unOp .not 0 (.global 199)) 1 (some (785, false)),
  op 201 (.pick (.global 196) (.const (B true)) (.global 200))])
(.cond (.tmp 201)
  (.seq (reg [op 2 (.move (.const (B false)))])
  .ret)
  .skip))
(.seq (.seq (reg [op 202 (.move (.tmp 19)) 1,
  op 203 (.binOp .eql 0 (.global 202) (.const (I 0)) 0)])
(.cond (.tmp 203)
  (.seq (reg [op 205 (.lookup 4 (.tmp 18) (.tmp 18) false) 1,
    op 206 (.move (.tmp 15)) 1,
    op 207 (.move (.tmp 16)) 1,
    op 208 (.fieldAddr 0 (.tmp 17) 1) 1,
    op 209 (.lookup 0 (.tmp 17) (.global 208) false) 1,
    op 210 (.fieldAddr 1 (.tmp 17) 1) 1,
    op 211 (.lookup 0 (.tmp 17) (.global 210) false) 1,
    op 212 (call (.func 111) #[(.global 205), (.global 206), (.global 207), (.global 209), (.global 211)]) 1,
    op 204 (.move (.global 212)) 1,
    op 213 (.extract (.global 204) 0) 1,
    op 214 (.extract (.global 204) 1) 1,
    op 37 (.move (.const (.agg #[(I 0), (I 0), (sl 0 0 0 0)]))),
    op 37 (.insert 3 (.tmp 37) (.tmp 37) (.global 213)),
    op 38 (.move (.global 214))])
  (.seq (reg [op 215 (.move (.tmp 38)) 1,
    op 216 (.binOp .neq 0 (.global 215) (.const (I 0)) 0) 1,
    op 217 (.move (.global 216)) 1,
    op 218 (.lookup 4 (.tmp 37) (.tmp 37) false) 1 (some (869, false)),
    op 219 (.lookup 4 (.tmp 17) (.tmp 17) false) 1 (some (869, false)),
    op 220 (call (.func 420) #[(.global 218), (.global 219)]) 1 (some (869, false)),
    op 221 (.unOp .not 0 (.global 220)) 1 (some (869, false)),
    op 222 (.pick (.global 217) (.const (B true)) (.global 221))])
  (.cond (.tmp 222)
    (.seq (reg [op 2 (.move (.const (B false)))])
    .ret)
    .skip)))
  .skip))
(.seq (.seq (reg [op 223 (.move (.tmp 34)) 1,
  op 224 (.binOp .eql 0 (.global 223) (.const (I 0)) 0)])
(.cond (.tmp 224)
  (.seq (reg [op 226 (.lookup 4 (.tmp 31) (.tmp 31) false) 1,
    op 227 (call (.func 340) #[(.global 226)]) 1,
    op 225 (.move (.global 227)) 1,
    op 228 (.extract (.global 225) 0) 1,
    op 229 (.extract (.global 225) 1) 1,
    op 39 (.move (.global 228)),
    op 40 (.move (.global 229))])
  (.seq (reg [op 231 (.lookup 4 (.tmp 32) (.tmp 32) false) 1,
    op 232 (call (.func 340) #[(.global 231)]) 1,
    op 230 (.move (.global 232)) 1,
    op 233 (.extract (.global 230) 0) 1,
    op 234 (.extract (.global 230) 1) 1,
    op 41 (.move (.global 233)),
    op 42 (.move (.global 234))])
  (.seq (reg [op 236 (.lookup 4 (.tmp 33) (.tmp 33) false) 1,
    op 237 (call (.func 72) #[(.global 236)]) 1,
    op 235 (.move (.global 237)) 1,
    op 238 (.extract (.global 235) 0) 1,
    op 239 (.extract (.global 235) 1) 1,
    op 43 (.move (.global 238)),
    op 44 (.move (.global 239))])
  (.seq (reg [op 240 (.move (.tmp 40)) 1,
    op 241 (.binOp .neq 0 (.global 240) (.const (I 0)) 0) 1,
    op 242 (.move (.global 241)) 1,
    op 243 (.move (.tmp 42)) 1 (some (969, false)),
    op 244 (.binOp .neq 0 (.global 243) (.const (I 0)) 0) 1 (some (969, false)),
    op 245 (.pick (.global 242) (.const (B true)) (.global 244)) 1,
    op 246 (.move (.global 245)) 1,
    op 247 (.move (.tmp 44)) 1 (some (985, false)),
    op 248 (.binOp .neq 0 (.global 247) (.const (I 0)) 0) 1 (some (985, false)),
    op 249 (.pick (.global 246) (.const (B true)) (.global 248)) 1,
    op 250 (.move (.global 249)) 1,
    op 251 (.move (.tmp 43)) 1 (some (1001, false)),
    op 252 (.move (.tmp 39)) 1 (some (1001, false)),
    op 253 (.move (.tmp 41)) 1 (some (1001, false)),
    op 254 (.binOp .add 0 (.global 252) (.global 253) 0) 1 (some (1001, false)),
    op 255 (.binOp .neq 0 (.global 251) (.global 254) 0) 1 (some (1001, false)),
    op 256 (.pick (.global 250) (.const (B true)) (.global 255))])
  (.cond (.tmp 256)
    (.seq (reg [op 2 (.move (.const (B false)))])
    .ret)
    .skip)))))
  .skip))
(.seq (reg [op 258 (.lookup 4 (.tmp 3) (.tmp 3) false) 1,
  op 259 (.lookup 4 (.tmp 5) (.tmp 5) false) 1,
  op 260 (.lookup 4 (.tmp 4) (.tmp 4) false) 1,
  op 261 (call (.func 98) #[(.global 258), (.global 259), (.global 260)]) 1,
  op 257 (.move (.global 261)) 1,
  op 262 (.extract (.global 257) 0) 1,
  op 263 (.extract (.global 257) 1) 1,
  op 45 (.move (.const (.agg #[(I 0), (I 0), (sl 0 0 0 0)]))),
  op 45 (.insert 3 (.tmp 45) (.tmp 45) (.global 262)),
  op 46 (.move (.global 263))])
(.seq (reg [op 264 (.move (.tmp 46)) 1,
  op 265 (.move (.tmp 7)) 1,
  op 266 (.binOp .eql 0 (.global 264) (.global 265) 0) 1,
  op 267 (.move (.global 266)) 1,
  op 268 (.lookup 4 (.tmp 45) (.tmp 45) false) 1 (some (1069, true)),
  op 269 (.lookup 4 (.tmp 6) (.tmp 6) false) 1 (some (1069, true)),
  op 270 (call (.func 420) #[(.global 268), (.global 269)]) 1 (some (1069, true)),
  op 271 (.pick (.global 267) (.global 270) (.const (B false))) 1,
  op 2 (.move (.global 271))])
.ret))))))))))))))))))))), [(2, 0)]⟩

/-- laws.f6big -/
def fn269 : AFun := ⟨1,
(.seq (reg [op 2 (.move (.const (B false)))])
(.seq (reg [op 3 (.move (.tmp 0)) 1,
  op 4 (bi .len #[(.global 3)] 1) 1,
  op 5 (.binOp .gtr 0 (.global 4) (.const (I 4096)) 0) 1,
  op 2 (.move (.global 5))])
.ret)), [(2, 0)]⟩

/-- spec.SamePanel -/
def fn420 : AFun := ⟨2,
(.seq (reg [op 2 (.box 3 (.tmp 0)),
  op 3 (.box 3 (.tmp 1)),
  op 4 (.move (.const (B false)))])
(.seq (reg [op 5 (call (.func 456) #[(.tmp 2), (.tmp 3)]) 1,
  op 4 (.move (.global 5))])
.ret)), [(4, 0)]⟩

/-- spec.CountCurves -/
def fn340 : AFun := ⟨1,
(.seq (reg [op 1 (.box 3 (.tmp 0)),
  op 2 (.move (.const (I 0))),
  op 3 (.move (.const (I 0)))])
(.seq (.seq (reg [op 4 (call (.func 452) #[(.tmp 1)]) 1,
  op 5 (.unOp .not 0 (.global 4))])
(.cond (.tmp 5)
  (.seq (reg [op 2 (.move (.const (I 0))),
    op 3 (.move (.const (I 1)))])
  .ret)
  .skip))
(.seq (reg [op 6 (call (.func 465) #[(.tmp 1)]) 1,
  op 2 (.move (.global 6)),
  op 3 (.move (.const (I 0)))])
.ret))), [(2, 0), (3, 0)]⟩

/-- spec.DrawMergePanels -/
def fn359 : AFun := ⟨1,
(.seq (reg [op 2 (.move (.const (.agg #[(I 0), (I 0), (sl 0 0 0 0)]))),
  op 3 (.move (.const (.agg #[(I 0), (I 0), (sl 0 0 0 0)]))),
  op 4 (.move (.const (.agg #[(I 0), (I 0), (sl 0 0 0 0)])))])
(.seq (reg [op 5 (.move (.tmp 0)) 1,
  op 6 (call (.func 554) #[(.global 5)]) 1,
  op 7 (.extract (.global 6) 0) 1,
  op 8 (.extract (.global 6) 1) 1,
  op 9 (.extract (.global 6) 2) 1,
  op 2 (.insert 3 (.tmp 2) (.tmp 2) (.global 7)),
  op 3 (.insert 3 (.tmp 3) (.tmp 3) (.global 8)),
  op 4 (.insert 3 (.tmp 4) (.tmp 4) (.global 9))])
.ret)), [(2, 1000004), (3, 1000004), (4, 1000004)]⟩

/-- impl.MergePanels -/
def fn98 : AFun := ⟨3,
(.seq (reg [op 3 (.makeChan 3 (.tmp 0)),
  op 4 (.makeChan 3 (.tmp 1)),
  op 5 (.makeChan 3 (.tmp 2)),
  op 6 (.move (.const (.agg #[(I 0), (I 0), (sl 0 0 0 0)]))),
  op 7 (.move (.const (I 0)))])
(.seq (reg [op 14 (.lookup 4 (.tmp 3) (.tmp 3) false) 1,
  op 15 (.lookup 4 (.tmp 4) (.tmp 4) false) 1,
  op 16 (.lookup 4 (.tmp 5) (.tmp 5) false) 1,
  op 17 (call (.func 65) #[(.global 14), (.global 15), (.global 16)]) 1,
  op 13 (.move (.global 17)) 1,
  op 18 (.extract (.global 13) 0) 1,
  op 19 (.extract (.global 13) 1) 1,
  op 8 (.move (.global 18)),
  op 9 (.move (.global 19))])
(.seq (.seq (reg [op 20 (.move (.tmp 9)) 1,
  op 21 (.binOp .neq 0 (.global 20) (.const (I 0)) 0)])
(.cond (.tmp 21)
  (.seq (reg [op 22 (.build 0 #[(0, (.const (.agg #[(I 0), (I 0), (sl 0 0 0 0)])))]) 1,
    op 23 (.move (.tmp 9)) 1,
    op 6 (.insert 3 (.tmp 6) (.tmp 6) (.global 22)),
    op 7 (.move (.global 23))])
  .ret)
  .skip))
(.seq (.seq (reg [op 24 (.move (.tmp 8)) 1,
  op 25 (bi .len #[(.global 24)] 1) 1,
  op 26 (.binOp .gtr 0 (.global 25) (.const (I 0)) 0)])
(.cond (.tmp 26)
  (.seq (reg [op 27 (.build 0 #[(0, (.const (.agg #[(I 0), (I 0), (sl 0 0 0 0)])))]) 1,
    op 6 (.insert 3 (.tmp 6) (.tmp 6) (.global 27)),
    op 7 (.move (.const (I 9)))])
  .ret)
  .skip))
(.seq (reg [op 28 (.lookup 4 (.tmp 4) (.tmp 4) false) 1,
  op 29 (call (.func 150) #[(.global 28)]) 1,
  op 10 (.move (.const (.agg #[(I 0), (I 0), (sl 0 0 0 0)]))),
  op 10 (.insert 3 (.tmp 10) (.tmp 10) (.global 29))])
(.seq (.seq (reg [op 30 (.fieldAddr 2 (.tmp 5) 1) 1,
  op 31 (.lookup 0 (.tmp 5) (.global 30) false),
  op 32 (bi .len #[(.tmp 31)] 1),
  op 33 (.move (.const (I 0)))])
(.block 0
  (.loop
    (.seq (reg [op 34 (.binOp .lss 0 (.tmp 33) (.tmp 32) 0)])
    (.seq (.cond (.tmp 34)
      .skip
      (.exit 0))
    (.seq (.block 1
      (.seq (reg [op 35 (.move (.tmp 33)) 1,
        op 36 (.indexAddr 3 (.tmp 31) (.tmp 33)) 1,
        op 37 (.load 0 (.global 36)) 1,
        op 11 (.move (.global 35)),
        op 12 (.move (.global 37))])
      (.seq (reg [op 38 (.move (.tmp 12)) 1,
        op 39 (.fieldAddr 2 (.tmp 3) 1) 1,
        op 40 (.lookup 0 (.tmp 3) (.global 39) false) 1,
        op 41 (.move (.tmp 11)) 1,
        op 42 (.indexAddr 3 (.global 40) (.global 41)) 1,
        op 43 (.load 0 (.global 42)) 1,
        op 44 (.binOp .neq 0 (.global 38) (.global 43) 0)])
      (.cond (.tmp 44)
        (reg [op 45 (.fieldAddr 2 (.tmp 10) 1) 1,
          op 46 (.lookup 0 (.tmp 10) (.global 45) false) 1,
          op 47 (.move (.tmp 11)) 1,
          op 48 (.move (.tmp 12)) 1,
          op 49 (.indexAddr 3 (.global 46) (.global 47)) 1,
          opn (.store 1 (.global 49) (.global 48))])
        .skip))))
    (reg [op 50 (.binOp .add 0 (.tmp 33) (.const (I 1)) 0) 1,
      op 33 (.move (.global 50))])))))))
(.seq (reg [op 51 (.lookup 4 (.tmp 10) (.tmp 10) false) 1,
  op 6 (.insert 3 (.tmp 6) (.tmp 6) (.global 51)),
  op 7 (.move (.const (I 0)))])
.ret))))))), [(6, 1000004), (7, 0)]⟩

/-- spec.MergePanels -/
def fn391 : AFun := ⟨3,
(.seq (reg [op 3 (.box 3 (.tmp 0)),
  op 4 (.box 3 (.tmp 1)),
  op 5 (.box 3 (.tmp 2)),
  op 6 (.move (.const (.agg #[(I 0), (I 0), (sl 0 0 0 0)]))),
  op 7 (.move (.const (I 0)))])
(.seq (reg [op 11 (.buildSlice 1 3 #[(0, (.const (.agg #[(.pointer none), (.pointer none), (.pointer none)]))), (1, (.tmp 3)), (1001, (.tmp 4)), (2001, (.tmp 5))]) 1,
  op 12 (call (.func 552) #[(.global 11)]) 1,
  op 8 (.move (.global 12))])
(.seq (.seq (reg [op 13 (.move (.tmp 8)) 1,
  op 14 (.binOp .eql 0 (.global 13) (.const (I 0)) 0) 1,
  op 15 (.move (.global 14)) 1,
  op 16 (call (.func 548) #[(.tmp 3), (.tmp 4), (.tmp 5)]) 1 (some (61, true)),
  op 17 (bi .len #[(.global 16)] 1) 1 (some (61, true)),
  op 18 (.binOp .gtr 0 (.global 17) (.const (I 0)) 0) 1 (some (61, true)),
  op 19 (.pick (.global 15) (.global 18) (.const (B false)))])
(.cond (.tmp 19)
  (reg [op 8 (.move (.const (I 9)))])
  .skip))
(.seq (.seq (reg [op 20 (.move (.tmp 8)) 1,
  op 21 (.binOp .neq 0 (.global 20) (.const (I 0)) 0)])
(.cond (.tmp 21)
  (.seq (reg [op 22 (.build 0 #[(0, (.const (.agg #[(I 0), (I 0), (sl 0 0 0 0)])))]) 1,
    op 23 (.move (.tmp 8)) 1,
    op 6 (.insert 3 (.tmp 6) (.tmp 6) (.global 22)),
    op 7 (.move (.global 23))])
  .ret)
  .skip))
(.seq (reg [op 24 (call (.func 453) #[(.tmp 4)]) 1,
  op 9 (.move (.const (.agg #[(I 0), (I 0), (sl 0 0 0 0)]))),
  op 9 (.insert 3 (.tmp 9) (.tmp 9) (.global 24))])
(.seq (.seq (reg [op 10 (.move (.const (I 0)))])
(.block 0
  (.loop
    (.seq (.seq (reg [op 25 (.move (.tmp 10)) 1,
      op 26 (.fieldAddr 2 (.tmp 3) 0) 1,
      op 27 (.load 0 (.global 26)) 1,
      op 28 (bi .len #[(.global 27)] 1) 1,
      op 29 (.binOp .lss 0 (.global 25) (.global 28) 0)])
    (.cond (.tmp 29)
      .skip
      (.exit 0)))
    (.seq (.block 1
      (.seq (reg [op 32 (.fieldAddr 2 (.tmp 5) 0) 1,
        op 33 (.load 0 (.global 32)) 1,
        op 34 (.move (.tmp 10)) 1,
        op 35 (.indexAddr 3 (.global 33) (.global 34)) 1,
        op 36 (.load 0 (.global 35)) 1,
        op 37 (.fieldAddr 2 (.tmp 3) 0) 1,
        op 38 (.load 0 (.global 37)) 1,
        op 39 (.move (.tmp 10)) 1,
        op 40 (.indexAddr 3 (.global 38) (.global 39)) 1,
        op 41 (.load 0 (.global 40)) 1,
        op 42 (.binOp .neq 0 (.global 36) (.global 41) 0)])
      (.cond (.tmp 42)
        (reg [op 43 (.fieldAddr 2 (.tmp 9) 1) 1,
          op 44 (.lookup 0 (.tmp 9) (.global 43) false) 1,
          op 45 (.move (.tmp 10)) 1,
          op 46 (.fieldAddr 2 (.tmp 5) 0) 1,
          op 47 (.load 0 (.global 46)) 1,
          op 48 (.move (.tmp 10)) 1,
          op 49 (.indexAddr 3 (.global 47) (.global 48)) 1,
          op 50 (.load 0 (.global 49)) 1,
          op 51 (.indexAddr 3 (.global 44) (.global 45)) 1,
          opn (.store 1 (.global 51) (.global 50))])
        .skip)))
    (reg [op 30 (.move (.tmp 10)) 1,
      op 31 (.binOp .add 0 (.global 30) (.const (I 1)) 0) 1,
      op 10 (.move (.global 31))]))))))
(.seq (reg [op 52 (.lookup 4 (.tmp 9) (.tmp 9) false) 1,
  op 6 (.insert 3 (.tmp 6) (.tmp 6) (.global 52)),
  op 7 (.move (.const (I 0)))])
.ret))))))), [(6, 1000004), (7, 0)]⟩

/-- impl.ClashesOf -/
def fn65 : AFun := ⟨3,
(.seq (reg [op 3 (.makeChan 3 (.tmp 0)),
  op 4 (.makeChan 3 (.tmp 1)),
  op 5 (.makeChan 3 (.tmp 2)),
  op 6 (.move (.const (sl 0 0 0 0))),
  op 7 (.move (.const (I 0)))])
(.seq (.seq (reg [op 13 (.lookup 4 (.tmp 3) (.tmp 3) false) 1,
  op 14 (call (.func 140) #[(.global 13)]) 1,
  op 15 (.unOp .not 0 (.global 14)) 1,
  op 16 (.move (.global 15)) 1,
  op 17 (.lookup 4 (.tmp 4) (.tmp 4) false) 1 (some (65, false)),
  op 18 (call (.func 140) #[(.global 17)]) 1 (some (65, false)),
  op 19 (.unOp .not 0 (.global 18)) 1 (some (65, false)),
  op 20 (.pick (.global 16) (.const (B true)) (.global 19)) 1,
  op 21 (.move (.global 20)) 1,
  op 22 (.lookup 4 (.tmp 5) (.tmp 5) false) 1 (some (85, false)),
  op 23 (call (.func 140) #[(.global 22)]) 1 (some (85, false)),
  op 24 (.unOp .not 0 (.global 23)) 1 (some (85, false)),
  op 25 (.pick (.global 21) (.const (B true)) (.global 24))])
(.cond (.tmp 25)
  (.seq (reg [op 6 (.move (.const (sl 0 0 0 0))),
    op 7 (.move (.const (I 1)))])
  .ret)
  .skip))
(.seq (.seq (reg [op 26 (.lookup 4 (.tmp 3) (.tmp 3) false) 1,
  op 27 (.lookup 4 (.tmp 4) (.tmp 4) false) 1,
  op 28 (call (.func 186) #[(.global 26), (.global 27)]) 1,
  op 29 (.unOp .not 0 (.global 28)) 1,
  op 30 (.move (.global 29)) 1,
  op 31 (.lookup 4 (.tmp 3) (.tmp 3) false) 1 (some (121, false)),
  op 32 (.lookup 4 (.tmp 5) (.tmp 5) false) 1 (some (121, false)),
  op 33 (call (.func 186) #[(.global 31), (.global 32)]) 1 (some (121, false)),
  op 34 (.unOp .not 0 (.global 33)) 1 (some (121, false)),
  op 35 (.pick (.global 30) (.const (B true)) (.global 34))])
(.cond (.tmp 35)
  (.seq (reg [op 6 (.move (.const (sl 0 0 0 0))),
    op 7 (.move (.const (I 6)))])
  .ret)
  .skip))
(.seq (reg [op 36 (.move (.const (sl 0 0 0 1))) 1,
  op 8 (.move (.global 36))])
(.seq (.seq (reg [op 37 (.fieldAddr 2 (.tmp 3) 1) 1,
  op 38 (.lookup 0 (.tmp 3) (.global 37) false),
  op 39 (bi .len #[(.tmp 38)] 1),
  op 40 (.move (.const (I 0)))])
(.block 0
  (.loop
    (.seq (reg [op 41 (.binOp .lss 0 (.tmp 40) (.tmp 39) 0)])
    (.seq (.cond (.tmp 41)
      .skip
      (.exit 0))
    (.seq (.block 1
      (.seq (reg [op 42 (.move (.tmp 40)) 1,
        op 43 (.indexAddr 3 (.tmp 38) (.tmp 40)) 1,
        op 44 (.load 0 (.global 43)) 1,
        op 9 (.move (.global 42)),
        op 10 (.move (.global 44))])
      (.seq (reg [op 45 (.fieldAddr 2 (.tmp 4) 1) 1,
        op 46 (.lookup 0 (.tmp 4) (.global 45) false) 1,
        op 47 (.move (.tmp 9)) 1,
        op 48 (.indexAddr 3 (.global 46) (.global 47)) 1,
        op 49 (.load 0 (.global 48)) 1,
        op 50 (.fieldAddr 2 (.tmp 5) 1) 1,
        op 51 (.lookup 0 (.tmp 5) (.global 50) false) 1,
        op 52 (.move (.tmp 9)) 1,
        op 53 (.indexAddr 3 (.global 51) (.global 52)) 1,
        op 54 (.load 0 (.global 53)) 1,
        op 11 (.move (.global 49)),
        op 12 (.move (.global 54))])
      (.seq (reg [op 55 (.move (.tmp 11)) 1,
        op 56 (.move (.tmp 10)) 1,
        op 57 (.binOp .neq 0 (.global 55) (.global 56) 0) 1,
        op 58 (.move (.global 57)) 1,
        op 59 (.move (.tmp 12)) 1 (some (233, true)),
        op 60 (.move (.tmp 10)) 1 (some (233, true)),
        op 61 (.binOp .neq 0 (.global 59) (.global 60) 0) 1 (some (233, true)),
        op 62 (.pick (.global 58) (.global 61) (.const (B false))) 1,
        op 63 (.move (.global 62)) 1,
        op 64 (.move (.tmp 11)) 1 (some (253, true)),
        op 65 (.move (.tmp 12)) 1 (some (253, true)),
        op 66 (.binOp .neq 0 (.global 64) (.global 65) 0) 1 (some (253, true)),
        op 67 (.pick (.global 63) (.global 66) (.const (B false)))])
      (.cond (.tmp 67)
        (reg [op 68 (.move (.tmp 8)) 1,
          op 69 (.move (.tmp 9)) 1,
          op 70 (.buildSlice 1 1 #[(0, (.const (.agg #[(I 0)]))), (1, (.global 69))]) 1,
          op 71 (bi .append #[(.global 68), (.global 70)] 1) 1,
          op 8 (.move (.global 71))])
        .skip)))))
    (reg [op 72 (.binOp .add 0 (.tmp 40) (.const (I 1)) 0) 1,
      op 40 (.move (.global 72))])))))))
(.seq (reg [op 73 (.move (.tmp 8)) 1,
  op 6 (.move (.global 73)),
  op 7 (.move (.const (I 0)))])
.ret)))))), [(6, 0), (7, 0)]⟩

/-- spec.ClashesOf -/
def fn334 : AFun := ⟨3,
(.seq (reg [op 3 (.box 3 (.tmp 0)),
  op 4 (.box 3 (.tmp 1)),
  op 5 (.box 3 (.tmp 2)),
  op 6 (.move (.const (sl 0 0 0 0))),
  op 7 (.move (.const (I 0)))])
(.seq (reg [op 9 (.buildSlice 1 3 #[(0, (.const (.agg #[(.pointer none), (.pointer none), (.pointer none)]))), (1, (.tmp 3)), (1001, (.tmp 4)), (2001, (.tmp 5))]) 1,
  op 10 (call (.func 552) #[(.global 9)]) 1,
  op 8 (.move (.global 10))])
(.seq (.seq (reg [op 11 (.move (.tmp 8)) 1,
  op 12 (.binOp .neq 0 (.global 11) (.const (I 0)) 0)])
(.cond (.tmp 12)
  (.seq (reg [op 13 (.move (.tmp 8)) 1,
    op 6 (.move (.const (sl 0 0 0 0))),
    op 7 (.move (.global 13))])
  .ret)
  .skip))
(.seq (reg [op 14 (call (.func 548) #[(.tmp 3), (.tmp 4), (.tmp 5)]) 1,
  op 6 (.move (.global 14)),
  op 7 (.move (.const (I 0)))])
.ret)))), [(6, 0), (7, 0)]⟩

/-- spec.DrawPastePart -/
def fn365 : AFun := ⟨1,
(.seq (reg [op 2 (.move (.const (.agg #[(I 0), (I 0), (sl 0 0 0 0)]))),
  op 3 (.move (.const (I 0))),
  op 4 (.move (.const (I 0))),
  op 5 (.move (.const (.agg #[(I 0), (I 0), (sl 0 0 0 0)])))])
(.seq (reg [op 10 (.move (.tmp 0)) 1,
  op 11 (call (.func 431) #[(.global 10)]) 1,
  op 6 (.move (.global 11))])
(.seq (reg [op 12 (.move (.tmp 6)) 1,
  op 13 (call (.func 443) #[(.global 12)]) 1,
  op 7 (.move (.const (.agg #[(I 0), (I 0), (sl 0 0 0 0)]))),
  op 7 (.insert 3 (.tmp 7) (.tmp 7) (.global 13))])
(.seq (reg [op 14 (.move (.tmp 6)) 1,
  op 15 (call (.func 7) #[(.global 14), (.const (I 3))]) 1,
  op 16 (.move (.tmp 6)) 1,
  op 17 (call (.func 7) #[(.global 16), (.const (I 16))]) 1,
  op 18 (.binOp .quo 0 (.global 17) (.const (I 15)) 0) 1,
  op 19 (.binOp .sub 0 (.global 15) (.global 18) 0) 1,
  op 8 (.move (.global 19))])
(.seq (reg [op 20 (.move (.tmp 6)) 1,
  op 21 (call (.func 7) #[(.global 20), (.const (I 3))]) 1,
  op 9 (.move (.global 21))])
(.seq (.seq (reg [op 22 (.move (.tmp 6)) 1,
  op 23 (call (.func 6) #[(.global 22), (.const (I 12))])])
(.cond (.tmp 23)
  (.seq (reg [op 24 (.lookup 4 (.tmp 7) (.tmp 7) false) 1,
    op 25 (.move (.tmp 8)) 1,
    op 26 (.move (.tmp 9)) 1,
    op 27 (.move (.tmp 6)) 1,
    op 28 (call (.func 443) #[(.global 27)]) 1,
    op 2 (.insert 3 (.tmp 2) (.tmp 2) (.global 24)),
    op 3 (.move (.global 25)),
    op 4 (.move (.global 26)),
    op 5 (.insert 3 (.tmp 5) (.tmp 5) (.global 28))])
  .ret)
  .skip))
(.seq (reg [op 29 (.lookup 4 (.tmp 7) (.tmp 7) false) 1,
  op 30 (.move (.tmp 8)) 1,
  op 31 (.move (.tmp 9)) 1,
  op 32 (.move (.tmp 6)) 1,
  op 33 (call (.func 445) #[(.global 32), (.const (I 3))]) 1,
  op 2 (.insert 3 (.tmp 2) (.tmp 2) (.global 29)),
  op 3 (.move (.global 30)),
  op 4 (.move (.global 31)),
  op 5 (.insert 3 (.tmp 5) (.tmp 5) (.global 33))])
.ret))))))), [(2, 1000004), (3, 0), (4, 0), (5, 1000004)]⟩

/-- impl.PastePart -/
def fn114 : AFun := ⟨4,
(.seq (reg [op 4 (.makeChan 3 (.tmp 0)),
  op 7 (.makeChan 3 (.tmp 3)),
  op 8 (.move (.const (.agg #[(I 0), (I 0), (sl 0 0 0 0)]))),
  op 9 (.move (.const (I 0)))])
(.seq (.seq (reg [op 11 (.lookup 4 (.tmp 4) (.tmp 4) false) 1,
  op 12 (call (.func 140) #[(.global 11)]) 1,
  op 13 (.unOp .not 0 (.global 12)) 1,
  op 14 (.move (.global 13)) 1,
  op 15 (.lookup 4 (.tmp 7) (.tmp 7) false) 1 (some (57, false)),
  op 16 (call (.func 140) #[(.global 15)]) 1 (some (57, false)),
  op 17 (.unOp .not 0 (.global 16)) 1 (some (57, false)),
  op 18 (.pick (.global 14) (.const (B true)) (.global 17))])
(.cond (.tmp 18)
  (.seq (reg [op 19 (.build 0 #[(0, (.const (.agg #[(I 0), (I 0), (sl 0 0 0 0)])))]) 1,
    op 8 (.insert 3 (.tmp 8) (.tmp 8) (.global 19)),
    op 9 (.move (.const (I 1)))])
  .ret)
  .skip))
(.seq (.seq (reg [op 20 (.lookup 4 (.tmp 4) (.tmp 4) false) 1,
  op 21 (.move (.tmp 1)) 1,
  op 22 (.move (.tmp 2)) 1,
  op 23 (.fieldAddr 0 (.tmp 7) 1) 1,
  op 24 (.lookup 0 (.tmp 7) (.global 23) false) 1,
  op 25 (.fieldAddr 1 (.tmp 7) 1) 1,
  op 26 (.lookup 0 (.tmp 7) (.global 25) false) 1,
  op 27 (call (.func 33) #[(.global 20), (.global 21), (.global 22), (.global 24), (.global 26)]) 1,
  op 28 (.unOp .not 0 (.global 27))])
(.cond (.tmp 28)
  (.seq (reg [op 29 (.build 0 #[(0, (.const (.agg #[(I 0), (I 0), (sl 0 0 0 0)])))]) 1,
    op 8 (.insert 3 (.tmp 8) (.tmp 8) (.global 29)),
    op 9 (.move (.const (I 2)))])
  .ret)
  .skip))
(.seq (reg [op 30 (.lookup 4 (.tmp 4) (.tmp 4) false) 1,
  op 31 (call (.func 150) #[(.global 30)]) 1,
  op 10 (.move (.const (.agg #[(I 0), (I 0), (sl 0 0 0 0)]))),
  op 10 (.insert 3 (.tmp 10) (.tmp 10) (.global 31))])
(.seq (reg [op 32 (.lookup 4 (.tmp 10) (.tmp 10) false) 1,
  op 33 (.move (.tmp 1)) 1,
  op 34 (.move (.tmp 2)) 1,
  op 35 (.lookup 4 (.tmp 7) (.tmp 7) false) 1,
  op 36 (call (.func 46) #[(.global 32), (.global 33), (.global 34), (.global 35)]) 1])
(.seq (reg [op 37 (.lookup 4 (.tmp 10) (.tmp 10) false) 1,
  op 8 (.insert 3 (.tmp 8) (.tmp 8) (.global 37)),
  op 9 (.move (.const (I 0)))])
.ret)))))), [(8, 1000004), (9, 0)]⟩

/-- spec.PastePart -/
def fn406 : AFun := ⟨4,
(.seq (reg [op 4 (.box 3 (.tmp 0)),
  op 7 (.box 3 (.tmp 3)),
  op 8 (.move (.const (.agg #[(I 0), (I 0), (sl 0 0 0 0)]))),
  op 9 (.move (.const (I 0)))])
(.seq (.seq (reg [op 11 (call (.func 452) #[(.tmp 4)]) 1,
  op 12 (.unOp .not 0 (.global 11)) 1,
  op 13 (.move (.global 12)) 1,
  op 14 (call (.func 452) #[(.tmp 7)]) 1 (some (53, false)),
  op 15 (.unOp .not 0 (.global 14)) 1 (some (53, false)),
  op 16 (.pick (.global 13) (.const (B true)) (.global 15))])
(.cond (.tmp 16)
  (.seq (reg [op 17 (.build 0 #[(0, (.const (.agg #[(I 0), (I 0), (sl 0 0 0 0)])))]) 1,
    op 8 (.insert 3 (.tmp 8) (.tmp 8) (.global 17)),
    op 9 (.move (.const (I 1)))])
  .ret)
  .skip))
(.seq (.seq (reg [op 18 (.move (.tmp 1)) 1,
  op 19 (.move (.tmp 2)) 1,
  op 20 (.fieldAddr 0 (.tmp 7) 0) 1,
  op 21 (.load 0 (.global 20)) 1,
  op 22 (.fieldAddr 1 (.tmp 7) 0) 1,
  op 23 (.load 0 (.global 22)) 1,
  op 24 (call (.func 549) #[(.tmp 4), (.global 18), (.global 19), (.global 21), (.global 23)]) 1,
  op 25 (.unOp .not 0 (.global 24))])
(.cond (.tmp 25)
  (.seq (reg [op 26 (.build 0 #[(0, (.const (.agg #[(I 0), (I 0), (sl 0 0 0 0)])))]) 1,
    op 8 (.insert 3 (.tmp 8) (.tmp 8) (.global 26)),
    op 9 (.move (.const (I 2)))])
  .ret)
  .skip))
(.seq (reg [op 27 (call (.func 453) #[(.tmp 4)]) 1,
  op 10 (.box 3 (.const (.agg #[(I 0), (I 0), (sl 0 0 0 0)]))),
  opn (.store 3 (.tmp 10) (.global 27))])
(.seq (reg [op 28 (.move (.tmp 1)) 1,
  op 29 (.move (.tmp 2)) 1,
  op 30 (call (.func 551) #[(.tmp 10), (.global 28), (.global 29), (.tmp 7)]) 1])
(.seq (reg [op 31 (.load 4 (.tmp 10)) 1,
  op 8 (.insert 3 (.tmp 8) (.tmp 8) (.global 31)),
  op 9 (.move (.const (I 0)))])
.ret)))))), [(8, 1000004), (9, 0)]⟩

/-- spec.DrawPartOf -/
def fn364 : AFun := ⟨1,
(.seq (reg [op 2 (.move (.const (.agg #[(I 0), (I 0), (sl 0 0 0 0)]))),
  op 3 (.move (.const (I 0))),
  op 4 (.move (.const (I 0))),
  op 5 (.move (.const (I 0))),
  op 6 (.move (.const (I 0)))])
(.seq (reg [op 12 (.move (.tmp 0)) 1,
  op 13 (call (.func 431) #[(.global 12)]) 1,
  op 7 (.move (.global 13))])
(.seq (reg [op 14 (.move (.tmp 7)) 1,
  op 15 (call (.func 443) #[(.global 14)]) 1,
  op 8 (.move (.const (.agg #[(I 0), (I 0), (sl 0 0 0 0)]))),
  op 8 (.insert 3 (.tmp 8) (.tmp 8) (.global 15))])
(.seq (reg [op 16 (.move (.tmp 7)) 1,
  op 17 (call (.func 7) #[(.global 16), (.const (I 3))]) 1,
  op 18 (.move (.tmp 7)) 1,
  op 19 (call (.func 7) #[(.global 18), (.const (I 16))]) 1,
  op 20 (.binOp .quo 0 (.global 19) (.const (I 15)) 0) 1,
  op 21 (.binOp .sub 0 (.global 17) (.global 20) 0) 1,
  op 9 (.move (.global 21))])
(.seq (reg [op 22 (.move (.tmp 7)) 1,
  op 23 (call (.func 7) #[(.global 22), (.const (I 3))]) 1,
  op 24 (.move (.tmp 7)) 1,
  op 25 (call (.func 7) #[(.global 24), (.const (I 16))]) 1,
  op 26 (.binOp .quo 0 (.global 25) (.const (I 15)) 0) 1,
  op 27 (.binOp .sub 0 (.global 23) (.global 26) 0) 1,
  op 10 (.move (.global 27))])
(.seq (reg [op 28 (.move (.tmp 7)) 1,
  op 29 (call (.func 7) #[(.global 28), (.const (I 3))]) 1,
  op 30 (.binOp .add 0 (.const (I 1)) (.global 29) 0) 1,
  op 31 (.move (.tmp 7)) 1,
  op 32 (call (.func 7) #[(.global 31), (.const (I 16))]) 1,
  op 33 (.binOp .quo 0 (.global 32) (.const (I 15)) 0) 1,
  op 34 (.binOp .sub 0 (.global 30) (.global 33) 0) 1,
  op 11 (.move (.global 34))])
(.seq (reg [op 35 (.lookup 4 (.tmp 8) (.tmp 8) false) 1,
  op 36 (.move (.tmp 9)) 1,
  op 37 (.move (.tmp 10)) 1,
  op 38 (.move (.tmp 11)) 1,
  op 39 (.move (.tmp 7)) 1,
  op 40 (call (.func 7) #[(.global 39), (.const (I 3))]) 1,
  op 41 (.binOp .add 0 (.const (I 1)) (.global 40) 0) 1,
  op 2 (.insert 3 (.tmp 2) (.tmp 2) (.global 35)),
  op 3 (.move (.global 36)),
  op 4 (.move (.global 37)),
  op 5 (.move (.global 38)),
  op 6 (.move (.global 41))])
.ret))))))), [(2, 1000004), (3, 0), (4, 0), (5, 0), (6, 0)]⟩

/-- impl.PartOf -/
def fn111 : AFun := ⟨5,
(.seq (reg [op 5 (.makeChan 3 (.tmp 0)),
  op 10 (.move (.const (.agg #[(I 0), (I 0), (sl 0 0 0 0)]))),
  op 11 (.move (.const (I 0)))])
(.seq (.seq (reg [op 15 (.lookup 4 (.tmp 5) (.tmp 5) false) 1,
  op 16 (call (.func 140) #[(.global 15)]) 1,
  op 17 (.unOp .not 0 (.global 16))])
(.cond (.tmp 17)
  (.seq (reg [op 18 (.build 0 #[(0, (.const (.agg #[(I 0), (I 0), (sl 0 0 0 0)])))]) 1,
    op 10 (.insert 3 (.tmp 10) (.tmp 10) (.global 18)),
    op 11 (.move (.const (I 1)))])
  .ret)
  .skip))
(.seq (.seq (reg [op 19 (.lookup 4 (.tmp 5) (.tmp 5) false) 1,
  op 20 (.move (.tmp 1)) 1,
  op 21 (.move (.tmp 2)) 1,
  op 22 (.move (.tmp 3)) 1,
  op 23 (.move (.tmp 4)) 1,
  op 24 (call (.func 33) #[(.global 19), (.global 20), (.global 21), (.global 22), (.global 23)]) 1,
  op 25 (.unOp .not 0 (.global 24))])
(.cond (.tmp 25)
  (.seq (reg [op 26 (.build 0 #[(0, (.const (.agg #[(I 0), (I 0), (sl 0 0 0 0)])))]) 1,
    op 10 (.insert 3 (.tmp 10) (.tmp 10) (.global 26)),
    op 11 (.move (.const (I 2)))])
  .ret)
  .skip))
(.seq (reg [op 27 (.move (.tmp 3)) 1,
  op 28 (.move (.tmp 4)) 1,
  op 29 (call (.func 177) #[(.global 27), (.global 28)]) 1,
  op 12 (.move (.const (.agg #[(I 0), (I 0), (sl 0 0 0 0)]))),
  op 12 (.insert 3 (.tmp 12) (.tmp 12) (.global 29))])
(.seq (.seq (reg [op 30 (.lookup 4 (.tmp 12) (.tmp 12) false) 1,
  op 31 (call (.func 49) #[(.global 30)]),
  op 32 (bi .len #[(.tmp 31)] 1),
  op 33 (.move (.const (I 0)))])
(.block 0
  (.loop
    (.seq (reg [op 34 (.binOp .lss 0 (.tmp 33) (.tmp 32) 0)])
    (.seq (.cond (.tmp 34)
      .skip
      (.exit 0))
    (.seq (.block 1
      (.seq (reg [op 35 (.move (.tmp 33)) 1,
        op 36 (.indexAddr 5 (.tmp 31) (.tmp 33)) 1,
        op 37 (.load 3 (.global 36)) 1,
        op 14 (.move (.const (.agg #[(I 0), (I 0)]))),
        op 13 (.move (.global 35)),
        op 14 (.insert 2 (.tmp 14) (.tmp 14) (.global 37))])
      (reg [op 38 (.fieldAddr 2 (.tmp 12) 1) 1,
        op 39 (.lookup 0 (.tmp 12) (.global 38) false) 1,
        op 40 (.move (.tmp 13)) 1,
        op 41 (.fieldAddr 2 (.tmp 5) 1) 1,
        op 42 (.lookup 0 (.tmp 5) (.global 41) false) 1,
        op 43 (.lookup 4 (.tmp 5) (.tmp 5) false) 1,
        op 44 (.lookup 3 (.tmp 14) (.tmp 14) false) 1,
        op 45 (.move (.tmp 1)) 1,
        op 46 (.move (.tmp 2)) 1,
        op 47 (call (.func 188) #[(.global 44), (.global 45), (.global 46)]) 1,
        op 48 (call (.func 40) #[(.global 43), (.global 47)]) 1,
        op 49 (.indexAddr 3 (.global 42) (.global 48)) 1,
        op 50 (.load 0 (.global 49)) 1,
        op 51 (.indexAddr 3 (.global 39) (.global 40)) 1,
        opn (.store 1 (.global 51) (.global 50))])))
    (reg [op 52 (.binOp .add 0 (.tmp 33) (.const (I 1)) 0) 1,
      op 33 (.move (.global 52))])))))))
(.seq (reg [op 53 (.lookup 4 (.tmp 12) (.tmp 12) false) 1,
  op 10 (.insert 3 (.tmp 10) (.tmp 10) (.global 53)),
  op 11 (.move (.const (I 0)))])
.ret)))))), [(10, 1000004), (11, 0)]⟩

/-- spec.PartOf -/
def fn403 : AFun := ⟨5,
(.seq (reg [op 5 (.box 3 (.tmp 0)),
  op 10 (.move (.const (.agg #[(I 0), (I 0), (sl 0 0 0 0)]))),
  op 11 (.move (.const (I 0)))])
(.seq (.seq (reg [op 15 (call (.func 452) #[(.tmp 5)]) 1,
  op 16 (.unOp .not 0 (.global 15))])
(.cond (.tmp 16)
  (.seq (reg [op 17 (.build 0 #[(0, (.const (.agg #[(I 0), (I 0), (sl 0 0 0 0)])))]) 1,
    op 10 (.insert 3 (.tmp 10) (.tmp 10) (.global 17)),
    op 11 (.move (.const (I 1)))])
  .ret)
  .skip))
(.seq (.seq (reg [op 18 (.move (.tmp 1)) 1,
  op 19 (.move (.tmp 2)) 1,
  op 20 (.move (.tmp 3)) 1,
  op 21 (.move (.tmp 4)) 1,
  op 22 (call (.func 549) #[(.tmp 5), (.global 18), (.global 19), (.global 20), (.global 21)]) 1,
  op 23 (.unOp .not 0 (.global 22))])
(.cond (.tmp 23)
  (.seq (reg [op 24 (.build 0 #[(0, (.const (.agg #[(I 0), (I 0), (sl 0 0 0 0)])))]) 1,
    op 10 (.insert 3 (.tmp 10) (.tmp 10) (.global 24)),
    op 11 (.move (.const (I 2)))])
  .ret)
  .skip))
(.seq (reg [op 25 (.move (.tmp 3)) 1,
  op 26 (.move (.tmp 4)) 1,
  op 27 (call (.func 450) #[(.global 25), (.global 26)]) 1,
  op 12 (.box 3 (.const (.agg #[(I 0), (I 0), (sl 0 0 0 0)]))),
  opn (.store 3 (.tmp 12) (.global 27))])
(.seq (.seq (reg [op 13 (.move (.const (I 0)))])
(.block 0
  (.loop
    (.seq (.seq (reg [op 28 (.move (.tmp 13)) 1,
      op 29 (.fieldAddr 2 (.tmp 12) 0) 1,
      op 30 (.load 0 (.global 29)) 1,
      op 31 (bi .len #[(.global 30)] 1) 1,
      op 32 (.binOp .lss 0 (.global 28) (.global 31) 0)])
    (.cond (.tmp 32)
      .skip
      (.exit 0)))
    (.seq (.block 1
      (.seq (reg [op 35 (.move (.tmp 13)) 1,
        op 36 (call (.func 454) #[(.tmp 12), (.global 35)]) 1,
        op 14 (.move (.const (.agg #[(I 0), (I 0)]))),
        op 14 (.insert 2 (.tmp 14) (.tmp 14) (.global 36))])
      (reg [op 37 (.fieldAddr 2 (.tmp 12) 0) 1,
        op 38 (.load 0 (.global 37)) 1,
        op 39 (.move (.tmp 13)) 1,
        op 40 (.fieldAddr 2 (.tmp 5) 0) 1,
        op 41 (.load 0 (.global 40)) 1,
        op 42 (.fieldAddr 0 (.tmp 14) 1) 1,
        op 43 (.lookup 0 (.tmp 14) (.global 42) false) 1,
        op 44 (.move (.tmp 1)) 1,
        op 45 (.binOp .mul 0 (.const (I 2)) (.global 44) 0) 1,
        op 46 (.binOp .add 0 (.global 43) (.global 45) 0) 1,
        op 47 (.fieldAddr 1 (.tmp 14) 1) 1,
        op 48 (.lookup 0 (.tmp 14) (.global 47) false) 1,
        op 49 (.move (.tmp 2)) 1,
        op 50 (.binOp .mul 0 (.const (I 2)) (.global 49) 0) 1,
        op 51 (.binOp .add 0 (.global 48) (.global 50) 0) 1,
        op 52 (.build 0 #[(0, (.const (.agg #[(I 0), (I 0)]))), (1, (.global 46)), (1001, (.global 51))]) 1,
        op 53 (call (.func 451) #[(.tmp 5), (.global 52)]) 3,
        op 54 (.indexAddr 3 (.global 41) (.global 53)) 1,
        op 55 (.load 0 (.global 54)) 1,
        op 56 (.indexAddr 3 (.global 38) (.global 39)) 1,
        opn (.store 1 (.global 56) (.global 55))])))
    (reg [op 33 (.move (.tmp 13)) 1,
      op 34 (.binOp .add 0 (.global 33) (.const (I 1)) 0) 1,
      op 13 (.move (.global 34))]))))))
(.seq (reg [op 57 (.load 4 (.tmp 12)) 1,
  op 10 (.insert 3 (.tmp 10) (.tmp 10) (.global 57)),
  op 11 (.move (.const (I 0)))])
.ret)))))), [(10, 1000004), (11, 0)]⟩

/-- spec.DrawJoinBeside -/
def fn355 : AFun := ⟨1,
(.seq (reg [op 2 (.move (.const (.agg #[(I 0), (I 0), (sl 0 0 0 0)]))),
  op 3 (.move (.const (.agg #[(I 0), (I 0), (sl 0 0 0 0)])))])
(.seq (reg [op 9 (.move (.tmp 0)) 1,
  op 10 (call (.func 431) #[(.global 9)]) 1,
  op 4 (.move (.global 10))])
(.seq (reg [op 11 (.move (.tmp 4)) 1,
  op 12 (call (.func 443) #[(.global 11)]) 1,
  op 5 (.box 3 (.const (.agg #[(I 0), (I 0), (sl 0 0 0 0)]))),
  opn (.store 3 (.tmp 5) (.global 12))])
(.seq (reg [op 13 (.move (.tmp 4)) 1,
  op 14 (call (.func 443) #[(.global 13)]) 1,
  op 6 (.box 3 (.const (.agg #[(I 0), (I 0), (sl 0 0 0 0)]))),
  opn (.store 3 (.tmp 6) (.global 14))])
(.seq (.seq (reg [op 15 (call (.func 452) #[(.tmp 5)]) 1,
  op 16 (.move (.global 15)) 1,
  op 17 (call (.func 452) #[(.tmp 6)]) 1 (some (65, true)),
  op 18 (.pick (.global 16) (.global 17) (.const (B false))) 1,
  op 19 (.move (.global 18)) 1,
  op 20 (.move (.tmp 4)) 1 (some (77, true)),
  op 21 (call (.func 6) #[(.global 20), (.const (I 2))]) 1 (some (77, true)),
  op 22 (.pick (.global 19) (.global 21) (.const (B false)))])
(.cond (.tmp 22)
  (.seq (reg [op 23 (.move (.tmp 4)) 1,
    op 24 (call (.func 7) #[(.global 23), (.const (I 5))]) 1,
    op 25 (.binOp .add 0 (.const (I 1)) (.global 24) 0) 1,
    op 7 (.move (.global 25))])
  (.seq (reg [op 26 (.move (.tmp 7)) 1,
    op 27 (.fieldAddr 1 (.tmp 5) 0) 1,
    op 28 (.load 0 (.global 27)) 1,
    op 29 (call (.func 450) #[(.global 26), (.global 28)]) 1,
    op 8 (.box 3 (.const (.agg #[(I 0), (I 0), (sl 0 0 0 0)]))),
    opn (.store 3 (.tmp 8) (.global 29))])
  (.seq (reg [op 30 (.load 4 (.tmp 5)) 1,
    op 31 (.move (.tmp 4)) 1,
    op 32 (call (.func 555) #[(.global 31), (.tmp 8)]) 45,
    op 2 (.insert 3 (.tmp 2) (.tmp 2) (.global 30)),
    op 3 (.insert 3 (.tmp 3) (.tmp 3) (.global 32))])
  .ret)))
  .skip))
(.seq (reg [op 33 (.load 4 (.tmp 5)) 1,
  op 34 (.load 4 (.tmp 6)) 1,
  op 2 (.insert 3 (.tmp 2) (.tmp 2) (.global 33)),
  op 3 (.insert 3 (.tmp 3) (.tmp 3) (.global 34))])
.ret)))))), [(2, 1000004), (3, 1000004)]⟩

/-- impl.JoinBeside -/
def fn92 : AFun := ⟨2,
(.seq (reg [op 2 (.makeChan 3 (.tmp 0)),
  op 3 (.makeChan 3 (.tmp 1)),
  op 4 (.move (.const (.agg #[(I 0), (I 0), (sl 0 0 0 0)]))),
  op 5 (.move (.const (I 0)))])
(.seq (.seq (reg [op 8 (.lookup 4 (.tmp 2) (.tmp 2) false) 1,
  op 9 (call (.func 140) #[(.global 8)]) 1,
  op 10 (.unOp .not 0 (.global 9)) 1,
  op 11 (.move (.global 10)) 1,
  op 12 (.lookup 4 (.tmp 3) (.tmp 3) false) 1 (some (45, false)),
  op 13 (call (.func 140) #[(.global 12)]) 1 (some (45, false)),
  op 14 (.unOp .not 0 (.global 13)) 1 (some (45, false)),
  op 15 (.pick (.global 11) (.const (B true)) (.global 14))])
(.cond (.tmp 15)
  (.seq (reg [op 16 (.build 0 #[(0, (.const (.agg #[(I 0), (I 0), (sl 0 0 0 0)])))]) 1,
    op 4 (.insert 3 (.tmp 4) (.tmp 4) (.global 16)),
    op 5 (.move (.const (I 1)))])
  .ret)
  .skip))
(.seq (.seq (reg [op 17 (.fieldAddr 1 (.tmp 2) 1) 1,
  op 18 (.lookup 0 (.tmp 2) (.global 17) false) 1,
  op 19 (.fieldAddr 1 (.tmp 3) 1) 1,
  op 20 (.lookup 0 (.tmp 3) (.global 19) false) 1,
  op 21 (.binOp .neq 0 (.global 18) (.global 20) 0)])
(.cond (.tmp 21)
  (.seq (reg [op 22 (.build 0 #[(0, (.const (.agg #[(I 0), (I 0), (sl 0 0 0 0)])))]) 1,
    op 4 (.insert 3 (.tmp 4) (.tmp 4) (.global 22)),
    op 5 (.move (.const (I 6)))])
  .ret)
  .skip))
(.seq (.seq (reg [op 23 (.fieldAddr 0 (.tmp 2) 1) 1,
  op 24 (.lookup 0 (.tmp 2) (.global 23) false) 1,
  op 25 (.fieldAddr 0 (.tmp 3) 1) 1,
  op 26 (.lookup 0 (.tmp 3) (.global 25) false) 1,
  op 27 (.binOp .add 0 (.global 24) (.global 26) 0) 1,
  op 28 (.binOp .gtr 0 (.global 27) (.const (I 8)) 0)])
(.cond (.tmp 28)
  (.seq (reg [op 29 (.build 0 #[(0, (.const (.agg #[(I 0), (I 0), (sl 0 0 0 0)])))]) 1,
    op 4 (.insert 3 (.tmp 4) (.tmp 4) (.global 29)),
    op 5 (.move (.const (I 5)))])
  .ret)
  .skip))
(.seq (reg [op 30 (.fieldAddr 0 (.tmp 2) 1) 1,
  op 31 (.lookup 0 (.tmp 2) (.global 30) false) 1,
  op 32 (.fieldAddr 0 (.tmp 3) 1) 1,
  op 33 (.lookup 0 (.tmp 3) (.global 32) false) 1,
  op 34 (.binOp .add 0 (.global 31) (.global 33) 0) 1,
  op 35 (.fieldAddr 1 (.tmp 2) 1) 1,
  op 36 (.lookup 0 (.tmp 2) (.global 35) false) 1,
  op 37 (call (.func 177) #[(.global 34), (.global 36)]) 1,
  op 6 (.move (.const (.agg #[(I 0), (I 0), (sl 0 0 0 0)]))),
  op 6 (.insert 3 (.tmp 6) (.tmp 6) (.global 37))])
(.seq (.seq (reg [op 7 (.move (.const (I 1)))])
(.block 0
  (.loop
    (.seq (.seq (reg [op 38 (.move (.tmp 7)) 1,
      op 39 (.fieldAddr 1 (.tmp 2) 1) 1,
      op 40 (.lookup 0 (.tmp 2) (.global 39) false) 1,
      op 41 (.binOp .mul 0 (.const (I 2)) (.global 40) 0) 1,
      op 42 (.binOp .lss 0 (.global 38) (.global 41) 0)])
    (.cond (.tmp 42)
      .skip
      (.exit 0)))
    (.seq (.block 1
      (reg [op 45 (.fieldAddr 2 (.tmp 6) 1) 1,
        op 46 (.lookup 0 (.tmp 6) (.global 45) false) 1,
        op 47 (.lookup 4 (.tmp 6) (.tmp 6) false) 1,
        op 48 (.fieldAddr 0 (.tmp 2) 1) 1,
        op 49 (.lookup 0 (.tmp 2) (.global 48) false) 1,
        op 50 (.binOp .mul 0 (.const (I 2)) (.global 49) 0) 1,
        op 51 (.move (.tmp 7)) 1,
        op 52 (.build 0 #[(0, (.const (.agg #[(I 0), (I 0)]))), (1, (.global 50)), (1001, (.global 51))]) 1,
        op 53 (call (.func 40) #[(.global 47), (.global 52)]) 1,
        op 54 (.indexAddr 3 (.global 46) (.global 53)) 1,
        opn (.store 1 (.global 54) (.const (I 1)))]))
    (reg [op 43 (.move (.tmp 7)) 1,
      op 44 (.binOp .add 0 (.global 43) (.const (I 2)) 0) 1,
      op 7 (.move (.global 44))]))))))
(.seq (reg [op 55 (.lookup 4 (.tmp 6) (.tmp 6) false) 1,
  op 56 (.lookup 4 (.tmp 2) (.tmp 2) false) 1,
  op 57 (call (.func 46) #[(.global 55), (.const (I 0)), (.const (I 0)), (.global 56)]) 1])
(.seq (reg [op 58 (.lookup 4 (.tmp 6) (.tmp 6) false) 1,
  op 59 (.fieldAddr 0 (.tmp 2) 1) 1,
  op 60 (.lookup 0 (.tmp 2) (.global 59) false) 1,
  op 61 (.lookup 4 (.tmp 3) (.tmp 3) false) 1,
  op 62 (call (.func 46) #[(.global 58), (.global 60), (.const (I 0)), (.global 61)]) 1])
(.seq (reg [op 63 (.lookup 4 (.tmp 6) (.tmp 6) false) 1,
  op 4 (.insert 3 (.tmp 4) (.tmp 4) (.global 63)),
  op 5 (.move (.const (I 0)))])
.ret))))))))), [(4, 1000004), (5, 0)]⟩

/-- spec.JoinBeside -/
def fn384 : AFun := ⟨2,
(.seq (reg [op 2 (.box 3 (.tmp 0)),
  op 3 (.box 3 (.tmp 1)),
  op 4 (.move (.const (.agg #[(I 0), (I 0), (sl 0 0 0 0)]))),
  op 5 (.move (.const (I 0)))])
(.seq (.seq (reg [op 8 (call (.func 452) #[(.tmp 2)]) 1,
  op 9 (.unOp .not 0 (.global 8)) 1,
  op 10 (.move (.global 9)) 1,
  op 11 (call (.func 452) #[(.tmp 3)]) 1 (some (41, false)),
  op 12 (.unOp .not 0 (.global 11)) 1 (some (41, false)),
  op 13 (.pick (.global 10) (.const (B true)) (.global 12))])
(.cond (.tmp 13)
  (.seq (reg [op 14 (.build 0 #[(0, (.const (.agg #[(I 0), (I 0), (sl 0 0 0 0)])))]) 1,
    op 4 (.insert 3 (.tmp 4) (.tmp 4) (.global 14)),
    op 5 (.move (.const (I 1)))])
  .ret)
  .skip))
(.seq (.seq (reg [op 15 (.fieldAddr 1 (.tmp 2) 0) 1,
  op 16 (.load 0 (.global 15)) 1,
  op 17 (.fieldAddr 1 (.tmp 3) 0) 1,
  op 18 (.load 0 (.global 17)) 1,
  op 19 (.binOp .neq 0 (.global 16) (.global 18) 0)])
(.cond (.tmp 19)
  (.seq (reg [op 20 (.build 0 #[(0, (.const (.agg #[(I 0), (I 0), (sl 0 0 0 0)])))]) 1,
    op 4 (.insert 3 (.tmp 4) (.tmp 4) (.global 20)),
    op 5 (.move (.const (I 6)))])
  .ret)
  .skip))
(.seq (.seq (reg [op 21 (.fieldAddr 0 (.tmp 2) 0) 1,
  op 22 (.load 0 (.global 21)) 1,
  op 23 (.fieldAddr 0 (.tmp 3) 0) 1,
  op 24 (.load 0 (.global 23)) 1,
  op 25 (.binOp .add 0 (.global 22) (.global 24) 0) 1,
  op 26 (call (.func 457) #[(.global 25)]) 1,
  op 27 (.unOp .not 0 (.global 26))])
(.cond (.tmp 27)
  (.seq (reg [op 28 (.build 0 #[(0, (.const (.agg #[(I 0), (I 0), (sl 0 0 0 0)])))]) 1,
    op 4 (.insert 3 (.tmp 4) (.tmp 4) (.global 28)),
    op 5 (.move (.const (I 5)))])
  .ret)
  .skip))
(.seq (reg [op 29 (.fieldAddr 0 (.tmp 2) 0) 1,
  op 30 (.load 0 (.global 29)) 1,
  op 31 (.fieldAddr 0 (.tmp 3) 0) 1,
  op 32 (.load 0 (.global 31)) 1,
  op 33 (.binOp .add 0 (.global 30) (.global 32) 0) 1,
  op 34 (.fieldAddr 1 (.tmp 2) 0) 1,
  op 35 (.load 0 (.global 34)) 1,
  op 36 (call (.func 450) #[(.global 33), (.global 35)]) 1,
  op 6 (.box 3 (.const (.agg #[(I 0), (I 0), (sl 0 0 0 0)]))),
  opn (.store 3 (.tmp 6) (.global 36))])
(.seq (reg [op 37 (call (.func 551) #[(.tmp 6), (.const (I 0)), (.const (I 0)), (.tmp 2)]) 1])
(.seq (reg [op 38 (.fieldAddr 0 (.tmp 2) 0) 1,
  op 39 (.load 0 (.global 38)) 1,
  op 40 (call (.func 551) #[(.tmp 6), (.global 39), (.const (I 0)), (.tmp 3)]) 1])
(.seq (.seq (reg [op 7 (.move (.const (I 1)))])
(.block 0
  (.loop
    (.seq (.seq (reg [op 41 (.move (.tmp 7)) 1,
      op 42 (.fieldAddr 1 (.tmp 2) 0) 1,
      op 43 (.load 0 (.global 42)) 1,
      op 44 (.binOp .mul 0 (.const (I 2)) (.global 43) 0) 1,
      op 45 (.binOp .lss 0 (.global 41) (.global 44) 0)])
    (.cond (.tmp 45)
      .skip
      (.exit 0)))
    (.seq (.block 1
      (reg [op 48 (.fieldAddr 2 (.tmp 6) 0) 1,
        op 49 (.load 0 (.global 48)) 1,
        op 50 (.fieldAddr 0 (.tmp 2) 0) 1,
        op 51 (.load 0 (.global 50)) 1,
        op 52 (.binOp .mul 0 (.const (I 2)) (.global 51) 0) 1,
        op 53 (.move (.tmp 7)) 1,
        op 54 (.build 0 #[(0, (.const (.agg #[(I 0), (I 0)]))), (1, (.global 52)), (1001, (.global 53))]) 1,
        op 55 (call (.func 451) #[(.tmp 6), (.global 54)]) 3,
        op 56 (.indexAddr 3 (.global 49) (.global 55)) 1,
        opn (.store 1 (.global 56) (.const (I 1)))]))
    (reg [op 46 (.move (.tmp 7)) 1,
      op 47 (.binOp .add 0 (.global 46) (.const (I 2)) 0) 1,
      op 7 (.move (.global 47))]))))))
(.seq (reg [op 57 (.load 4 (.tmp 6)) 1,
  op 4 (.insert 3 (.tmp 4) (.tmp 4) (.global 57)),
  op 5 (.move (.const (I 0)))])
.ret))))))))), [(4, 1000004), (5, 0)]⟩

/-- laws.f6ints -/
def fn271 : AFun := ⟨2,
(.seq (reg [op 4 (.move (.const (B false)))])
(.seq (.seq (reg [op 6 (.move (.tmp 0)) 1,
  op 7 (bi .len #[(.global 6)] 1) 1,
  op 8 (.move (.tmp 1)) 1,
  op 9 (bi .len #[(.global 8)] 1) 1,
  op 10 (.binOp .neq 0 (.global 7) (.global 9) 0)])
(.cond (.tmp 10)
  (.seq (reg [op 4 (.move (.const (B false)))])
  .ret)
  .skip))
(.seq (.seq (reg [op 5 (.move (.const (I 0)))])
(.block 0
  (.loop
    (.seq (.seq (reg [op 11 (.move (.tmp 5)) 1,
      op 12 (.move (.tmp 0)) 1,
      op 13 (bi .len #[(.global 12)] 1) 1,
      op 14 (.binOp .lss 0 (.global 11) (.global 13) 0)])
    (.cond (.tmp 14)
      .skip
      (.exit 0)))
    (.seq (.block 1
      (.seq (reg [op 17 (.move (.tmp 0)) 1,
        op 18 (.move (.tmp 5)) 1,
        op 19 (.indexAddr 3 (.global 17) (.global 18)) 1,
        op 20 (.load 0 (.global 19)) 1,
        op 21 (.move (.tmp 1)) 1,
        op 22 (.move (.tmp 5)) 1,
        op 23 (.indexAddr 3 (.global 21) (.global 22)) 1,
        op 24 (.load 0 (.global 23)) 1,
        op 25 (.binOp .neq 0 (.global 20) (.global 24) 0)])
      (.cond (.tmp 25)
        (.seq (reg [op 4 (.move (.const (B false)))])
        .ret)
        .skip)))
    (reg [op 15 (.move (.tmp 5)) 1,
      op 16 (.binOp .add 0 (.global 15) (.const (I 1)) 0) 1,
      op 5 (.move (.global 16))]))))))
(.seq (reg [op 4 (.move (.const (B true)))])
.ret)))), [(4, 0)]⟩

/-- impl.CountCurves -/
def fn72 : AFun := ⟨1,
(.seq (reg [op 1 (.makeChan 3 (.tmp 0)),
  op 2 (.move (.const (I 0))),
  op 3 (.move (.const (I 0)))])
(.seq (.seq (reg [op 4 (.lookup 4 (.tmp 1) (.tmp 1) false) 1,
  op 5 (call (.func 140) #[(.global 4)]) 1,
  op 6 (.unOp .not 0 (.global 5))])
(.cond (.tmp 6)
  (.seq (reg [op 2 (.move (.const (I 0))),
    op 3 (.move (.const (I 1)))])
  .ret)
  .skip))
(.seq (reg [op 7 (.lookup 4 (.tmp 1) (.tmp 1) false) 1,
  op 8 (call (.func 154) #[(.global 7)]) 1,
  op 2 (.move (.global 8)),
  op 3 (.move (.const (I 0)))])
.ret))), [(2, 0), (3, 0)]⟩

/-- spec.l02Bent -/
def fn443 : AFun := ⟨1,
(.seq (reg [op 2 (.move (.const (.agg #[(I 0), (I 0), (sl 0 0 0 0)])))])
(.seq (reg [op 4 (.move (.tmp 0)) 1,
  op 5 (call (.func 445) #[(.global 4), (.const (I 5))]) 1,
  op 3 (.move (.const (.agg #[(I 0), (I 0), (sl 0 0 0 0)]))),
  op 3 (.insert 3 (.tmp 3) (.tmp 3) (.global 5))])
(.seq (.seq (reg [op 6 (.move (.tmp 0)) 1,
  op 7 (call (.func 7) #[(.global 6), (.const (I 20))])])
(.block 0
  (.seq (reg [op 9 (.binOp .eql 0 (.tmp 7) (.const (I 0)) 0) 1,
    op 8 (.move (.global 9))])
  (.cond (.tmp 8)
    (reg [op 10 (.move (.tmp 0)) 1,
      op 11 (.buildSlice 1 4 #[(0, (.const (.agg #[(I 0), (I 0), (I 0), (I 0)]))), (1, (.const (I 0))), (1001, (.const (I 8))), (2001, (.const (I 9))), (3001, (.const (I (-9223372036854775808))))]) 1,
      op 12 (call (.func 4) #[(.global 10), (.global 11)]) 1,
      op 13 (.fieldAddr 0 (.tmp 3) 1) 1,
      op 3 (.insert 1 (.tmp 3) (.global 13) (.global 12))])
    (.seq (reg [op 15 (.binOp .eql 0 (.tmp 7) (.const (I 1)) 0) 1,
      op 14 (.move (.global 15))])
    (.cond (.tmp 14)
      (reg [op 16 (.fieldAddr 2 (.tmp 3) 1) 1,
        op 17 (.lookup 0 (.tmp 3) (.global 16) false) 1,
        op 18 (.buildSlice 1 1 #[(0, (.const (.agg #[(I 0)]))), (1, (.const (I 0)))]) 1,
        op 19 (bi .append #[(.global 17), (.global 18)] 1) 1,
        op 20 (.fieldAddr 2 (.tmp 3) 1) 1,
        op 3 (.insert 1 (.tmp 3) (.global 20) (.global 19))])
      (.seq (reg [op 22 (.binOp .eql 0 (.tmp 7) (.const (I 2)) 0) 1,
        op 21 (.move (.global 22))])
      (.cond (.tmp 21)
        (.seq (reg [op 23 (.fieldAddr 2 (.tmp 3) 1) 1,
          op 24 (.lookup 0 (.tmp 3) (.global 23) false) 1,
          op 25 (bi .len #[(.global 24)] 1) 1,
          op 26 (.binOp .gtr 0 (.global 25) (.const (I 0)) 0)])
        (.cond (.tmp 26)
          (reg [op 27 (.fieldAddr 2 (.tmp 3) 1) 1,
            op 28 (.lookup 0 (.tmp 3) (.global 27) false) 1,
            op 29 (.move (.tmp 0)) 1,
            op 30 (.fieldAddr 2 (.tmp 3) 1) 1,
            op 31 (.lookup 0 (.tmp 3) (.global 30) false) 1,
            op 32 (bi .len #[(.global 31)] 1) 1,
            op 33 (call (.func 7) #[(.global 29), (.global 32)]) 1,
            op 34 (.move (.tmp 0)) 1,
            op 35 (.buildSlice 1 3 #[(0, (.const (.agg #[(I 0), (I 0), (I 0)]))), (1, (.const (I (-1)))), (1001, (.const (I 2))), (2001, (.const (I 3)))]) 1,
            op 36 (call (.func 4) #[(.global 34), (.global 35)]) 1,
            op 37 (.indexAddr 3 (.global 28) (.global 33)) 1,
            opn (.store 1 (.global 37) (.global 36))])
          .skip))
        (.seq (reg [op 39 (.binOp .eql 0 (.tmp 7) (.const (I 3)) 0) 1,
          op 38 (.move (.global 39))])
        (.cond (.tmp 38)
          (reg [op 40 (call (.func 450) #[(.const (I 8)), (.const (I 8))]) 1,
            op 3 (.insert 3 (.tmp 3) (.tmp 3) (.global 40))])
          .skip))))))))))
(.seq (reg [op 41 (.lookup 4 (.tmp 3) (.tmp 3) false) 1,
  op 2 (.insert 3 (.tmp 2) (.tmp 2) (.global 41))])
.ret)))), [(2, 1000004)]⟩

/-- spec.l00From -/
def fn431 : AFun := ⟨1,
(.seq (reg [op 2 (.move (.const (.pointer none)))])
(.seq (reg [op 3 (.move (.tmp 0)) 1,
  op 4 (.build 0 #[(0, (.const (.agg #[(sl 0 0 0 0), (I 0), (.int .u64 0)]))), (1, (.global 3))]) 1,
  op 5 (.box 3 (.global 4)) 1,
  op 2 (.move (.global 5))])
.ret)), [(2, 0)]⟩

/-- impl.ValidPanel -/
def fn140 : AFun := ⟨1,
(.seq (reg [op 1 (.makeChan 3 (.tmp 0)),
  op 2 (.move (.const (B false)))])
(.seq (.seq (reg [op 5 (.fieldAddr 0 (.tmp 1) 1) 1,
  op 6 (.lookup 0 (.tmp 1) (.global 5) false) 1,
  op 7 (.fieldAddr 1 (.tmp 1) 1) 1,
  op 8 (.lookup 0 (.tmp 1) (.global 7) false) 1,
  op 9 (call (.func 198) #[(.global 6), (.global 8)]) 1,
  op 10 (.unOp .not 0 (.global 9)) 1,
  op 11 (.move (.global 10)) 1,
  op 12 (.fieldAddr 2 (.tmp 1) 1) 1 (some (45, false)),
  op 13 (.lookup 0 (.tmp 1) (.global 12) false) 1 (some (45, false)),
  op 14 (bi .len #[(.global 13)] 1) 1 (some (45, false)),
  op 15 (.fieldAddr 0 (.tmp 1) 1) 1 (some (45, false)),
  op 16 (.lookup 0 (.tmp 1) (.global 15) false) 1 (some (45, false)),
  op 17 (.fieldAddr 1 (.tmp 1) 1) 1 (some (45, false)),
  op 18 (.lookup 0 (.tmp 1) (.global 17) false) 1 (some (45, false)),
  op 19 (call (.func 166) #[(.global 16), (.global 18)]) 1 (some (45, false)),
  op 20 (.binOp .neq 0 (.global 14) (.global 19) 0) 1 (some (45, false)),
  op 21 (.pick (.global 11) (.const (B true)) (.global 20))])
(.cond (.tmp 21)
  (.seq (reg [op 2 (.move (.const (B false)))])
  .ret)
  .skip))
(.seq (.seq (reg [op 22 (.fieldAddr 2 (.tmp 1) 1) 1,
  op 23 (.lookup 0 (.tmp 1) (.global 22) false),
  op 24 (bi .len #[(.tmp 23)] 1),
  op 25 (.move (.const (I 0)))])
(.block 0
  (.loop
    (.seq (reg [op 26 (.binOp .lss 0 (.tmp 25) (.tmp 24) 0)])
    (.seq (.cond (.tmp 26)
      .skip
      (.exit 0))
    (.seq (.block 1
      (.seq (reg [op 27 (.indexAddr 3 (.tmp 23) (.tmp 25)) 1,
        op 28 (.load 0 (.global 27)) 1,
        op 4 (.move (.global 28))])
      (.seq (reg [op 29 (.move (.tmp 4)) 1,
        op 30 (call (.func 196) #[(.global 29)]) 1,
        op 31 (.unOp .not 0 (.global 30))])
      (.cond (.tmp 31)
        (.seq (reg [op 2 (.move (.const (B false)))])
        .ret)
        .skip))))
    (reg [op 32 (.binOp .add 0 (.tmp 25) (.const (I 1)) 0) 1,
      op 25 (.move (.global 32))])))))))
(.seq (reg [op 2 (.move (.const (B true)))])
.ret)))), [(2, 0)]⟩

/-- spec.l02Ok -/
def fn452 : AFun := ⟨1,
(.seq (reg [op 2 (.move (.const (B false)))])
(.seq (.seq (reg [op 4 (.move (.tmp 0)) 1,
  op 5 (.nilCheck (.global 4)) 1,
  op 6 (.fieldAddr 0 (.global 5) 0) 1,
  op 7 (.load 0 (.global 6)) 1,
  op 8 (call (.func 457) #[(.global 7)]) 1,
  op 9 (.unOp .not 0 (.global 8)) 1,
  op 10 (.move (.global 9)) 1,
  op 11 (.move (.tmp 0)) 1 (some (41, false)),
  op 12 (.nilCheck (.global 11)) 1 (some (41, false)),
  op 13 (.fieldAddr 1 (.global 12) 0) 1 (some (41, false)),
  op 14 (.load 0 (.global 13)) 1 (some (41, false)),
  op 15 (call (.func 457) #[(.global 14)]) 1 (some (41, false)),
  op 16 (.unOp .not 0 (.global 15)) 1 (some (41, false)),
  op 17 (.pick (.global 10) (.const (B true)) (.global 16)) 1,
  op 18 (.move (.global 17)) 1,
  op 19 (.move (.tmp 0)) 1 (some (73, false)),
  op 20 (.nilCheck (.global 19)) 1 (some (73, false)),
  op 21 (.fieldAddr 2 (.global 20) 0) 1 (some (73, false)),
  op 22 (.load 0 (.global 21)) 1 (some (73, false)),
  op 23 (bi .len #[(.global 22)] 1) 1 (some (73, false)),
  op 24 (.move (.tmp 0)) 1 (some (73, false)),
  op 25 (.nilCheck (.global 24)) 1 (some (73, false)),
  op 26 (.fieldAddr 0 (.global 25) 0) 1 (some (73, false)),
  op 27 (.load 0 (.global 26)) 1 (some (73, false)),
  op 28 (.move (.tmp 0)) 1 (some (73, false)),
  op 29 (.nilCheck (.global 28)) 1 (some (73, false)),
  op 30 (.fieldAddr 1 (.global 29) 0) 1 (some (73, false)),
  op 31 (.load 0 (.global 30)) 1 (some (73, false)),
  op 32 (call (.func 448) #[(.global 27), (.global 31)]) 3 (some (73, false)),
  op 33 (.binOp .neq 0 (.global 23) (.global 32) 0) 1 (some (73, false)),
  op 34 (.pick (.global 18) (.const (B true)) (.global 33))])
(.cond (.tmp 34)
  (.seq (reg [op 2 (.move (.const (B false)))])
  .ret)
  .skip))
(.seq (.seq (reg [op 3 (.move (.const (I 0)))])
(.block 0
  (.loop
    (.seq (.seq (reg [op 35 (.move (.tmp 3)) 1,
      op 36 (.move (.tmp 0)) 1,
      op 37 (.nilCheck (.global 36)) 1,
      op 38 (.fieldAddr 2 (.global 37) 0) 1,
      op 39 (.load 0 (.global 38)) 1,
      op 40 (bi .len #[(.global 39)] 1) 1,
      op 41 (.binOp .lss 0 (.global 35) (.global 40) 0)])
    (.cond (.tmp 41)
      .skip
      (.exit 0)))
    (.seq (.block 1
      (.seq (reg [op 44 (.move (.tmp 0)) 1,
        op 45 (.nilCheck (.global 44)) 1,
        op 46 (.fieldAddr 2 (.global 45) 0) 1,
        op 47 (.load 0 (.global 46)) 1,
        op 48 (.move (.tmp 3)) 1,
        op 49 (.indexAddr 3 (.global 47) (.global 48)) 1,
        op 50 (.load 0 (.global 49)) 1,
        op 51 (call (.func 432) #[(.global 50), (.const (I 0)), (.const (I 2))]) 1,
        op 52 (.unOp .not 0 (.global 51))])
      (.cond (.tmp 52)
        (.seq (reg [op 2 (.move (.const (B false)))])
        .ret)
        .skip)))
    (reg [op 42 (.move (.tmp 3)) 1,
      op 43 (.binOp .add 0 (.global 42) (.const (I 1)) 0) 1,
      op 3 (.move (.global 43))]))))))
(.seq (reg [op 2 (.move (.const (B true)))])
.ret)))), [(2, 0)]⟩

/-- impl.validSize -/
def fn198 : AFun := ⟨2,
(.seq (reg [op 4 (.move (.const (B false)))])
(.seq (reg [op 5 (.move (.tmp 0)) 1,
  op 6 (call (.func 164) #[(.global 5), (.const (I 1)), (.const (I 8))]) 1,
  op 7 (.move (.global 6)) 1,
  op 8 (.move (.tmp 1)) 1 (some (29, true)),
  op 9 (call (.func 164) #[(.global 8), (.const (I 1)), (.const (I 8))]) 1 (some (29, true)),
  op 10 (.pick (.global 7) (.global 9) (.const (B false))) 1,
  op 4 (.move (.global 10))])
.ret)), [(4, 0)]⟩

/-- (*spec.l00Src).pick -/
def fn7 : AFun := ⟨2,
(.seq (reg [op 4 (.move (.const (I 0)))])
(.seq (.seq (reg [op 6 (.move (.tmp 1)) 1,
  op 7 (.binOp .leq 0 (.global 6) (.const (I 1)) 0)])
(.cond (.tmp 7)
  (.seq (reg [op 4 (.move (.const (I 0)))])
  .ret)
  .skip))
(.seq (reg [op 8 (.move (.tmp 0)) 1,
  op 9 (call (.func 5) #[(.global 8)]) 1,
  op 5 (.move (.global 9))])
(.seq (.seq (reg [op 10 (.move (.tmp 1)) 1,
  op 11 (.binOp .gtr 0 (.global 10) (.const (I 200)) 0)])
(.cond (.tmp 11)
  (reg [op 12 (.move (.tmp 5)) 1,
    op 13 (.binOp .mul 0 (.global 12) (.const (I 256)) 0) 1,
    op 14 (.move (.tmp 0)) 1,
    op 15 (call (.func 5) #[(.global 14)]) 1,
    op 16 (.binOp .add 0 (.global 13) (.global 15) 0) 1,
    op 5 (.move (.global 16))])
  .skip))
(.seq (reg [op 17 (.move (.tmp 5)) 1,
  op 18 (.move (.tmp 1)) 1,
  op 19 (.binOp .rem 0 (.global 17) (.global 18) 0) 1,
  op 4 (.move (.global 19))])
.ret))))), [(4, 0)]⟩

/-- spec.l02Side -/
def fn457 : AFun := ⟨1,
(.seq (reg [op 2 (.move (.const (B false)))])
(.seq (reg [op 3 (.move (.tmp 0)) 1,
  op 4 (call (.func 432) #[(.global 3), (.const (I 1)), (.const (I 8))]) 1,
  op 2 (.move (.global 4))])
.ret)), [(2, 0)]⟩

/-- (*spec.l00Src).one -/
def fn6 : AFun := ⟨2,
(.seq (reg [op 4 (.move (.const (B false)))])
(.seq (reg [op 5 (.move (.tmp 0)) 1,
  op 6 (.move (.tmp 1)) 1,
  op 7 (call (.func 7) #[(.global 5), (.global 6)]) 1,
  op 8 (.binOp .eql 0 (.global 7) (.const (I 0)) 0) 1,
  op 4 (.move (.global 8))])
.ret)), [(4, 0)]⟩

/-- spec.l02Same -/
def fn456 : AFun := ⟨2,
(.seq (reg [op 4 (.move (.const (B false)))])
(.seq (reg [op 5 (.move (.tmp 0)) 1,
  op 6 (.nilCheck (.global 5)) 1,
  op 7 (.fieldAddr 0 (.global 6) 0) 1,
  op 8 (.load 0 (.global 7)) 1,
  op 9 (.move (.tmp 1)) 1,
  op 10 (.nilCheck (.global 9)) 1,
  op 11 (.fieldAddr 0 (.global 10) 0) 1,
  op 12 (.load 0 (.global 11)) 1,
  op 13 (.binOp .eql 0 (.global 8) (.global 12) 0) 1,
  op 14 (.move (.global 13)) 1,
  op 15 (.move (.tmp 0)) 1 (some (57, true)),
  op 16 (.nilCheck (.global 15)) 1 (some (57, true)),
  op 17 (.fieldAddr 1 (.global 16) 0) 1 (some (57, true)),
  op 18 (.load 0 (.global 17)) 1 (some (57, true)),
  op 19 (.move (.tmp 1)) 1 (some (57, true)),
  op 20 (.nilCheck (.global 19)) 1 (some (57, true)),
  op 21 (.fieldAddr 1 (.global 20) 0) 1 (some (57, true)),
  op 22 (.load 0 (.global 21)) 1 (some (57, true)),
  op 23 (.binOp .eql 0 (.global 18) (.global 22) 0) 1 (some (57, true)),
  op 24 (.pick (.global 14) (.global 23) (.const (B false))) 1,
  op 25 (.move (.global 24)) 1,
  op 26 (.move (.tmp 0)) 1 (some (101, true)),
  op 27 (.nilCheck (.global 26)) 1 (some (101, true)),
  op 28 (.fieldAddr 2 (.global 27) 0) 1 (some (101, true)),
  op 29 (.load 0 (.global 28)) 1 (some (101, true)),
  op 30 (.move (.tmp 1)) 1 (some (101, true)),
  op 31 (.nilCheck (.global 30)) 1 (some (101, true)),
  op 32 (.fieldAddr 2 (.global 31) 0) 1 (some (101, true)),
  op 33 (.load 0 (.global 32)) 1 (some (101, true)),
  op 34 (call (.func 436) #[(.global 29), (.global 33)]) 1 (some (101, true)),
  op 35 (.pick (.global 25) (.global 34) (.const (B false))) 1,
  op 4 (.move (.global 35))])
.ret)), [(4, 0)]⟩

/-- impl.clonePanel -/
def fn150 : AFun := ⟨1,
(.seq (reg [op 1 (.makeChan 3 (.tmp 0)),
  op 2 (.move (.const (.agg #[(I 0), (I 0), (sl 0 0 0 0)])))])
(.seq (reg [op 3 (.fieldAddr 2 (.tmp 1) 1) 1,
  op 4 (.lookup 0 (.tmp 1) (.global 3) false) 1,
  op 5 (call (.func 308) #[(.global 4)]) 1,
  op 6 (.fieldAddr 2 (.tmp 1) 1) 1,
  op 1 (.insert 1 (.tmp 1) (.global 6) (.global 5))])
(.seq (reg [op 7 (.lookup 4 (.tmp 1) (.tmp 1) false) 1,
  op 2 (.insert 3 (.tmp 2) (.tmp 2) (.global 7))])
.ret))), [(2, 1000004)]⟩

/-- impl.countCurves -/
def fn154 : AFun := ⟨1,
(.seq (reg [op 1 (.makeChan 3 (.tmp 0)),
  op 2 (.move (.const (I 0)))])
(.seq (reg [op 6 (.lookup 4 (.tmp 1) (.tmp 1) false) 1,
  op 7 (call (.func 55) #[(.global 6)]) 1,
  op 5 (.move (.global 7)) 1,
  op 8 (.extract (.global 5) 0) 1,
  op 9 (.extract (.global 5) 1) 1,
  op 3 (.move (.global 8)),
  op 4 (.move (.global 9)) 1])
(.seq (reg [op 10 (.move (.tmp 3)) 1,
  op 11 (bi .len #[(.global 10)] 1) 1,
  op 2 (.move (.global 11))])
.ret))), [(2, 0)]⟩

/-- spec.l04Count -/
def fn465 : AFun := ⟨1,
(.seq (reg [op 2 (.move (.const (I 0)))])
(.seq (reg [op 6 (.move (.tmp 0)) 1,
  op 7 (call (.func 463) #[(.global 6)]) 1,
  op 5 (.move (.global 7)) 1,
  op 8 (.extract (.global 5) 0) 1,
  op 9 (.extract (.global 5) 1) 1,
  op 3 (.move (.global 8)),
  op 4 (.move (.global 9)) 1])
(.seq (reg [op 10 (.move (.tmp 3)) 1,
  op 11 (bi .len #[(.global 10)] 1) 1,
  op 2 (.move (.global 11))])
.ret))), [(2, 0)]⟩

/-- impl.validBreak -/
def fn196 : AFun := ⟨1,
(.seq (reg [op 2 (.move (.const (B false)))])
(.seq (reg [op 3 (.move (.tmp 0)) 1,
  op 4 (call (.func 164) #[(.global 3), (.const (I 0)), (.const (I 2))]) 1,
  op 2 (.move (.global 4))])
.ret)), [(2, 0)]⟩

/-- impl.inRange -/
def fn164 : AFun := ⟨3,
(.seq (reg [op 6 (.move (.const (B false)))])
(.seq (reg [op 7 (.move (.tmp 0)) 1,
  op 8 (.move (.tmp 1)) 1,
  op 9 (.binOp .geq 0 (.global 7) (.global 8) 0) 1,
  op 10 (.move (.global 9)) 1,
  op 11 (.move (.tmp 0)) 1 (some (41, true)),
  op 12 (.move (.tmp 2)) 1 (some (41, true)),
  op 13 (.binOp .leq 0 (.global 11) (.global 12) 0) 1 (some (41, true)),
  op 14 (.pick (.global 10) (.global 13) (.const (B false))) 1,
  op 6 (.move (.global 14))])
.ret)), [(6, 0)]⟩

/-- spec.l25Vary -/
def fn555 : AFun := ⟨2,
(.seq (reg [op 4 (.move (.const (.agg #[(I 0), (I 0), (sl 0 0 0 0)])))])
(.seq (reg [op 7 (.move (.tmp 1)) 1,
  op 8 (call (.func 453) #[(.global 7)]) 1,
  op 5 (.move (.const (.agg #[(I 0), (I 0), (sl 0 0 0 0)]))),
  op 5 (.insert 3 (.tmp 5) (.tmp 5) (.global 8))])
(.seq (.seq (reg [op 9 (.move (.tmp 0)) 1,
  op 10 (call (.func 7) #[(.global 9), (.const (I 5))]) 1,
  op 6 (.move (.global 10))])
(.block 0
  (.loop
    (.seq (.seq (reg [op 11 (.move (.tmp 6)) 1,
      op 12 (.binOp .gtr 0 (.global 11) (.const (I 0)) 0) 1,
      op 13 (.move (.global 12)) 1,
      op 14 (.fieldAddr 2 (.tmp 5) 1) 1 (some (53, true)),
      op 15 (.lookup 0 (.tmp 5) (.global 14) false) 1 (some (53, true)),
      op 16 (bi .len #[(.global 15)] 1) 1 (some (53, true)),
      op 17 (.binOp .gtr 0 (.global 16) (.const (I 0)) 0) 1 (some (53, true)),
      op 18 (.pick (.global 13) (.global 17) (.const (B false)))])
    (.cond (.tmp 18)
      .skip
      (.exit 0)))
    (.seq (.block 1
      (reg [op 21 (.fieldAddr 2 (.tmp 5) 1) 1,
        op 22 (.lookup 0 (.tmp 5) (.global 21) false) 1,
        op 23 (.move (.tmp 0)) 1,
        op 24 (.fieldAddr 2 (.tmp 5) 1) 1,
        op 25 (.lookup 0 (.tmp 5) (.global 24) false) 1,
        op 26 (bi .len #[(.global 25)] 1) 1,
        op 27 (call (.func 7) #[(.global 23), (.global 26)]) 1,
        op 28 (.move (.tmp 0)) 1,
        op 29 (call (.func 7) #[(.global 28), (.const (I 3))]) 1,
        op 30 (.indexAddr 3 (.global 22) (.global 27)) 1,
        opn (.store 1 (.global 30) (.global 29))]))
    (reg [op 19 (.move (.tmp 6)) 1,
      op 20 (.binOp .sub 0 (.global 19) (.const (I 1)) 0) 1,
      op 6 (.move (.global 20))]))))))
(.seq (reg [op 31 (.lookup 4 (.tmp 5) (.tmp 5) false) 1,
  op 4 (.insert 3 (.tmp 4) (.tmp 4) (.global 31))])
.ret)))), [(4, 1000004)]⟩

/-- impl.sameSize -/
def fn186 : AFun := ⟨2,
(.seq (reg [op 2 (.makeChan 3 (.tmp 0)),
  op 3 (.makeChan 3 (.tmp 1)),
  op 4 (.move (.const (B false)))])
(.seq (reg [op 5 (.fieldAddr 0 (.tmp 2) 1) 1,
  op 6 (.lookup 0 (.tmp 2) (.global 5) false) 1,
  op 7 (.fieldAddr 0 (.tmp 3) 1) 1,
  op 8 (.lookup 0 (.tmp 3) (.global 7) false) 1,
  op 9 (.binOp .eql 0 (.global 6) (.global 8) 0) 1,
  op 10 (.move (.global 9)) 1,
  op 11 (.fieldAddr 1 (.tmp 2) 1) 1 (some (41, true)),
  op 12 (.lookup 0 (.tmp 2) (.global 11) false) 1 (some (41, true)),
  op 13 (.fieldAddr 1 (.tmp 3) 1) 1 (some (41, true)),
  op 14 (.lookup 0 (.tmp 3) (.global 13) false) 1 (some (41, true)),
  op 15 (.binOp .eql 0 (.global 12) (.global 14) 0) 1 (some (41, true)),
  op 16 (.pick (.global 10) (.global 15) (.const (B false))) 1,
  op 4 (.move (.global 16))])
.ret)), [(4, 0)]⟩

/-- spec.l25Sizes -/
def fn552 : AFun := ⟨1,
(.seq (reg [op 2 (.move (.const (I 0)))])
(.seq (.seq (reg [op 3 (.move (.const (I 0)))])
(.block 0
  (.loop
    (.seq (.seq (reg [op 5 (.move (.tmp 3)) 1,
      op 6 (.move (.tmp 0)) 1,
      op 7 (bi .len #[(.global 6)] 1) 1,
      op 8 (.binOp .lss 0 (.global 5) (.global 7) 0)])
    (.cond (.tmp 8)
      .skip
      (.exit 0)))
    (.seq (.block 1
      (.seq (reg [op 11 (.move (.tmp 0)) 1,
        op 12 (.move (.tmp 3)) 1,
        op 13 (.indexAddr 3 (.global 11) (.global 12)) 1,
        op 14 (.load 0 (.global 13)) 1,
        op 15 (call (.func 452) #[(.global 14)]) 1,
        op 16 (.unOp .not 0 (.global 15))])
      (.cond (.tmp 16)
        (.seq (reg [op 2 (.move (.const (I 1)))])
        .ret)
        .skip)))
    (reg [op 9 (.move (.tmp 3)) 1,
      op 10 (.binOp .add 0 (.global 9) (.const (I 1)) 0) 1,
      op 3 (.move (.global 10))]))))))
(.seq (.seq (reg [op 4 (.move (.const (I 1)))])
(.block 2
  (.loop
    (.seq (.seq (reg [op 17 (.move (.tmp 4)) 1,
      op 18 (.move (.tmp 0)) 1,
      op 19 (bi .len #[(.global 18)] 1) 1,
      op 20 (.binOp .lss 0 (.global 17) (.global 19) 0)])
    (.cond (.tmp 20)
      .skip
      (.exit 2)))
    (.seq (.block 3
      (.seq (reg [op 23 (.move (.tmp 0)) 1,
        op 24 (.move (.tmp 4)) 1,
        op 25 (.indexAddr 3 (.global 23) (.global 24)) 1,
        op 26 (.load 0 (.global 25)) 1,
        op 27 (.nilCheck (.global 26)) 1,
        op 28 (.fieldAddr 0 (.global 27) 0) 1,
        op 29 (.load 0 (.global 28)) 1,
        op 30 (.move (.tmp 0)) 1,
        op 31 (.indexAddr 3 (.global 30) (.const (I 0))) 1,
        op 32 (.load 0 (.global 31)) 1,
        op 33 (.nilCheck (.global 32)) 1,
        op 34 (.fieldAddr 0 (.global 33) 0) 1,
        op 35 (.load 0 (.global 34)) 1,
        op 36 (.binOp .neq 0 (.global 29) (.global 35) 0) 1,
        op 37 (.move (.global 36)) 1,
        op 38 (.move (.tmp 0)) 1 (some (149, false)),
        op 39 (.move (.tmp 4)) 1 (some (149, false)),
        op 40 (.indexAddr 3 (.global 38) (.global 39)) 1 (some (149, false)),
        op 41 (.load 0 (.global 40)) 1 (some (149, false)),
        op 42 (.nilCheck (.global 41)) 1 (some (149, false)),
        op 43 (.fieldAddr 1 (.global 42) 0) 1 (some (149, false)),
        op 44 (.load 0 (.global 43)) 1 (some (149, false)),
        op 45 (.move (.tmp 0)) 1 (some (149, false)),
        op 46 (.indexAddr 3 (.global 45) (.const (I 0))) 1 (some (149, false)),
        op 47 (.load 0 (.global 46)) 1 (some (149, false)),
        op 48 (.nilCheck (.global 47)) 1 (some (149, false)),
        op 49 (.fieldAddr 1 (.global 48) 0) 1 (some (149, false)),
        op 50 (.load 0 (.global 49)) 1 (some (149, false)),
        op 51 (.binOp .neq 0 (.global 44) (.global 50) 0) 1 (some (149, false)),
        op 52 (.pick (.global 37) (.const (B true)) (.global 51))])
      (.cond (.tmp 52)
        (.seq (reg [op 2 (.move (.const (I 6)))])
        .ret)
        .skip)))
    (reg [op 21 (.move (.tmp 4)) 1,
      op 22 (.binOp .add 0 (.global 21) (.const (I 1)) 0) 1,
      op 4 (.move (.global 22))]))))))
(.seq (reg [op 2 (.move (.const (I 0)))])
.ret)))), [(2, 0)]⟩

/-- spec.l02Own -/
def fn453 : AFun := ⟨1,
(.seq (reg [op 2 (.move (.const (.agg #[(I 0), (I 0), (sl 0 0 0 0)])))])
(.seq (reg [op 3 (.move (.tmp 0)) 1,
  op 4 (.nilCheck (.global 3)) 1,
  op 5 (.fieldAddr 0 (.global 4) 0) 1,
  op 6 (.load 0 (.global 5)) 1,
  op 7 (.move (.tmp 0)) 1,
  op 8 (.nilCheck (.global 7)) 1,
  op 9 (.fieldAddr 1 (.global 8) 0) 1,
  op 10 (.load 0 (.global 9)) 1,
  op 11 (.move (.tmp 0)) 1,
  op 12 (.nilCheck (.global 11)) 1,
  op 13 (.fieldAddr 2 (.global 12) 0) 1,
  op 14 (.load 0 (.global 13)) 1,
  op 15 (call (.func 435) #[(.global 14)]) 3,
  op 16 (.build 0 #[(0, (.const (.agg #[(I 0), (I 0), (sl 0 0 0 0)]))), (1, (.global 6)), (1001, (.global 10)), (2001, (.global 15))]) 1,
  op 2 (.insert 3 (.tmp 2) (.tmp 2) (.global 16))])
.ret)), [(2, 1000004)]⟩

/-- spec.l00In -/
def fn432 : AFun := ⟨3,
(.seq (reg [op 6 (.move (.const (B false)))])
(.seq (reg [op 7 (.move (.tmp 0)) 1,
  op 8 (.move (.tmp 1)) 1,
  op 9 (.binOp .geq 0 (.global 7) (.global 8) 0) 1,
  op 10 (.move (.global 9)) 1,
  op 11 (.move (.tmp 0)) 1 (some (41, true)),
  op 12 (.move (.tmp 2)) 1 (some (41, true)),
  op 13 (.binOp .leq 0 (.global 11) (.global 12) 0) 1 (some (41, true)),
  op 14 (.pick (.global 10) (.global 13) (.const (B false))) 1,
  op 6 (.move (.global 14))])
.ret)), [(6, 0)]⟩

/-- spec.l25Three -/
def fn554 : AFun := ⟨1,
(.seq (reg [op 2 (.move (.const (.agg #[(I 0), (I 0), (sl 0 0 0 0)]))),
  op 3 (.move (.const (.agg #[(I 0), (I 0), (sl 0 0 0 0)]))),
  op 4 (.move (.const (.agg #[(I 0), (I 0), (sl 0 0 0 0)])))])
(.seq (reg [op 8 (.move (.tmp 0)) 1,
  op 9 (call (.func 431) #[(.global 8)]) 1,
  op 5 (.move (.global 9))])
(.seq (reg [op 10 (.move (.tmp 5)) 1,
  op 11 (call (.func 443) #[(.global 10)]) 1,
  op 6 (.box 3 (.const (.agg #[(I 0), (I 0), (sl 0 0 0 0)]))),
  opn (.store 3 (.tmp 6) (.global 11))])
(.seq (reg [op 12 (.move (.tmp 5)) 1,
  op 13 (call (.func 555) #[(.global 12), (.tmp 6)]) 1,
  op 7 (.move (.const (.agg #[(I 0), (I 0), (sl 0 0 0 0)]))),
  op 7 (.insert 3 (.tmp 7) (.tmp 7) (.global 13))])
(.seq (.seq (reg [op 14 (.move (.tmp 5)) 1,
  op 15 (call (.func 6) #[(.global 14), (.const (I 10))])])
(.cond (.tmp 15)
  (.seq (reg [op 16 (.load 4 (.tmp 6)) 1,
    op 17 (.lookup 4 (.tmp 7) (.tmp 7) false) 1,
    op 18 (.move (.tmp 5)) 1,
    op 19 (call (.func 443) #[(.global 18)]) 53,
    op 2 (.insert 3 (.tmp 2) (.tmp 2) (.global 16)),
    op 3 (.insert 3 (.tmp 3) (.tmp 3) (.global 17)),
    op 4 (.insert 3 (.tmp 4) (.tmp 4) (.global 19))])
  .ret)
  .skip))
(.seq (reg [op 20 (.load 4 (.tmp 6)) 1,
  op 21 (.lookup 4 (.tmp 7) (.tmp 7) false) 1,
  op 22 (.move (.tmp 5)) 1,
  op 23 (call (.func 555) #[(.global 22), (.tmp 6)]) 53,
  op 2 (.insert 3 (.tmp 2) (.tmp 2) (.global 20)),
  op 3 (.insert 3 (.tmp 3) (.tmp 3) (.global 21)),
  op 4 (.insert 3 (.tmp 4) (.tmp 4) (.global 23))])
.ret)))))), [(2, 1000004), (3, 1000004), (4, 1000004)]⟩

/-- spec.l25Clashes -/
def fn548 : AFun := ⟨3,
(.seq (reg [op 6 (.move (.const (sl 0 0 0 0)))])
(.seq (reg [op 11 (.move (.const (sl 0 0 0 1))) 1,
  op 7 (.move (.global 11))])
(.seq (.seq (reg [op 8 (.move (.const (I 0)))])
(.block 0
  (.loop
    (.seq (.seq (reg [op 12 (.move (.tmp 8)) 1,
      op 13 (.move (.tmp 0)) 1,
      op 14 (.nilCheck (.global 13)) 1,
      op 15 (.fieldAddr 2 (.global 14) 0) 1,
      op 16 (.load 0 (.global 15)) 1,
      op 17 (bi .len #[(.global 16)] 1) 1,
      op 18 (.binOp .lss 0 (.global 12) (.global 17) 0)])
    (.cond (.tmp 18)
      .skip
      (.exit 0)))
    (.seq (.block 1
      (.seq (reg [op 21 (.move (.tmp 1)) 1,
        op 22 (.nilCheck (.global 21)) 1,
        op 23 (.fieldAddr 2 (.global 22) 0) 1,
        op 24 (.load 0 (.global 23)) 1,
        op 25 (.move (.tmp 8)) 1,
        op 26 (.indexAddr 3 (.global 24) (.global 25)) 1,
        op 27 (.load 0 (.global 26)) 1,
        op 9 (.move (.global 27))])
      (.seq (reg [op 28 (.move (.tmp 2)) 1,
        op 29 (.nilCheck (.global 28)) 1,
        op 30 (.fieldAddr 2 (.global 29) 0) 1,
        op 31 (.load 0 (.global 30)) 1,
        op 32 (.move (.tmp 8)) 1,
        op 33 (.indexAddr 3 (.global 31) (.global 32)) 1,
        op 34 (.load 0 (.global 33)) 1,
        op 10 (.move (.global 34))])
      (.seq (reg [op 35 (.move (.tmp 9)) 1,
        op 36 (.move (.tmp 0)) 1,
        op 37 (.nilCheck (.global 36)) 1,
        op 38 (.fieldAddr 2 (.global 37) 0) 1,
        op 39 (.load 0 (.global 38)) 1,
        op 40 (.move (.tmp 8)) 1,
        op 41 (.indexAddr 3 (.global 39) (.global 40)) 1,
        op 42 (.load 0 (.global 41)) 1,
        op 43 (.binOp .neq 0 (.global 35) (.global 42) 0) 1,
        op 44 (.move (.global 43)) 1,
        op 45 (.move (.tmp 10)) 1 (some (177, true)),
        op 46 (.move (.tmp 0)) 1 (some (177, true)),
        op 47 (.nilCheck (.global 46)) 1 (some (177, true)),
        op 48 (.fieldAddr 2 (.global 47) 0) 1 (some (177, true)),
        op 49 (.load 0 (.global 48)) 1 (some (177, true)),
        op 50 (.move (.tmp 8)) 1 (some (177, true)),
        op 51 (.indexAddr 3 (.global 49) (.global 50)) 1 (some (177, true)),
        op 52 (.load 0 (.global 51)) 1 (some (177, true)),
        op 53 (.binOp .neq 0 (.global 45) (.global 52) 0) 1 (some (177, true)),
        op 54 (.pick (.global 44) (.global 53) (.const (B false))) 1,
        op 55 (.move (.global 54)) 1,
        op 56 (.move (.tmp 9)) 1 (some (221, true)),
        op 57 (.move (.tmp 10)) 1 (some (221, true)),
        op 58 (.binOp .neq 0 (.global 56) (.global 57) 0) 1 (some (221, true)),
        op 59 (.pick (.global 55) (.global 58) (.const (B false)))])
      (.cond (.tmp 59)
        (reg [op 60 (.move (.tmp 7)) 1,
          op 61 (.move (.tmp 8)) 1,
          op 62 (.buildSlice 1 1 #[(0, (.const (.agg #[(I 0)]))), (1, (.global 61))]) 1,
          op 63 (bi .append #[(.global 60), (.global 62)] 1) 1,
          op 7 (.move (.global 63))])
        .skip)))))
    (reg [op 19 (.move (.tmp 8)) 1,
      op 20 (.binOp .add 0 (.global 19) (.const (I 1)) 0) 1,
      op 8 (.move (.global 20))]))))))
(.seq (reg [op 64 (.move (.tmp 7)) 1,
  op 6 (.move (.global 64))])
.ret)))), [(6, 0)]⟩

/-- spec.l02Draw -/
def fn445 : AFun := ⟨2,
(.seq (reg [op 4 (.move (.const (.agg #[(I 0), (I 0), (sl 0 0 0 0)])))])
(.seq (reg [op 9 (.move (.tmp 0)) 1,
  op 10 (.move (.tmp 1)) 1,
  op 11 (call (.func 7) #[(.global 9), (.global 10)]) 1,
  op 12 (.binOp .add 0 (.const (I 1)) (.global 11) 0) 1,
  op 5 (.move (.global 12))])
(.seq (reg [op 13 (.move (.tmp 5)) 1,
  op 14 (.move (.tmp 0)) 1,
  op 15 (.move (.tmp 1)) 1,
  op 16 (call (.func 7) #[(.global 14), (.global 15)]) 1,
  op 17 (.binOp .add 0 (.const (I 1)) (.global 16) 0) 1,
  op 18 (call (.func 450) #[(.global 13), (.global 17)]) 1,
  op 6 (.move (.const (.agg #[(I 0), (I 0), (sl 0 0 0 0)]))),
  op 6 (.insert 3 (.tmp 6) (.tmp 6) (.global 18))])
(.seq (reg [op 19 (.move (.tmp 0)) 1,
  op 20 (call (.func 7) #[(.global 19), (.const (I 4))]) 1,
  op 7 (.move (.global 20))])
(.seq (.seq (reg [op 8 (.move (.const (I 0)))])
(.block 0
  (.loop
    (.seq (.seq (reg [op 21 (.move (.tmp 8)) 1,
      op 22 (.fieldAddr 2 (.tmp 6) 1) 1,
      op 23 (.lookup 0 (.tmp 6) (.global 22) false) 1,
      op 24 (bi .len #[(.global 23)] 1) 1,
      op 25 (.binOp .lss 0 (.global 21) (.global 24) 0)])
    (.cond (.tmp 25)
      .skip
      (.exit 0)))
    (.seq (.block 1
      (.seq (reg [op 28 (.move (.tmp 0)) 1,
        op 29 (call (.func 7) #[(.global 28), (.const (I 4))]) 1,
        op 30 (.move (.tmp 7)) 1,
        op 31 (.binOp .lss 0 (.global 29) (.global 30) 0)])
      (.cond (.tmp 31)
        (reg [op 32 (.fieldAddr 2 (.tmp 6) 1) 1,
          op 33 (.lookup 0 (.tmp 6) (.global 32) false) 1,
          op 34 (.move (.tmp 8)) 1,
          op 35 (.move (.tmp 0)) 1,
          op 36 (call (.func 7) #[(.global 35), (.const (I 2))]) 1,
          op 37 (.binOp .add 0 (.const (I 1)) (.global 36) 0) 1,
          op 38 (.indexAddr 3 (.global 33) (.global 34)) 1,
          opn (.store 1 (.global 38) (.global 37))])
        .skip)))
    (reg [op 26 (.move (.tmp 8)) 1,
      op 27 (.binOp .add 0 (.global 26) (.const (I 1)) 0) 1,
      op 8 (.move (.global 27))]))))))
(.seq (reg [op 39 (.lookup 4 (.tmp 6) (.tmp 6) false) 1,
  op 4 (.insert 3 (.tmp 4) (.tmp 4) (.global 39))])
.ret)))))), [(4, 1000004)]⟩

/-- (impl.Panel).hasPart -/
def fn33 : AFun := ⟨5,
(.seq (reg [op 5 (.makeChan 3 (.tmp 0)),
  op 10 (.move (.const (B false)))])
(.seq (reg [op 11 (.move (.tmp 3)) 1,
  op 12 (.fieldAddr 0 (.tmp 5) 1) 1,
  op 13 (.lookup 0 (.tmp 5) (.global 12) false) 1,
  op 14 (call (.func 164) #[(.global 11), (.const (I 1)), (.global 13)]) 1,
  op 15 (.move (.global 14)) 1,
  op 16 (.move (.tmp 4)) 1 (some (61, true)),
  op 17 (.fieldAddr 1 (.tmp 5) 1) 1 (some (61, true)),
  op 18 (.lookup 0 (.tmp 5) (.global 17) false) 1 (some (61, true)),
  op 19 (call (.func 164) #[(.global 16), (.const (I 1)), (.global 18)]) 1 (some (61, true)),
  op 20 (.pick (.global 15) (.global 19) (.const (B false))) 1,
  op 21 (.move (.global 20)) 1,
  op 22 (.move (.tmp 1)) 1 (some (85, true)),
  op 23 (.fieldAddr 0 (.tmp 5) 1) 1 (some (85, true)),
  op 24 (.lookup 0 (.tmp 5) (.global 23) false) 1 (some (85, true)),
  op 25 (.move (.tmp 3)) 1 (some (85, true)),
  op 26 (.binOp .sub 0 (.global 24) (.global 25) 0) 1 (some (85, true)),
  op 27 (call (.func 164) #[(.global 22), (.const (I 0)), (.global 26)]) 1 (some (85, true)),
  op 28 (.pick (.global 21) (.global 27) (.const (B false))) 1,
  op 29 (.move (.global 28)) 1,
  op 30 (.move (.tmp 2)) 1 (some (117, true)),
  op 31 (.fieldAddr 1 (.tmp 5) 1) 1 (some (117, true)),
  op 32 (.lookup 0 (.tmp 5) (.global 31) false) 1 (some (117, true)),
  op 33 (.move (.tmp 4)) 1 (some (117, true)),
  op 34 (.binOp .sub 0 (.global 32) (.global 33) 0) 1 (some (117, true)),
  op 35 (call (.func 164) #[(.global 30), (.const (I 0)), (.global 34)]) 1 (some (117, true)),
  op 36 (.pick (.global 29) (.global 35) (.const (B false))) 1,
  op 10 (.move (.global 36))])
.ret)), [(10, 0)]⟩

/-- (impl.Panel).paste -/
def fn46 : AFun := ⟨4,
(.seq (reg [op 4 (.makeChan 3 (.tmp 0)),
  op 7 (.makeChan 3 (.tmp 3))])
(.seq (reg [op 10 (.lookup 4 (.tmp 7) (.tmp 7) false) 1,
  op 11 (call (.func 49) #[(.global 10)]),
  op 12 (bi .len #[(.tmp 11)] 1),
  op 13 (.move (.const (I 0)))])
(.block 0
  (.loop
    (.seq (reg [op 14 (.binOp .lss 0 (.tmp 13) (.tmp 12) 0)])
    (.seq (.cond (.tmp 14)
      .skip
      (.exit 0))
    (.seq (.block 1
      (.seq (reg [op 15 (.move (.tmp 13)) 1,
        op 16 (.indexAddr 5 (.tmp 11) (.tmp 13)) 1,
        op 17 (.load 3 (.global 16)) 1,
        op 9 (.move (.const (.agg #[(I 0), (I 0)]))),
        op 8 (.move (.global 15)),
        op 9 (.insert 2 (.tmp 9) (.tmp 9) (.global 17))])
      (reg [op 18 (.fieldAddr 2 (.tmp 4) 1) 1,
        op 19 (.lookup 0 (.tmp 4) (.global 18) false) 1,
        op 20 (.lookup 4 (.tmp 4) (.tmp 4) false) 1,
        op 21 (.lookup 3 (.tmp 9) (.tmp 9) false) 1,
        op 22 (.move (.tmp 1)) 1,
        op 23 (.move (.tmp 2)) 1,
        op 24 (call (.func 188) #[(.global 21), (.global 22), (.global 23)]) 3,
        op 25 (call (.func 40) #[(.global 20), (.global 24)]) 3,
        op 26 (.fieldAddr 2 (.tmp 7) 1) 1,
        op 27 (.lookup 0 (.tmp 7) (.global 26) false) 1,
        op 28 (.move (.tmp 8)) 1,
        op 29 (.indexAddr 3 (.global 27) (.global 28)) 1,
        op 30 (.load 0 (.global 29)) 1,
        op 31 (.indexAddr 3 (.global 19) (.global 25)) 1,
        opn (.store 1 (.global 31) (.global 30))])))
    (reg [op 32 (.binOp .add 0 (.tmp 13) (.const (I 1)) 0) 1,
      op 13 (.move (.global 32))])))))))), []⟩

/-- spec.l25In -/
def fn549 : AFun := ⟨5,
(.seq (reg [op 10 (.move (.const (B false)))])
(.seq (reg [op 11 (.move (.tmp 3)) 1,
  op 12 (.move (.tmp 0)) 1,
  op 13 (.nilCheck (.global 12)) 1,
  op 14 (.fieldAddr 0 (.global 13) 0) 1,
  op 15 (.load 0 (.global 14)) 1,
  op 16 (call (.func 432) #[(.global 11), (.const (I 1)), (.global 15)]) 1,
  op 17 (.move (.global 16)) 1,
  op 18 (.move (.tmp 4)) 1 (some (69, true)),
  op 19 (.move (.tmp 0)) 1 (some (69, true)),
  op 20 (.nilCheck (.global 19)) 1 (some (69, true)),
  op 21 (.fieldAddr 1 (.global 20) 0) 1 (some (69, true)),
  op 22 (.load 0 (.global 21)) 1 (some (69, true)),
  op 23 (call (.func 432) #[(.global 18), (.const (I 1)), (.global 22)]) 1 (some (69, true)),
  op 24 (.pick (.global 17) (.global 23) (.const (B false))) 1,
  op 25 (.move (.global 24)) 1,
  op 26 (.move (.tmp 1)) 1 (some (101, true)),
  op 27 (.move (.tmp 0)) 1 (some (101, true)),
  op 28 (.nilCheck (.global 27)) 1 (some (101, true)),
  op 29 (.fieldAddr 0 (.global 28) 0) 1 (some (101, true)),
  op 30 (.load 0 (.global 29)) 1 (some (101, true)),
  op 31 (.move (.tmp 3)) 1 (some (101, true)),
  op 32 (.binOp .sub 0 (.global 30) (.global 31) 0) 1 (some (101, true)),
  op 33 (call (.func 432) #[(.global 26), (.const (I 0)), (.global 32)]) 1 (some (101, true)),
  op 34 (.pick (.global 25) (.global 33) (.const (B false))) 1,
  op 35 (.move (.global 34)) 1,
  op 36 (.move (.tmp 2)) 1 (some (141, true)),
  op 37 (.move (.tmp 0)) 1 (some (141, true)),
  op 38 (.nilCheck (.global 37)) 1 (some (141, true)),
  op 39 (.fieldAddr 1 (.global 38) 0) 1 (some (141, true)),
  op 40 (.load 0 (.global 39)) 1 (some (141, true)),
  op 41 (.move (.tmp 4)) 1 (some (141, true)),
  op 42 (.binOp .sub 0 (.global 40) (.global 41) 0) 1 (some (141, true)),
  op 43 (call (.func 432) #[(.global 36), (.const (I 0)), (.global 42)]) 1 (some (141, true)),
  op 44 (.pick (.global 35) (.global 43) (.const (B false))) 1,
  op 10 (.move (.global 44))])
.ret)), [(10, 0)]⟩

/-- spec.l25Paste -/
def fn551 : AFun := ⟨4,
(.seq (reg [op 8 (.move (.const (I 0)))])
(.block 0
  (.loop
    (.seq (.seq (reg [op 10 (.move (.tmp 8)) 1,
      op 11 (.move (.tmp 3)) 1,
      op 12 (.nilCheck (.global 11)) 1,
      op 13 (.fieldAddr 2 (.global 12) 0) 1,
      op 14 (.load 0 (.global 13)) 1,
      op 15 (bi .len #[(.global 14)] 1) 1,
      op 16 (.binOp .lss 0 (.global 10) (.global 15) 0)])
    (.cond (.tmp 16)
      .skip
      (.exit 0)))
    (.seq (.block 1
      (.seq (reg [op 19 (.move (.tmp 3)) 1,
        op 20 (.move (.tmp 8)) 1,
        op 21 (call (.func 454) #[(.global 19), (.global 20)]) 1,
        op 9 (.move (.const (.agg #[(I 0), (I 0)]))),
        op 9 (.insert 2 (.tmp 9) (.tmp 9) (.global 21))])
      (reg [op 22 (.move (.tmp 0)) 1,
        op 23 (.nilCheck (.global 22)) 1,
        op 24 (.fieldAddr 2 (.global 23) 0) 1,
        op 25 (.load 0 (.global 24)) 1,
        op 26 (.move (.tmp 0)) 1,
        op 27 (.fieldAddr 0 (.tmp 9) 1) 1,
        op 28 (.lookup 0 (.tmp 9) (.global 27) false) 1,
        op 29 (.move (.tmp 1)) 1,
        op 30 (.binOp .mul 0 (.const (I 2)) (.global 29) 0) 1,
        op 31 (.binOp .add 0 (.global 28) (.global 30) 0) 1,
        op 32 (.fieldAddr 1 (.tmp 9) 1) 1,
        op 33 (.lookup 0 (.tmp 9) (.global 32) false) 1,
        op 34 (.move (.tmp 2)) 1,
        op 35 (.binOp .mul 0 (.const (I 2)) (.global 34) 0) 1,
        op 36 (.binOp .add 0 (.global 33) (.global 35) 0) 1,
        op 37 (.build 0 #[(0, (.const (.agg #[(I 0), (I 0)]))), (1, (.global 31)), (1001, (.global 36))]) 1,
        op 38 (call (.func 451) #[(.global 26), (.global 37)]) 3,
        op 39 (.move (.tmp 3)) 1,
        op 40 (.nilCheck (.global 39)) 1,
        op 41 (.fieldAddr 2 (.global 40) 0) 1,
        op 42 (.load 0 (.global 41)) 1,
        op 43 (.move (.tmp 8)) 1,
        op 44 (.indexAddr 3 (.global 42) (.global 43)) 1,
        op 45 (.load 0 (.global 44)) 1,
        op 46 (.indexAddr 3 (.global 25) (.global 38)) 1,
        opn (.store 1 (.global 46) (.global 45))])))
    (reg [op 17 (.move (.tmp 8)) 1,
      op 18 (.binOp .add 0 (.global 17) (.const (I 1)) 0) 1,
      op 8 (.move (.global 18))])))))), []⟩

/-- impl.newPanel -/
def fn177 : AFun := ⟨2,
(.seq (reg [op 4 (.move (.const (.agg #[(I 0), (I 0), (sl 0 0 0 0)])))])
(.seq (reg [op 5 (.move (.tmp 0)) 1,
  op 6 (.move (.tmp 1)) 1,
  op 7 (.move (.tmp 0)) 1,
  op 8 (.move (.tmp 1)) 1,
  op 9 (call (.func 166) #[(.global 7), (.global 8)]) 1,
  op 10 (.mapUpdate 1 (.global 9) (.global 9) (.const (.agg #[(I 0)]))) 1,
  op 11 (.build 0 #[(0, (.const (.agg #[(I 0), (I 0), (sl 0 0 0 0)]))), (1, (.global 5)), (1001, (.global 6)), (2001, (.global 10))]) 1,
  op 4 (.insert 3 (.tmp 4) (.tmp 4) (.global 11))])
.ret)), [(4, 1000004)]⟩

/-- (impl.Panel).points -/
def fn49 : AFun := ⟨1,
(.seq (reg [op 1 (.makeChan 3 (.tmp 0)),
  op 2 (.move (.const (sl 0 0 0 0)))])
(.seq (reg [op 6 (.move (.const (sl 0 0 0 2))) 1,
  op 3 (.move (.global 6))])
(.seq (.seq (reg [op 4 (.move (.const (I 1)))])
(.block 0
  (.loop
    (.seq (.seq (reg [op 7 (.move (.tmp 4)) 1,
      op 8 (.fieldAddr 1 (.tmp 1) 1) 1,
      op 9 (.lookup 0 (.tmp 1) (.global 8) false) 1,
      op 10 (.binOp .mul 0 (.const (I 2)) (.global 9) 0) 1,
      op 11 (.binOp .lss 0 (.global 7) (.global 10) 0)])
    (.cond (.tmp 11)
      .skip
      (.exit 0)))
    (.seq (.block 1
      (.seq (reg [op 14 (.move (.tmp 4)) 1,
        op 15 (.binOp .rem 0 (.global 14) (.const (I 2)) 0) 1,
        op 16 (.binOp .add 0 (.const (I 1)) (.global 15) 0) 1,
        op 5 (.move (.global 16))])
      (.block 2
        (.loop
          (.seq (.seq (reg [op 17 (.move (.tmp 5)) 1,
            op 18 (.fieldAddr 0 (.tmp 1) 1) 1,
            op 19 (.lookup 0 (.tmp 1) (.global 18) false) 1,
            op 20 (.binOp .mul 0 (.const (I 2)) (.global 19) 0) 1,
            op 21 (.binOp .lss 0 (.global 17) (.global 20) 0)])
          (.cond (.tmp 21)
            .skip
            (.exit 2)))
          (.seq (.block 3
            (reg [op 24 (.move (.tmp 3)) 1,
              op 25 (.move (.tmp 5)) 1,
              op 26 (.move (.tmp 4)) 1,
              op 27 (.build 0 #[(0, (.const (.agg #[(I 0), (I 0)]))), (1, (.global 25)), (1001, (.global 26))]) 1,
              op 28 (.buildSlice 2 1 #[(0, (.const (.agg #[(I 0), (I 0)]))), (2, (.global 27))]) 1,
              op 29 (bi .append #[(.global 24), (.global 28)] 2) 1,
              op 3 (.move (.global 29))]))
          (reg [op 22 (.move (.tmp 5)) 1,
            op 23 (.binOp .add 0 (.global 22) (.const (I 2)) 0) 1,
            op 5 (.move (.global 23))])))))))
    (reg [op 12 (.move (.tmp 4)) 1,
      op 13 (.binOp .add 0 (.global 12) (.const (I 1)) 0) 1,
      op 4 (.move (.global 13))]))))))
(.seq (reg [op 30 (.move (.tmp 3)) 1,
  op 2 (.move (.global 30))])
.ret)))), [(2, 0)]⟩

/-- (impl.Panel).number -/
def fn40 : AFun := ⟨2,
(.seq (reg [op 2 (.makeChan 3 (.tmp 0)),
  op 3 (.makeChan 2 (.tmp 1)),
  op 4 (.move (.const (I 0)))])
(.seq (reg [op 6 (.fieldAddr 1 (.tmp 3) 1) 1,
  op 7 (.lookup 0 (.tmp 3) (.global 6) false) 1,
  op 8 (.binOp .quo 0 (.global 7) (.const (I 2)) 0) 1,
  op 9 (.fieldAddr 0 (.tmp 2) 1) 1,
  op 10 (.lookup 0 (.tmp 2) (.global 9) false) 1,
  op 11 (.binOp .sub 0 (.global 10) (.const (I 1)) 0) 1,
  op 12 (.binOp .mul 0 (.global 8) (.global 11) 0) 1,
  op 13 (.fieldAddr 1 (.tmp 3) 1) 1,
  op 14 (.lookup 0 (.tmp 3) (.global 13) false) 1,
  op 15 (.binOp .sub 0 (.global 14) (.const (I 1)) 0) 1,
  op 16 (.binOp .quo 0 (.global 15) (.const (I 2)) 0) 1,
  op 17 (.fieldAddr 0 (.tmp 2) 1) 1,
  op 18 (.lookup 0 (.tmp 2) (.global 17) false) 1,
  op 19 (.binOp .mul 0 (.global 16) (.global 18) 0) 1,
  op 20 (.binOp .add 0 (.global 12) (.global 19) 0) 1,
  op 5 (.move (.global 20))])
(.seq (.seq (reg [op 21 (.fieldAddr 1 (.tmp 3) 1) 1,
  op 22 (.lookup 0 (.tmp 3) (.global 21) false) 1,
  op 23 (.binOp .rem 0 (.global 22) (.const (I 2)) 0) 1,
  op 24 (.binOp .eql 0 (.global 23) (.const (I 1)) 0)])
(.cond (.tmp 24)
  (.seq (reg [op 25 (.move (.tmp 5)) 1,
    op 26 (.fieldAddr 0 (.tmp 3) 1) 1,
    op 27 (.lookup 0 (.tmp 3) (.global 26) false) 1,
    op 28 (.binOp .quo 0 (.global 27) (.const (I 2)) 0) 1,
    op 29 (.binOp .add 0 (.global 25) (.global 28) 0) 1,
    op 30 (.binOp .sub 0 (.global 29) (.const (I 1)) 0) 1,
    op 4 (.move (.global 30))])
  .ret)
  .skip))
(.seq (reg [op 31 (.move (.tmp 5)) 1,
  op 32 (.fieldAddr 0 (.tmp 3) 1) 1,
  op 33 (.lookup 0 (.tmp 3) (.global 32) false) 1,
  op 34 (.binOp .quo 0 (.global 33) (.const (I 2)) 0) 1,
  op 35 (.binOp .add 0 (.global 31) (.global 34) 0) 1,
  op 4 (.move (.global 35))])
.ret)))), [(4, 0)]⟩

/-- impl.shifted -/
def fn188 : AFun := ⟨3,
(.seq (reg [op 3 (.makeChan 2 (.tmp 0)),
  op 6 (.move (.const (.agg #[(I 0), (I 0)])))])
(.seq (reg [op 7 (.fieldAddr 0 (.tmp 3) 1) 1,
  op 8 (.lookup 0 (.tmp 3) (.global 7) false) 1,
  op 9 (.move (.tmp 1)) 1,
  op 10 (.binOp .mul 0 (.const (I 2)) (.global 9) 0) 1,
  op 11 (.binOp .add 0 (.global 8) (.global 10) 0) 1,
  op 12 (.fieldAddr 1 (.tmp 3) 1) 1,
  op 13 (.lookup 0 (.tmp 3) (.global 12) false) 1,
  op 14 (.move (.tmp 2)) 1,
  op 15 (.binOp .mul 0 (.const (I 2)) (.global 14) 0) 1,
  op 16 (.binOp .add 0 (.global 13) (.global 15) 0) 1,
  op 17 (.build 0 #[(0, (.const (.agg #[(I 0), (I 0)]))), (1, (.global 11)), (1001, (.global 16))]) 1,
  op 6 (.insert 2 (.tmp 6) (.tmp 6) (.global 17))])
.ret)), [(6, 1000003)]⟩

/-- spec.l02New -/
def fn450 : AFun := ⟨2,
(.seq (reg [op 4 (.move (.const (.agg #[(I 0), (I 0), (sl 0 0 0 0)])))])
(.seq (reg [op 5 (.move (.tmp 0)) 1,
  op 6 (.move (.tmp 1)) 1,
  op 7 (.move (.tmp 0)) 1,
  op 8 (.move (.tmp 1)) 1,
  op 9 (call (.func 448) #[(.global 7), (.global 8)]) 1,
  op 10 (.mapUpdate 1 (.global 9) (.global 9) (.const (.agg #[(I 0)]))) 1,
  op 11 (.build 0 #[(0, (.const (.agg #[(I 0), (I 0), (sl 0 0 0 0)]))), (1, (.global 5)), (1001, (.global 6)), (2001, (.global 10))]) 1,
  op 4 (.insert 3 (.tmp 4) (.tmp 4) (.global 11))])
.ret)), [(4, 1000004)]⟩

/-- spec.l02Point -/
def fn454 : AFun := ⟨2,
(.seq (reg [op 4 (.move (.const (.agg #[(I 0), (I 0)])))])
(.seq (reg [op 5 (.move (.const (I 1)))])
(.seq (.block 0
  (.loop
    (.seq (.seq (reg [op 6 (.move (.tmp 5)) 1,
      op 7 (.binOp .add 0 (.global 6) (.const (I 1)) 0) 1,
      op 8 (.move (.tmp 0)) 1,
      op 9 (.nilCheck (.global 8)) 1,
      op 10 (.fieldAddr 1 (.global 9) 0) 1,
      op 11 (.load 0 (.global 10)) 1,
      op 12 (.binOp .mul 0 (.const (I 2)) (.global 11) 0) 1,
      op 13 (.binOp .lss 0 (.global 7) (.global 12) 0) 1,
      op 14 (.move (.global 13)) 1,
      op 15 (.move (.tmp 0)) 1 (some (57, true)),
      op 16 (.move (.tmp 5)) 1 (some (57, true)),
      op 17 (.binOp .add 0 (.global 16) (.const (I 1)) 0) 1 (some (57, true)),
      op 18 (call (.func 455) #[(.global 15), (.global 17)]) 1 (some (57, true)),
      op 19 (.move (.tmp 1)) 1 (some (57, true)),
      op 20 (.binOp .leq 0 (.global 18) (.global 19) 0) 1 (some (57, true)),
      op 21 (.pick (.global 14) (.global 20) (.const (B false)))])
    (.cond (.tmp 21)
      .skip
      (.exit 0)))
    (.block 1
      (reg [op 22 (.move (.tmp 5)) 1,
        op 23 (.binOp .add 0 (.global 22) (.const (I 1)) 0) 1,
        op 5 (.move (.global 23))])))))
(.seq (reg [op 24 (.move (.tmp 1)) 1,
  op 25 (.move (.tmp 0)) 1,
  op 26 (.move (.tmp 5)) 1,
  op 27 (call (.func 455) #[(.global 25), (.global 26)]) 1,
  op 28 (.binOp .sub 0 (.global 24) (.global 27) 0) 1,
  op 29 (.binOp .mul 0 (.const (I 2)) (.global 28) 0) 1,
  op 30 (.binOp .add 0 (.global 29) (.const (I 1)) 0) 1,
  op 31 (.move (.tmp 5)) 1,
  op 32 (.binOp .rem 0 (.global 31) (.const (I 2)) 0) 1,
  op 33 (.binOp .add 0 (.global 30) (.global 32) 0) 1,
  op 34 (.move (.tmp 5)) 1,
  op 35 (.build 0 #[(0, (.const (.agg #[(I 0), (I 0)]))), (1, (.global 33)), (1001, (.global 34))]) 1,
  op 4 (.insert 2 (.tmp 4) (.tmp 4) (.global 35))])
.ret)))), [(4, 1000003)]⟩

/-- spec.l02Number -/
def fn451 : AFun := ⟨2,
(.seq (reg [op 3 (.makeChan 2 (.tmp 1)),
  op 4 (.move (.const (I 0)))])
(.seq (reg [op 5 (.move (.tmp 0)) 1,
  op 6 (.fieldAddr 1 (.tmp 3) 1) 1,
  op 7 (.lookup 0 (.tmp 3) (.global 6) false) 1,
  op 8 (call (.func 455) #[(.global 5), (.global 7)]) 1,
  op 9 (.fieldAddr 0 (.tmp 3) 1) 1,
  op 10 (.lookup 0 (.tmp 3) (.global 9) false) 1,
  op 11 (.binOp .sub 0 (.global 10) (.const (I 1)) 0) 1,
  op 12 (.binOp .quo 0 (.global 11) (.const (I 2)) 0) 1,
  op 13 (.binOp .add 0 (.global 8) (.global 12) 0) 1,
  op 4 (.move (.global 13))])
.ret)), [(4, 0)]⟩

/-- (*spec.l00Src).among -/
def fn4 : AFun := ⟨2,
(.seq (reg [op 4 (.move (.const (I 0)))])
(.seq (reg [op 5 (.move (.tmp 1)) 1,
  op 6 (.move (.tmp 0)) 1,
  op 7 (.move (.tmp 1)) 1,
  op 8 (bi .len #[(.global 7)] 1) 1,
  op 9 (call (.func 7) #[(.global 6), (.global 8)]) 1,
  op 10 (.indexAddr 3 (.global 5) (.global 9)) 1,
  op 11 (.load 0 (.global 10)) 1,
  op 4 (.move (.global 11))])
.ret)), [(4, 0)]⟩

/-- impl.innerPoints -/
def fn166 : AFun := ⟨2,
(.seq (reg [op 4 (.move (.const (I 0)))])
(.seq (reg [op 5 (.move (.tmp 0)) 1,
  op 6 (.move (.tmp 1)) 1,
  op 7 (.binOp .sub 0 (.global 6) (.const (I 1)) 0) 1,
  op 8 (.binOp .mul 0 (.global 5) (.global 7) 0) 1,
  op 9 (.move (.tmp 1)) 1,
  op 10 (.move (.tmp 0)) 1,
  op 11 (.binOp .sub 0 (.global 10) (.const (I 1)) 0) 1,
  op 12 (.binOp .mul 0 (.global 9) (.global 11) 0) 1,
  op 13 (.binOp .add 0 (.global 8) (.global 12) 0) 1,
  op 4 (.move (.global 13))])
.ret)), [(4, 0)]⟩

/-- spec.l02Inner -/
def fn448 : AFun := ⟨2,
(.seq (reg [op 4 (.move (.const (I 0)))])
(.seq (reg [op 5 (.move (.tmp 0)) 1,
  op 6 (.move (.tmp 1)) 1,
  op 7 (.binOp .sub 0 (.global 6) (.const (I 1)) 0) 1,
  op 8 (.binOp .mul 0 (.global 5) (.global 7) 0) 1,
  op 9 (.move (.tmp 1)) 1,
  op 10 (.move (.tmp 0)) 1,
  op 11 (.binOp .sub 0 (.global 10) (.const (I 1)) 0) 1,
  op 12 (.binOp .mul 0 (.global 9) (.global 11) 0) 1,
  op 13 (.binOp .add 0 (.global 8) (.global 12) 0) 1,
  op 4 (.move (.global 13))])
.ret)), [(4, 0)]⟩

/-- (*spec.l00Src).next -/
def fn5 : AFun := ⟨1,
(.seq (reg [op 2 (.move (.const (I 0)))])
(.seq (reg [op 3 (.move (.const (I 0)))])
(.seq (.seq (reg [op 4 (.move (.tmp 0)) 1,
  op 5 (.nilCheck (.global 4)) 1,
  op 6 (.fieldAddr 1 (.global 5) 0) 1,
  op 7 (.load 0 (.global 6)) 1,
  op 8 (.move (.tmp 0)) 1,
  op 9 (.nilCheck (.global 8)) 1,
  op 10 (.fieldAddr 0 (.global 9) 0) 1,
  op 11 (.load 0 (.global 10)) 1,
  op 12 (bi .len #[(.global 11)] 1) 1,
  op 13 (.binOp .lss 0 (.global 7) (.global 12) 0)])
(.cond (.tmp 13)
  (reg [op 14 (.move (.tmp 0)) 1,
    op 15 (.nilCheck (.global 14)) 1,
    op 16 (.fieldAddr 0 (.global 15) 0) 1,
    op 17 (.load 0 (.global 16)) 1,
    op 18 (.move (.tmp 0)) 1,
    op 19 (.nilCheck (.global 18)) 1,
    op 20 (.fieldAddr 1 (.global 19) 0) 1,
    op 21 (.load 0 (.global 20)) 1,
    op 22 (.indexAddr 3 (.global 17) (.global 21)) 1,
    op 23 (.load 0 (.global 22)) 1,
    op 24 (.convert 0 3 (.global 23)) 1,
    op 3 (.move (.global 24))])
  .skip))
(.seq (reg [op 25 (.move (.tmp 0)) 1,
  op 26 (.nilCheck (.global 25)) 1,
  op 27 (.fieldAddr 1 (.global 26) 0) 1,
  op 28 (.load 0 (.global 27)) 1,
  op 29 (.binOp .add 0 (.global 28) (.const (I 1)) 0) 1,
  op 30 (.nilCheck (.global 25)) 1,
  op 31 (.fieldAddr 1 (.global 30) 0) 1,
  opn (.store 1 (.global 31) (.global 29))])
(.seq (reg [op 32 (.move (.tmp 0)) 1,
  op 33 (.move (.tmp 0)) 1,
  op 34 (.nilCheck (.global 33)) 1,
  op 35 (.fieldAddr 2 (.global 34) 0) 1,
  op 36 (.load 0 (.global 35)) 1,
  op 37 (.binOp .mul 0 (.global 36) (.const (.int .u64 6364136223846793005)) 0) 1,
  op 38 (.move (.tmp 3)) 1,
  op 39 (.convert 0 7 (.global 38)) 1,
  op 40 (.binOp .add 0 (.global 37) (.global 39) 0) 1,
  op 41 (.binOp .add 0 (.global 40) (.const (.int .u64 1442695040888963407)) 0) 1,
  op 42 (.nilCheck (.global 32)) 1,
  op 43 (.fieldAddr 2 (.global 42) 0) 1,
  opn (.store 1 (.global 43) (.global 41))])
(.seq (.seq (reg [op 44 (.move (.tmp 0)) 1,
  op 45 (.nilCheck (.global 44)) 1,
  op 46 (.fieldAddr 1 (.global 45) 0) 1,
  op 47 (.load 0 (.global 46)) 1,
  op 48 (.move (.tmp 0)) 1,
  op 49 (.nilCheck (.global 48)) 1,
  op 50 (.fieldAddr 0 (.global 49) 0) 1,
  op 51 (.load 0 (.global 50)) 1,
  op 52 (bi .len #[(.global 51)] 1) 1,
  op 53 (.binOp .leq 0 (.global 47) (.global 52) 0)])
(.cond (.tmp 53)
  (.seq (reg [op 54 (.move (.tmp 3)) 1,
    op 2 (.move (.global 54))])
  .ret)
  .skip))
(.seq (reg [op 55 (.move (.tmp 0)) 1,
  op 56 (.nilCheck (.global 55)) 1,
  op 57 (.fieldAddr 2 (.global 56) 0) 1,
  op 58 (.load 0 (.global 57)) 1,
  op 59 (.binOp .shr 0 (.global 58) (.const (.int .u64 40)) 0) 1,
  op 60 (.binOp .and 0 (.global 59) (.const (.int .u64 255)) 0) 1,
  op 61 (.convert 0 3 (.global 60)) 1,
  op 2 (.move (.global 61))])
.ret))))))), [(2, 0)]⟩

/-- spec.l00Same -/
def fn436 : AFun := ⟨2,
(.seq (reg [op 4 (.move (.const (B false)))])
(.seq (.seq (reg [op 6 (.move (.tmp 0)) 1,
  op 7 (bi .len #[(.global 6)] 1) 1,
  op 8 (.move (.tmp 1)) 1,
  op 9 (bi .len #[(.global 8)] 1) 1,
  op 10 (.binOp .neq 0 (.global 7) (.global 9) 0)])
(.cond (.tmp 10)
  (.seq (reg [op 4 (.move (.const (B false)))])
  .ret)
  .skip))
(.seq (.seq (reg [op 5 (.move (.const (I 0)))])
(.block 0
  (.loop
    (.seq (.seq (reg [op 11 (.move (.tmp 5)) 1,
      op 12 (.move (.tmp 0)) 1,
      op 13 (bi .len #[(.global 12)] 1) 1,
      op 14 (.binOp .lss 0 (.global 11) (.global 13) 0)])
    (.cond (.tmp 14)
      .skip
      (.exit 0)))
    (.seq (.block 1
      (.seq (reg [op 17 (.move (.tmp 0)) 1,
        op 18 (.move (.tmp 5)) 1,
        op 19 (.indexAddr 3 (.global 17) (.global 18)) 1,
        op 20 (.load 0 (.global 19)) 1,
        op 21 (.move (.tmp 1)) 1,
        op 22 (.move (.tmp 5)) 1,
        op 23 (.indexAddr 3 (.global 21) (.global 22)) 1,
        op 24 (.load 0 (.global 23)) 1,
        op 25 (.binOp .neq 0 (.global 20) (.global 24) 0)])
      (.cond (.tmp 25)
        (.seq (reg [op 4 (.move (.const (B false)))])
        .ret)
        .skip)))
    (reg [op 15 (.move (.tmp 5)) 1,
      op 16 (.binOp .add 0 (.global 15) (.const (I 1)) 0) 1,
      op 5 (.move (.global 16))]))))))
(.seq (reg [op 4 (.move (.const (B true)))])
.ret)))), [(4, 0)]⟩

/-- slices.Clone[[]int64,int64] -/
def fn308 : AFun := ⟨1,
(.seq (reg [op 2 (.move (.const (sl 0 0 0 0)))])
(.seq (.seq (reg [op 3 (.move (.tmp 0)) 1,
  op 4 (.binOp .eql 0 (.global 3) (.const (sl 0 0 0 0)) 1)])
(.cond (.tmp 4)
  (.seq (reg [op 2 (.move (.const (sl 0 0 0 0)))])
  .ret)
  .skip))
(.seq (reg [op 5 (.move (.const (sl 0 0 0 1))) 1,
  op 6 (.move (.tmp 0)) 1,
  op 7 (bi .append #[(.global 5), (.global 6)] 1) 1,
  op 2 (.move (.global 7))])
.ret))), [(2, 0)]⟩

/-- (impl.Panel).trace -/
def fn55 : AFun := ⟨1,
(.seq (reg [op 1 (.makeChan 3 (.tmp 0)),
  op 2 (.move (.const (sl 0 0 0 0))),
  op 3 (.move (.const (sl 0 0 0 0)))])
(.seq (reg [op 10 (.move (.const (sl 0 0 0 1))) 1,
  op 4 (.move (.global 10))])
(.seq (reg [op 11 (.lookup 4 (.tmp 1) (.tmp 1) false) 1,
  op 12 (call (.func 51) #[(.global 11)]) 1,
  op 13 (.mapUpdate 1 (.global 12) (.global 12) (.const (.agg #[(I 0)]))) 1,
  op 5 (.move (.global 13))])
(.seq (.seq (reg [op 14 (.move (.tmp 5)) 1,
  op 15 (bi .len #[(.global 14)] 1),
  op 16 (.move (.const (I 0)))])
(.block 0
  (.loop
    (.seq (reg [op 17 (.binOp .lss 0 (.tmp 16) (.tmp 15) 0)])
    (.seq (.cond (.tmp 17)
      .skip
      (.exit 0))
    (.seq (.block 1
      (.seq (reg [op 18 (.move (.tmp 16)) 1,
        op 6 (.move (.global 18))])
      (reg [op 19 (.move (.tmp 5)) 1,
        op 20 (.move (.tmp 6)) 1,
        op 21 (.indexAddr 3 (.global 19) (.global 20)) 1,
        opn (.store 1 (.global 21) (.const (I (-1))))])))
    (reg [op 22 (.binOp .add 0 (.tmp 16) (.const (I 1)) 0) 1,
      op 16 (.move (.global 22))])))))))
(.seq (.seq (reg [op 23 (.lookup 4 (.tmp 1) (.tmp 1) false) 1,
  op 24 (call (.func 51) #[(.global 23)]),
  op 25 (.move (.const (I 0)))])
(.block 2
  (.loop
    (.seq (reg [op 26 (.binOp .lss 0 (.tmp 25) (.tmp 24) 0)])
    (.seq (.cond (.tmp 26)
      .skip
      (.exit 2))
    (.seq (.block 3
      (.seq (reg [op 27 (.move (.tmp 25)) 1,
        op 7 (.move (.global 27))])
      (.seq (.seq (reg [op 28 (.move (.tmp 5)) 1,
        op 29 (.move (.tmp 7)) 1,
        op 30 (.indexAddr 3 (.global 28) (.global 29)) 1,
        op 31 (.load 0 (.global 30)) 1,
        op 32 (.binOp .geq 0 (.global 31) (.const (I 0)) 0)])
      (.cond (.tmp 32)
        (.exit 3)
        .skip))
      (.seq (reg [op 33 (.move (.const (sl 0 0 0 4))) 1,
        op 8 (.move (.global 33))])
      (.seq (.seq (reg [op 34 (.lookup 4 (.tmp 1) (.tmp 1) false) 1,
        op 35 (.move (.tmp 7)) 1,
        op 36 (call (.func 56) #[(.global 34), (.global 35)]) 1,
        op 9 (.move (.const (.agg #[(I 0), (I 0), (I 0), (I 0)]))),
        op 9 (.insert 4 (.tmp 9) (.tmp 9) (.global 36))])
      (.block 4
        (.loop
          (.seq (.seq (reg [op 37 (.move (.tmp 5)) 1,
            op 38 (.lookup 4 (.tmp 1) (.tmp 1) false) 1,
            op 39 (.lookup 5 (.tmp 9) (.tmp 9) false) 1,
            op 40 (call (.func 50) #[(.global 38), (.global 39)]) 1,
            op 41 (.indexAddr 3 (.global 37) (.global 40)) 1,
            op 42 (.load 0 (.global 41)) 1,
            op 43 (.binOp .lss 0 (.global 42) (.const (I 0)) 0)])
          (.cond (.tmp 43)
            .skip
            (.exit 4)))
          (.seq (.block 5
            (.seq (reg [op 50 (.move (.tmp 5)) 1,
              op 51 (.lookup 4 (.tmp 1) (.tmp 1) false) 1,
              op 52 (.lookup 5 (.tmp 9) (.tmp 9) false) 1,
              op 53 (call (.func 50) #[(.global 51), (.global 52)]) 1,
              op 54 (.move (.tmp 4)) 1,
              op 55 (bi .len #[(.global 54)] 1) 1,
              op 56 (.indexAddr 3 (.global 50) (.global 53)) 1,
              opn (.store 1 (.global 56) (.global 55))])
            (reg [op 57 (.move (.tmp 8)) 1,
              op 58 (.lookup 5 (.tmp 9) (.tmp 9) false) 1,
              op 59 (.buildSlice 4 1 #[(0, (.const (.agg #[(I 0), (I 0), (I 0), (I 0)]))), (4, (.global 58))]) 1,
              op 60 (bi .append #[(.global 57), (.global 59)] 4) 1,
              op 8 (.move (.global 60))])))
          (.seq (.seq (reg [op 61 (.lookup 5 (.tmp 9) (.tmp 9) false)])
          (reg [op 9 (.move (.const (.agg #[(I 0), (I 0), (I 0), (I 0)]))),
            op 9 (.insert 4 (.tmp 9) (.tmp 9) (.tmp 61))]))
          (reg [op 45 (.lookup 4 (.tmp 1) (.tmp 1) false) 1,
            op 46 (.lookup 5 (.tmp 9) (.tmp 9) false) 1,
            op 47 (call (.func 54) #[(.global 45), (.global 46)]) 1,
            op 44 (.move (.global 47)) 1,
            op 48 (.extract (.global 44) 0) 1,
            op 49 (.extract (.global 44) 1) 1,
            op 9 (.insert 4 (.tmp 9) (.tmp 9) (.global 48))])))))))
      (reg [op 62 (.move (.tmp 4)) 1,
        op 63 (.move (.tmp 8)) 1,
        op 64 (.buildSlice 1 1 #[(0, (.const (.agg #[(sl 0 0 0 0)]))), (1, (.global 63))]) 1,
        op 65 (bi .append #[(.global 62), (.global 64)] 1) 1,
        op 4 (.move (.global 65))]))))))
    (reg [op 66 (.binOp .add 0 (.tmp 25) (.const (I 1)) 0) 1,
      op 25 (.move (.global 66))])))))))
(.seq (reg [op 67 (.move (.tmp 4)) 1,
  op 68 (.move (.tmp 5)) 1,
  op 2 (.move (.global 67)),
  op 3 (.move (.global 68))])
.ret)))))), [(2, 0), (3, 0)]⟩

/-- spec.l04All -/
def fn463 : AFun := ⟨1,
(.seq (reg [op 2 (.move (.const (sl 0 0 0 0))),
  op 3 (.move (.const (sl 0 0 0 0)))])
(.seq (reg [op 12 (.move (.tmp 0)) 1,
  op 13 (.nilCheck (.global 12)) 1,
  op 14 (.fieldAddr 0 (.global 13) 0) 1,
  op 15 (.load 0 (.global 14)) 1,
  op 16 (.binOp .mul 0 (.const (I 4)) (.global 15) 0) 1,
  op 17 (.move (.tmp 0)) 1,
  op 18 (.nilCheck (.global 17)) 1,
  op 19 (.fieldAddr 1 (.global 18) 0) 1,
  op 20 (.load 0 (.global 19)) 1,
  op 21 (.binOp .mul 0 (.global 16) (.global 20) 0) 1,
  op 4 (.move (.global 21))])
(.seq (reg [op 22 (.move (.tmp 4)) 1,
  op 23 (.mapUpdate 1 (.global 22) (.global 22) (.const (.agg #[(I 0)]))) 1,
  op 5 (.move (.global 23))])
(.seq (.seq (reg [op 6 (.move (.const (I 0)))])
(.block 0
  (.loop
    (.seq (.seq (reg [op 24 (.move (.tmp 6)) 1,
      op 25 (.move (.tmp 4)) 1,
      op 26 (.binOp .lss 0 (.global 24) (.global 25) 0)])
    (.cond (.tmp 26)
      .skip
      (.exit 0)))
    (.seq (.block 1
      (reg [op 29 (.move (.tmp 5)) 1,
        op 30 (.move (.tmp 6)) 1,
        op 31 (.indexAddr 3 (.global 29) (.global 30)) 1,
        opn (.store 1 (.global 31) (.const (I (-1))))]))
    (reg [op 27 (.move (.tmp 6)) 1,
      op 28 (.binOp .add 0 (.global 27) (.const (I 1)) 0) 1,
      op 6 (.move (.global 28))]))))))
(.seq (reg [op 32 (.move (.const (sl 0 0 0 1))) 1,
  op 7 (.move (.global 32))])
(.seq (.seq (reg [op 8 (.move (.const (I 0)))])
(.block 2
  (.loop
    (.seq (.seq (reg [op 33 (.move (.tmp 8)) 1,
      op 34 (.move (.tmp 4)) 1,
      op 35 (.binOp .lss 0 (.global 33) (.global 34) 0)])
    (.cond (.tmp 35)
      .skip
      (.exit 2)))
    (.seq (.block 3
      (.seq (.seq (reg [op 38 (.move (.tmp 5)) 1,
        op 39 (.move (.tmp 8)) 1,
        op 40 (.indexAddr 3 (.global 38) (.global 39)) 1,
        op 41 (.load 0 (.global 40)) 1,
        op 42 (.binOp .geq 0 (.global 41) (.const (I 0)) 0)])
      (.cond (.tmp 42)
        (.exit 3)
        .skip))
      (.seq (reg [op 44 (.move (.tmp 0)) 1,
        op 45 (.move (.tmp 0)) 1,
        op 46 (.move (.tmp 8)) 1,
        op 47 (call (.func 462) #[(.global 45), (.global 46)]) 1,
        op 48 (call (.func 466) #[(.global 44), (.global 47)]) 1,
        op 43 (.move (.global 48)) 1,
        op 49 (.extract (.global 43) 0) 1,
        op 50 (.extract (.global 43) 1) 1,
        op 9 (.move (.global 49)),
        op 10 (.move (.global 50))])
      (.seq (.seq (reg [op 11 (.move (.const (I 0)))])
      (.block 4
        (.loop
          (.seq (.seq (reg [op 51 (.move (.tmp 11)) 1,
            op 52 (.move (.tmp 10)) 1,
            op 53 (bi .len #[(.global 52)] 1) 1,
            op 54 (.binOp .lss 0 (.global 51) (.global 53) 0)])
          (.cond (.tmp 54)
            .skip
            (.exit 4)))
          (.seq (.block 5
            (reg [op 57 (.move (.tmp 5)) 1,
              op 58 (.move (.tmp 10)) 1,
              op 59 (.move (.tmp 11)) 1,
              op 60 (.indexAddr 3 (.global 58) (.global 59)) 1,
              op 61 (.load 0 (.global 60)) 1,
              op 62 (.move (.tmp 7)) 1,
              op 63 (bi .len #[(.global 62)] 1) 1,
              op 64 (.indexAddr 3 (.global 57) (.global 61)) 1,
              opn (.store 1 (.global 64) (.global 63))]))
          (reg [op 55 (.move (.tmp 11)) 1,
            op 56 (.binOp .add 0 (.global 55) (.const (I 1)) 0) 1,
            op 11 (.move (.global 56))]))))))
      (reg [op 65 (.move (.tmp 7)) 1,
        op 66 (.move (.tmp 9)) 1,
        op 67 (.buildSlice 1 1 #[(0, (.const (.agg #[(sl 0 0 0 0)]))), (1, (.global 66))]) 1,
        op 68 (bi .append #[(.global 65), (.global 67)] 1) 1,
        op 7 (.move (.global 68))])))))
    (reg [op 36 (.move (.tmp 8)) 1,
      op 37 (.binOp .add 0 (.global 36) (.const (I 1)) 0) 1,
      op 8 (.move (.global 37))]))))))
(.seq (reg [op 69 (.move (.tmp 7)) 1,
  op 70 (.move (.tmp 5)) 1,
  op 2 (.move (.global 69)),
  op 3 (.move (.global 70))])
.ret))))))), [(2, 0), (3, 0)]⟩

/-- spec.l00Own -/
def fn435 : AFun := ⟨1,
(.seq (reg [op 2 (.move (.const (sl 0 0 0 0)))])
(.seq (reg [op 3 (.move (.const (sl 0 0 0 1))) 1,
  op 4 (.move (.tmp 0)) 1,
  op 5 (bi .append #[(.global 3), (.global 4)] 1) 1,
  op 2 (.move (.global 5))])
.ret)), [(2, 0)]⟩

/-- spec.l02Row -/
def fn455 : AFun := ⟨2,
(.seq (reg [op 4 (.move (.const (I 0)))])
(.seq (reg [op 5 (.move (.const (I 0)))])
(.seq (.seq (reg [op 6 (.move (.const (I 1)))])
(.block 0
  (.loop
    (.seq (.seq (reg [op 7 (.move (.tmp 6)) 1,
      op 8 (.move (.tmp 1)) 1,
      op 9 (.binOp .lss 0 (.global 7) (.global 8) 0)])
    (.cond (.tmp 9)
      .skip
      (.exit 0)))
    (.seq (.block 1
      (.seq (reg [op 12 (.move (.tmp 5)) 1,
        op 13 (.move (.tmp 0)) 1,
        op 14 (.nilCheck (.global 13)) 1,
        op 15 (.fieldAddr 0 (.global 14) 0) 1,
        op 16 (.load 0 (.global 15)) 1,
        op 17 (.binOp .add 0 (.global 12) (.global 16) 0) 1,
        op 5 (.move (.global 17))])
      (.seq (reg [op 18 (.move (.tmp 6)) 1,
        op 19 (.binOp .rem 0 (.global 18) (.const (I 2)) 0) 1,
        op 20 (.binOp .eql 0 (.global 19) (.const (I 1)) 0)])
      (.cond (.tmp 20)
        (reg [op 21 (.move (.tmp 5)) 1,
          op 22 (.binOp .sub 0 (.global 21) (.const (I 1)) 0) 1,
          op 5 (.move (.global 22))])
        .skip))))
    (reg [op 10 (.move (.tmp 6)) 1,
      op 11 (.binOp .add 0 (.global 10) (.const (I 1)) 0) 1,
      op 6 (.move (.global 11))]))))))
(.seq (reg [op 23 (.move (.tmp 5)) 1,
  op 4 (.move (.global 23))])
.ret)))), [(4, 0)]⟩

/-- (impl.Panel).segments -/
def fn51 : AFun := ⟨1,
(.seq (reg [op 1 (.makeChan 3 (.tmp 0)),
  op 2 (.move (.const (I 0)))])
(.seq (reg [op 3 (.fieldAddr 0 (.tmp 1) 1) 1,
  op 4 (.lookup 0 (.tmp 1) (.global 3) false) 1,
  op 5 (.binOp .mul 0 (.const (I 4)) (.global 4) 0) 1,
  op 6 (.fieldAddr 1 (.tmp 1) 1) 1,
  op 7 (.lookup 0 (.tmp 1) (.global 6) false) 1,
  op 8 (.binOp .mul 0 (.global 5) (.global 7) 0) 1,
  op 2 (.move (.global 8))])
.ret)), [(2, 0)]⟩

/-- (impl.Panel).walker -/
def fn56 : AFun := ⟨2,
(.seq (reg [op 2 (.makeChan 3 (.tmp 0)),
  op 4 (.move (.const (.agg #[(I 0), (I 0), (I 0), (I 0)])))])
(.seq (reg [op 7 (.move (.tmp 1)) 1,
  op 8 (.fieldAddr 1 (.tmp 2) 1) 1,
  op 9 (.lookup 0 (.tmp 2) (.global 8) false) 1,
  op 10 (.binOp .mul 0 (.const (I 2)) (.global 9) 0) 1,
  op 11 (.binOp .quo 0 (.global 7) (.global 10) 0) 1,
  op 12 (.move (.tmp 1)) 1,
  op 13 (.fieldAddr 1 (.tmp 2) 1) 1,
  op 14 (.lookup 0 (.tmp 2) (.global 13) false) 1,
  op 15 (.binOp .mul 0 (.const (I 2)) (.global 14) 0) 1,
  op 16 (.binOp .rem 0 (.global 12) (.global 15) 0) 1,
  op 5 (.move (.global 11)),
  op 6 (.move (.global 16))])
(.seq (.seq (reg [op 17 (.move (.tmp 5)) 1,
  op 18 (.move (.tmp 6)) 1,
  op 19 (.binOp .add 0 (.global 17) (.global 18) 0) 1,
  op 20 (.binOp .rem 0 (.global 19) (.const (I 2)) 0) 1,
  op 21 (.binOp .eql 0 (.global 20) (.const (I 1)) 0)])
(.cond (.tmp 21)
  (.seq (reg [op 22 (.move (.tmp 5)) 1,
    op 23 (.move (.tmp 6)) 1,
    op 24 (.build 0 #[(0, (.const (.agg #[(I 0), (I 0)]))), (1, (.global 22)), (1001, (.global 23))]) 1,
    op 25 (.build 0 #[(0, (.const (.agg #[(I 0), (I 0), (I 0), (I 0)]))), (2, (.global 24)), (2001, (.const (I 1))), (3001, (.const (I 1)))]) 1,
    op 4 (.insert 4 (.tmp 4) (.tmp 4) (.global 25))])
  .ret)
  .skip))
(.seq (reg [op 26 (.move (.tmp 5)) 1,
  op 27 (.move (.tmp 6)) 1,
  op 28 (.binOp .add 0 (.global 27) (.const (I 1)) 0) 1,
  op 29 (.build 0 #[(0, (.const (.agg #[(I 0), (I 0)]))), (1, (.global 26)), (1001, (.global 28))]) 1,
  op 30 (.build 0 #[(0, (.const (.agg #[(I 0), (I 0), (I 0), (I 0)]))), (2, (.global 29)), (2001, (.const (I 1))), (3001, (.const (I (-1))))]) 1,
  op 4 (.insert 4 (.tmp 4) (.tmp 4) (.global 30))])
.ret)))), [(4, 1000005)]⟩

/-- (impl.Panel).segment -/
def fn50 : AFun := ⟨2,
(.seq (reg [op 2 (.makeChan 3 (.tmp 0)),
  op 3 (.makeChan 4 (.tmp 1)),
  op 4 (.move (.const (I 0)))])
(.seq (reg [op 6 (.lookup 5 (.tmp 3) (.tmp 3) false) 1,
  op 7 (call (.func 58) #[(.global 6)]) 1,
  op 5 (.move (.const (.agg #[(I 0), (I 0)]))),
  op 5 (.insert 2 (.tmp 5) (.tmp 5) (.global 7))])
(.seq (reg [op 8 (.fieldAddr 0 (.tmp 3) 1) 1,
  op 9 (.fieldAddr 0 (.global 8) 1) 1,
  op 10 (.lookup 0 (.tmp 3) (.global 9) false) 1,
  op 11 (.fieldAddr 0 (.tmp 5) 1) 1,
  op 12 (.lookup 0 (.tmp 5) (.global 11) false) 1,
  op 13 (bi .min #[(.global 10), (.global 12)] 0) 1,
  op 14 (.binOp .mul 0 (.global 13) (.const (I 2)) 0) 1,
  op 15 (.fieldAddr 1 (.tmp 2) 1) 1,
  op 16 (.lookup 0 (.tmp 2) (.global 15) false) 1,
  op 17 (.binOp .mul 0 (.global 14) (.global 16) 0) 1,
  op 18 (.fieldAddr 0 (.tmp 3) 1) 1,
  op 19 (.fieldAddr 1 (.global 18) 1) 1,
  op 20 (.lookup 0 (.tmp 3) (.global 19) false) 1,
  op 21 (.fieldAddr 1 (.tmp 5) 1) 1,
  op 22 (.lookup 0 (.tmp 5) (.global 21) false) 1,
  op 23 (bi .min #[(.global 20), (.global 22)] 0) 1,
  op 24 (.binOp .add 0 (.global 17) (.global 23) 0) 1,
  op 4 (.move (.global 24))])
.ret))), [(4, 0)]⟩

/-- (impl.Panel).step -/
def fn54 : AFun := ⟨2,
(.seq (reg [op 2 (.makeChan 3 (.tmp 0)),
  op 3 (.makeChan 4 (.tmp 1)),
  op 4 (.move (.const (.agg #[(I 0), (I 0), (I 0), (I 0)]))),
  op 5 (.move (.const (B false)))])
(.seq (reg [op 9 (.lookup 5 (.tmp 3) (.tmp 3) false) 1,
  op 10 (call (.func 58) #[(.global 9)]) 1,
  op 6 (.move (.const (.agg #[(I 0), (I 0)]))),
  op 6 (.insert 2 (.tmp 6) (.tmp 6) (.global 10))])
(.seq (reg [op 11 (.lookup 3 (.tmp 6) (.tmp 6) false) 1,
  op 12 (.fieldAddr 2 (.tmp 3) 1) 1,
  op 13 (.lookup 0 (.tmp 3) (.global 12) false) 1,
  op 14 (.fieldAddr 3 (.tmp 3) 1) 1,
  op 15 (.lookup 0 (.tmp 3) (.global 14) false) 1,
  op 16 (.build 0 #[(0, (.const (.agg #[(I 0), (I 0), (I 0), (I 0)]))), (2, (.global 11)), (2001, (.global 13)), (3001, (.global 15))]) 1,
  op 7 (.move (.const (.agg #[(I 0), (I 0), (I 0), (I 0)]))),
  op 7 (.insert 4 (.tmp 7) (.tmp 7) (.global 16))])
(.seq (reg [op 8 (.move (.const (I 0)))])
(.seq (.seq (reg [op 17 (.lookup 4 (.tmp 2) (.tmp 2) false) 1,
  op 18 (.lookup 3 (.tmp 6) (.tmp 6) false) 1,
  op 19 (call (.func 34) #[(.global 17), (.global 18)]) 1,
  op 20 (.unOp .not 0 (.global 19))])
(.cond (.tmp 20)
  (reg [op 21 (.fieldAddr 2 (.tmp 2) 1) 1,
    op 22 (.lookup 0 (.tmp 2) (.global 21) false) 1,
    op 23 (.lookup 4 (.tmp 2) (.tmp 2) false) 1,
    op 24 (.lookup 3 (.tmp 6) (.tmp 6) false) 1,
    op 25 (call (.func 40) #[(.global 23), (.global 24)]) 1,
    op 26 (.indexAddr 3 (.global 22) (.global 25)) 1,
    op 27 (.load 0 (.global 26)) 1,
    op 8 (.move (.global 27))])
  .skip))
(.seq (.seq (reg [op 28 (.fieldAddr 0 (.tmp 6) 1) 1,
  op 29 (.lookup 0 (.tmp 6) (.global 28) false) 1,
  op 30 (.binOp .eql 0 (.global 29) (.const (I 0)) 0) 1,
  op 31 (.move (.global 30)) 1,
  op 32 (.fieldAddr 0 (.tmp 6) 1) 1 (some (125, false)),
  op 33 (.lookup 0 (.tmp 6) (.global 32) false) 1 (some (125, false)),
  op 34 (.fieldAddr 0 (.tmp 2) 1) 1 (some (125, false)),
  op 35 (.lookup 0 (.tmp 2) (.global 34) false) 1 (some (125, false)),
  op 36 (.binOp .mul 0 (.const (I 2)) (.global 35) 0) 1 (some (125, false)),
  op 37 (.binOp .eql 0 (.global 33) (.global 36) 0) 1 (some (125, false)),
  op 38 (.pick (.global 31) (.const (B true)) (.global 37)) 1,
  op 39 (.move (.global 38)) 1,
  op 40 (.move (.tmp 8)) 1 (some (157, false)),
  op 41 (.binOp .eql 0 (.global 40) (.const (I 1)) 0) 1 (some (157, false)),
  op 42 (.pick (.global 39) (.const (B true)) (.global 41))])
(.cond (.tmp 42)
  (reg [op 43 (.fieldAddr 2 (.tmp 7) 1) 1,
    op 44 (.lookup 0 (.tmp 7) (.global 43) false) 1,
    op 45 (.unOp .neg 0 (.global 44)) 1,
    op 46 (.fieldAddr 2 (.tmp 7) 1) 1,
    op 7 (.insert 1 (.tmp 7) (.global 46) (.global 45))])
  .skip))
(.seq (.seq (reg [op 47 (.fieldAddr 1 (.tmp 6) 1) 1,
  op 48 (.lookup 0 (.tmp 6) (.global 47) false) 1,
  op 49 (.binOp .eql 0 (.global 48) (.const (I 0)) 0) 1,
  op 50 (.move (.global 49)) 1,
  op 51 (.fieldAddr 1 (.tmp 6) 1) 1 (some (201, false)),
  op 52 (.lookup 0 (.tmp 6) (.global 51) false) 1 (some (201, false)),
  op 53 (.fieldAddr 1 (.tmp 2) 1) 1 (some (201, false)),
  op 54 (.lookup 0 (.tmp 2) (.global 53) false) 1 (some (201, false)),
  op 55 (.binOp .mul 0 (.const (I 2)) (.global 54) 0) 1 (some (201, false)),
  op 56 (.binOp .eql 0 (.global 52) (.global 55) 0) 1 (some (201, false)),
  op 57 (.pick (.global 50) (.const (B true)) (.global 56)) 1,
  op 58 (.move (.global 57)) 1,
  op 59 (.move (.tmp 8)) 1 (some (233, false)),
  op 60 (.binOp .eql 0 (.global 59) (.const (I 2)) 0) 1 (some (233, false)),
  op 61 (.pick (.global 58) (.const (B true)) (.global 60))])
(.cond (.tmp 61)
  (reg [op 62 (.fieldAddr 3 (.tmp 7) 1) 1,
    op 63 (.lookup 0 (.tmp 7) (.global 62) false) 1,
    op 64 (.unOp .neg 0 (.global 63)) 1,
    op 65 (.fieldAddr 3 (.tmp 7) 1) 1,
    op 7 (.insert 1 (.tmp 7) (.global 65) (.global 64))])
  .skip))
(.seq (reg [op 66 (.lookup 5 (.tmp 7) (.tmp 7) false) 1,
  op 67 (.fieldAddr 2 (.tmp 7) 1) 1,
  op 68 (.lookup 0 (.tmp 7) (.global 67) false) 1,
  op 69 (.fieldAddr 2 (.tmp 3) 1) 1,
  op 70 (.lookup 0 (.tmp 3) (.global 69) false) 1,
  op 71 (.binOp .neq 0 (.global 68) (.global 70) 0) 1,
  op 72 (.move (.global 71)) 1,
  op 73 (.fieldAddr 3 (.tmp 7) 1) 1 (some (289, false)),
  op 74 (.lookup 0 (.tmp 7) (.global 73) false) 1 (some (289, false)),
  op 75 (.fieldAddr 3 (.tmp 3) 1) 1 (some (289, false)),
  op 76 (.lookup 0 (.tmp 3) (.global 75) false) 1 (some (289, false)),
  op 77 (.binOp .neq 0 (.global 74) (.global 76) 0) 1 (some (289, false)),
  op 78 (.pick (.global 72) (.const (B true)) (.global 77)) 1,
  op 4 (.insert 4 (.tmp 4) (.tmp 4) (.global 66)),
  op 5 (.move (.global 78))])
.ret)))))))), [(4, 1000005), (5, 0)]⟩

/-- spec.l04Trace -/
def fn466 : AFun := ⟨2,
(.seq (reg [op 3 (.makeChan 4 (.tmp 1)),
  op 4 (.move (.const (sl 0 0 0 0))),
  op 5 (.move (.const (sl 0 0 0 0)))])
(.seq (reg [op 9 (.move (.const (sl 0 0 0 2))) 1,
  op 6 (.move (.global 9))])
(.seq (reg [op 10 (.move (.const (sl 0 0 0 1))) 1,
  op 7 (.move (.global 10))])
(.seq (.seq (reg [op 11 (.lookup 5 (.tmp 3) (.tmp 3) false) 1,
  op 8 (.move (.const (.agg #[(I 0), (I 0), (I 0), (I 0)]))),
  op 8 (.insert 4 (.tmp 8) (.tmp 8) (.global 11))])
(.block 0
  (.loop
    (.seq (.seq (reg [op 12 (.move (.tmp 6)) 1,
      op 13 (bi .len #[(.global 12)] 1) 1,
      op 14 (.binOp .eql 0 (.global 13) (.const (I 0)) 0) 1,
      op 15 (.move (.global 14)) 1,
      op 16 (.lookup 5 (.tmp 8) (.tmp 8) false) 1 (some (61, false)),
      op 17 (.lookup 5 (.tmp 3) (.tmp 3) false) 1 (some (61, false)),
      op 18 (.binOp .neq 6 (.global 16) (.global 17) 0) 1 (some (61, false)),
      op 19 (.pick (.global 15) (.const (B true)) (.global 18))])
    (.cond (.tmp 19)
      .skip
      (.exit 0)))
    (.seq (.block 1
      (.seq (reg [op 23 (.move (.tmp 6)) 1,
        op 24 (.fieldAddr 0 (.tmp 8) 1) 1,
        op 25 (.lookup 3 (.tmp 8) (.global 24) false) 1,
        op 26 (.buildSlice 2 1 #[(0, (.const (.agg #[(I 0), (I 0)]))), (2, (.global 25))]) 1,
        op 27 (bi .append #[(.global 23), (.global 26)] 2) 1,
        op 6 (.move (.global 27))])
      (reg [op 28 (.move (.tmp 7)) 1,
        op 29 (.move (.tmp 0)) 1,
        op 30 (.lookup 5 (.tmp 8) (.tmp 8) false) 1,
        op 31 (call (.func 460) #[(.global 29), (.global 30)]) 1,
        op 32 (.buildSlice 1 1 #[(0, (.const (.agg #[(I 0)]))), (1, (.global 31))]) 1,
        op 33 (bi .append #[(.global 28), (.global 32)] 1) 1,
        op 7 (.move (.global 33))])))
    (.seq (.seq (reg [op 34 (.lookup 5 (.tmp 8) (.tmp 8) false)])
    (reg [op 8 (.move (.const (.agg #[(I 0), (I 0), (I 0), (I 0)]))),
      op 8 (.insert 4 (.tmp 8) (.tmp 8) (.tmp 34))]))
    (reg [op 20 (.move (.tmp 0)) 1,
      op 21 (.lookup 5 (.tmp 8) (.tmp 8) false) 1,
      op 22 (call (.func 461) #[(.global 20), (.global 21)]) 1,
      op 8 (.insert 4 (.tmp 8) (.tmp 8) (.global 22))])))))))
(.seq (reg [op 35 (.move (.tmp 6)) 1,
  op 36 (.move (.tmp 7)) 1,
  op 4 (.move (.global 35)),
  op 5 (.move (.global 36))])
.ret))))), [(4, 0), (5, 0)]⟩

/-- spec.l03Walker -/
def fn462 : AFun := ⟨2,
(.seq (reg [op 4 (.move (.const (.agg #[(I 0), (I 0), (I 0), (I 0)])))])
(.seq (reg [op 8 (.move (.tmp 1)) 1,
  op 9 (.move (.tmp 0)) 1,
  op 10 (.nilCheck (.global 9)) 1,
  op 11 (.fieldAddr 1 (.global 10) 0) 1,
  op 12 (.load 0 (.global 11)) 1,
  op 13 (.binOp .mul 0 (.const (I 2)) (.global 12) 0) 1,
  op 14 (.binOp .quo 0 (.global 8) (.global 13) 0) 1,
  op 5 (.move (.global 14))])
(.seq (reg [op 15 (.move (.tmp 1)) 1,
  op 16 (.move (.tmp 0)) 1,
  op 17 (.nilCheck (.global 16)) 1,
  op 18 (.fieldAddr 1 (.global 17) 0) 1,
  op 19 (.load 0 (.global 18)) 1,
  op 20 (.binOp .mul 0 (.const (I 2)) (.global 19) 0) 1,
  op 21 (.binOp .rem 0 (.global 15) (.global 20) 0) 1,
  op 6 (.move (.global 21))])
(.seq (.seq (reg [op 22 (.move (.tmp 5)) 1,
  op 23 (.binOp .rem 0 (.global 22) (.const (I 2)) 0) 1,
  op 24 (.binOp .eql 0 (.global 23) (.const (I 0)) 0)])
(.cond (.tmp 24)
  (.seq (reg [op 25 (.move (.tmp 5)) 1,
    op 26 (.move (.tmp 6)) 1,
    op 27 (.binOp .quo 0 (.global 26) (.const (I 2)) 0) 1,
    op 28 (.binOp .mul 0 (.global 27) (.const (I 2)) 0) 1,
    op 29 (.binOp .add 0 (.global 28) (.const (I 1)) 0) 1,
    op 30 (.build 0 #[(0, (.const (.agg #[(I 0), (I 0)]))), (1, (.global 25)), (1001, (.global 29))]) 1,
    op 31 (.move (.tmp 6)) 1,
    op 32 (.binOp .rem 0 (.global 31) (.const (I 2)) 0) 1,
    op 33 (.binOp .mul 0 (.const (I 2)) (.global 32) 0) 1,
    op 34 (.binOp .sub 0 (.global 33) (.const (I 1)) 0) 1,
    op 35 (.build 0 #[(0, (.const (.agg #[(I 0), (I 0), (I 0), (I 0)]))), (2, (.global 30)), (2001, (.const (I 1))), (3001, (.global 34))]) 1,
    op 4 (.insert 4 (.tmp 4) (.tmp 4) (.global 35))])
  .ret)
  .skip))
(.seq (reg [op 36 (.move (.tmp 5)) 1,
  op 37 (.move (.tmp 6)) 1,
  op 38 (.binOp .add 0 (.global 37) (.const (I 1)) 0) 1,
  op 39 (.binOp .quo 0 (.global 38) (.const (I 2)) 0) 1,
  op 40 (.binOp .mul 0 (.global 39) (.const (I 2)) 0) 1,
  op 41 (.build 0 #[(0, (.const (.agg #[(I 0), (I 0)]))), (1, (.global 36)), (1001, (.global 40))]) 1,
  op 42 (.build 0 #[(0, (.const (.agg #[(I 0), (I 0), (I 0), (I 0)]))), (2, (.global 41)), (2001, (.const (I 1))), (3001, (.const (I 1)))]) 1,
  op 7 (.move (.const (.agg #[(I 0), (I 0), (I 0), (I 0)]))),
  op 7 (.insert 4 (.tmp 7) (.tmp 7) (.global 42))])
(.seq (.seq (reg [op 43 (.move (.tmp 6)) 1,
  op 44 (.binOp .rem 0 (.global 43) (.const (I 2)) 0) 1,
  op 45 (.binOp .eql 0 (.global 44) (.const (I 1)) 0)])
(.cond (.tmp 45)
  (reg [op 46 (.fieldAddr 3 (.tmp 7) 1) 1,
    op 7 (.insert 1 (.tmp 7) (.global 46) (.const (I (-1))))])
  .skip))
(.seq (reg [op 47 (.lookup 5 (.tmp 7) (.tmp 7) false) 1,
  op 4 (.insert 4 (.tmp 4) (.tmp 4) (.global 47))])
.ret))))))), [(4, 1000005)]⟩

/-- (impl.Walker).next -/
def fn58 : AFun := ⟨1,
(.seq (reg [op 1 (.makeChan 4 (.tmp 0)),
  op 2 (.move (.const (.agg #[(I 0), (I 0)])))])
(.seq (reg [op 3 (.fieldAddr 0 (.tmp 1) 1) 1,
  op 4 (.fieldAddr 0 (.global 3) 1) 1,
  op 5 (.lookup 0 (.tmp 1) (.global 4) false) 1,
  op 6 (.fieldAddr 2 (.tmp 1) 1) 1,
  op 7 (.lookup 0 (.tmp 1) (.global 6) false) 1,
  op 8 (.binOp .add 0 (.global 5) (.global 7) 0) 1,
  op 9 (.fieldAddr 0 (.tmp 1) 1) 1,
  op 10 (.fieldAddr 1 (.global 9) 1) 1,
  op 11 (.lookup 0 (.tmp 1) (.global 10) false) 1,
  op 12 (.fieldAddr 3 (.tmp 1) 1) 1,
  op 13 (.lookup 0 (.tmp 1) (.global 12) false) 1,
  op 14 (.binOp .add 0 (.global 11) (.global 13) 0) 1,
  op 15 (.build 0 #[(0, (.const (.agg #[(I 0), (I 0)]))), (1, (.global 8)), (1001, (.global 14))]) 1,
  op 2 (.insert 2 (.tmp 2) (.tmp 2) (.global 15))])
.ret)), [(2, 1000003)]⟩

/-- (impl.Panel).isBorder -/
def fn34 : AFun := ⟨2,
(.seq (reg [op 2 (.makeChan 3 (.tmp 0)),
  op 3 (.makeChan 2 (.tmp 1)),
  op 4 (.move (.const (B false)))])
(.seq (reg [op 5 (.fieldAddr 0 (.tmp 3) 1) 1,
  op 6 (.lookup 0 (.tmp 3) (.global 5) false) 1,
  op 7 (.binOp .eql 0 (.global 6) (.const (I 0)) 0) 1,
  op 8 (.move (.global 7)) 1,
  op 9 (.fieldAddr 0 (.tmp 3) 1) 1 (some (33, false)),
  op 10 (.lookup 0 (.tmp 3) (.global 9) false) 1 (some (33, false)),
  op 11 (.fieldAddr 0 (.tmp 2) 1) 1 (some (33, false)),
  op 12 (.lookup 0 (.tmp 2) (.global 11) false) 1 (some (33, false)),
  op 13 (.binOp .mul 0 (.const (I 2)) (.global 12) 0) 1 (some (33, false)),
  op 14 (.binOp .eql 0 (.global 10) (.global 13) 0) 1 (some (33, false)),
  op 15 (.pick (.global 8) (.const (B true)) (.global 14)) 1,
  op 16 (.move (.global 15)) 1,
  op 17 (.fieldAddr 1 (.tmp 3) 1) 1 (some (65, false)),
  op 18 (.lookup 0 (.tmp 3) (.global 17) false) 1 (some (65, false)),
  op 19 (.binOp .eql 0 (.global 18) (.const (I 0)) 0) 1 (some (65, false)),
  op 20 (.pick (.global 16) (.const (B true)) (.global 19)) 1,
  op 21 (.move (.global 20)) 1,
  op 22 (.fieldAddr 1 (.tmp 3) 1) 1 (some (85, false)),
  op 23 (.lookup 0 (.tmp 3) (.global 22) false) 1 (some (85, false)),
  op 24 (.fieldAddr 1 (.tmp 2) 1) 1 (some (85, false)),
  op 25 (.lookup 0 (.tmp 2) (.global 24) false) 1 (some (85, false)),
  op 26 (.binOp .mul 0 (.const (I 2)) (.global 25) 0) 1 (some (85, false)),
  op 27 (.binOp .eql 0 (.global 23) (.global 26) 0) 1 (some (85, false)),
  op 28 (.pick (.global 21) (.const (B true)) (.global 27)) 1,
  op 4 (.move (.global 28))])
.ret)), [(4, 0)]⟩

/-- spec.l03Step -/
def fn461 : AFun := ⟨2,
(.seq (reg [op 3 (.makeChan 4 (.tmp 1)),
  op 4 (.move (.const (.agg #[(I 0), (I 0), (I 0), (I 0)])))])
(.seq (reg [op 7 (.lookup 5 (.tmp 3) (.tmp 3) false) 1,
  op 8 (call (.func 459) #[(.global 7)]) 1,
  op 5 (.move (.const (.agg #[(I 0), (I 0)]))),
  op 5 (.insert 2 (.tmp 5) (.tmp 5) (.global 8))])
(.seq (reg [op 9 (.lookup 3 (.tmp 5) (.tmp 5) false) 1,
  op 10 (.fieldAddr 2 (.tmp 3) 1) 1,
  op 11 (.lookup 0 (.tmp 3) (.global 10) false) 1,
  op 12 (.fieldAddr 3 (.tmp 3) 1) 1,
  op 13 (.lookup 0 (.tmp 3) (.global 12) false) 1,
  op 14 (.build 0 #[(0, (.const (.agg #[(I 0), (I 0), (I 0), (I 0)]))), (2, (.global 9)), (2001, (.global 11)), (3001, (.global 13))]) 1,
  op 6 (.move (.const (.agg #[(I 0), (I 0), (I 0), (I 0)]))),
  op 6 (.insert 4 (.tmp 6) (.tmp 6) (.global 14))])
(.seq (.seq (reg [op 15 (.fieldAddr 0 (.tmp 5) 1) 1,
  op 16 (.lookup 0 (.tmp 5) (.global 15) false) 1,
  op 17 (.binOp .eql 0 (.global 16) (.const (I 0)) 0) 1,
  op 18 (.move (.global 17)) 1,
  op 19 (.fieldAddr 0 (.tmp 5) 1) 1 (some (73, false)),
  op 20 (.lookup 0 (.tmp 5) (.global 19) false) 1 (some (73, false)),
  op 21 (.move (.tmp 0)) 1 (some (73, false)),
  op 22 (.nilCheck (.global 21)) 1 (some (73, false)),
  op 23 (.fieldAddr 0 (.global 22) 0) 1 (some (73, false)),
  op 24 (.load 0 (.global 23)) 1 (some (73, false)),
  op 25 (.binOp .mul 0 (.const (I 2)) (.global 24) 0) 1 (some (73, false)),
  op 26 (.binOp .eql 0 (.global 20) (.global 25) 0) 1 (some (73, false)),
  op 27 (.pick (.global 18) (.const (B true)) (.global 26))])
(.cond (.tmp 27)
  (reg [op 28 (.fieldAddr 2 (.tmp 6) 1) 1,
    op 29 (.lookup 0 (.tmp 6) (.global 28) false) 1,
    op 30 (.unOp .neg 0 (.global 29)) 1,
    op 31 (.fieldAddr 2 (.tmp 6) 1) 1,
    op 6 (.insert 1 (.tmp 6) (.global 31) (.global 30))])
  .skip))
(.seq (.seq (reg [op 32 (.fieldAddr 1 (.tmp 5) 1) 1,
  op 33 (.lookup 0 (.tmp 5) (.global 32) false) 1,
  op 34 (.binOp .eql 0 (.global 33) (.const (I 0)) 0) 1,
  op 35 (.move (.global 34)) 1,
  op 36 (.fieldAddr 1 (.tmp 5) 1) 1 (some (141, false)),
  op 37 (.lookup 0 (.tmp 5) (.global 36) false) 1 (some (141, false)),
  op 38 (.move (.tmp 0)) 1 (some (141, false)),
  op 39 (.nilCheck (.global 38)) 1 (some (141, false)),
  op 40 (.fieldAddr 1 (.global 39) 0) 1 (some (141, false)),
  op 41 (.load 0 (.global 40)) 1 (some (141, false)),
  op 42 (.binOp .mul 0 (.const (I 2)) (.global 41) 0) 1 (some (141, false)),
  op 43 (.binOp .eql 0 (.global 37) (.global 42) 0) 1 (some (141, false)),
  op 44 (.pick (.global 35) (.const (B true)) (.global 43))])
(.cond (.tmp 44)
  (reg [op 45 (.fieldAddr 3 (.tmp 6) 1) 1,
    op 46 (.lookup 0 (.tmp 6) (.global 45) false) 1,
    op 47 (.unOp .neg 0 (.global 46)) 1,
    op 48 (.fieldAddr 3 (.tmp 6) 1) 1,
    op 6 (.insert 1 (.tmp 6) (.global 48) (.global 47))])
  .skip))
(.seq (.seq (reg [op 49 (.move (.tmp 0)) 1,
  op 50 (.lookup 3 (.tmp 5) (.tmp 5) false) 1,
  op 51 (call (.func 446) #[(.global 49), (.global 50)]) 1,
  op 52 (.unOp .not 0 (.global 51))])
(.cond (.tmp 52)
  (.seq (reg [op 53 (.move (.tmp 0)) 1,
    op 54 (.nilCheck (.global 53)) 1,
    op 55 (.fieldAddr 2 (.global 54) 0) 1,
    op 56 (.load 0 (.global 55)) 1,
    op 57 (.move (.tmp 0)) 1,
    op 58 (.lookup 3 (.tmp 5) (.tmp 5) false) 1,
    op 59 (call (.func 451) #[(.global 57), (.global 58)]) 3,
    op 60 (.indexAddr 3 (.global 56) (.global 59)) 1,
    op 61 (.load 0 (.global 60))])
  (.block 0
    (.seq (reg [op 63 (.binOp .eql 0 (.tmp 61) (.const (I 1)) 0) 1,
      op 62 (.move (.global 63))])
    (.cond (.tmp 62)
      (reg [op 64 (.fieldAddr 2 (.tmp 6) 1) 1,
        op 65 (.lookup 0 (.tmp 6) (.global 64) false) 1,
        op 66 (.unOp .neg 0 (.global 65)) 1,
        op 67 (.fieldAddr 2 (.tmp 6) 1) 1,
        op 6 (.insert 1 (.tmp 6) (.global 67) (.global 66))])
      (.seq (reg [op 69 (.binOp .eql 0 (.tmp 61) (.const (I 2)) 0) 1,
        op 68 (.move (.global 69))])
      (.cond (.tmp 68)
        (reg [op 70 (.fieldAddr 3 (.tmp 6) 1) 1,
          op 71 (.lookup 0 (.tmp 6) (.global 70) false) 1,
          op 72 (.unOp .neg 0 (.global 71)) 1,
          op 73 (.fieldAddr 3 (.tmp 6) 1) 1,
          op 6 (.insert 1 (.tmp 6) (.global 73) (.global 72))])
        .skip))))))
  .skip))
(.seq (reg [op 74 (.lookup 5 (.tmp 6) (.tmp 6) false) 1,
  op 4 (.insert 4 (.tmp 4) (.tmp 4) (.global 74))])
.ret))))))), [(4, 1000005)]⟩

/-- spec.l03Segment -/
def fn460 : AFun := ⟨2,
(.seq (reg [op 3 (.makeChan 4 (.tmp 1)),
  op 4 (.move (.const (I 0)))])
(.seq (reg [op 9 (.lookup 5 (.tmp 3) (.tmp 3) false) 1,
  op 10 (call (.func 458) #[(.global 9)]) 1,
  op 8 (.move (.global 10)) 1,
  op 11 (.extract (.global 8) 0) 1,
  op 12 (.extract (.global 8) 1) 1,
  op 5 (.move (.const (.agg #[(I 0), (I 0)]))),
  op 5 (.insert 2 (.tmp 5) (.tmp 5) (.global 11)),
  op 6 (.move (.global 12))])
(.seq (reg [op 13 (.fieldAddr 0 (.tmp 5) 1) 1,
  op 14 (.lookup 0 (.tmp 5) (.global 13) false) 1,
  op 15 (.binOp .mul 0 (.global 14) (.const (I 2)) 0) 1,
  op 16 (.move (.tmp 0)) 1,
  op 17 (.nilCheck (.global 16)) 1,
  op 18 (.fieldAddr 1 (.global 17) 0) 1,
  op 19 (.load 0 (.global 18)) 1,
  op 20 (.binOp .mul 0 (.global 15) (.global 19) 0) 1,
  op 21 (.fieldAddr 1 (.tmp 5) 1) 1,
  op 22 (.lookup 0 (.tmp 5) (.global 21) false) 1,
  op 23 (.binOp .add 0 (.global 20) (.global 22) 0) 1,
  op 24 (.binOp .sub 0 (.global 23) (.const (I 1)) 0) 1,
  op 7 (.move (.global 24))])
(.seq (.seq (reg [op 25 (.move (.tmp 6)) 1,
  op 26 (.fieldAddr 1 (.tmp 5) 1) 1,
  op 27 (.lookup 0 (.tmp 5) (.global 26) false) 1,
  op 28 (.binOp .gtr 0 (.global 25) (.global 27) 0)])
(.cond (.tmp 28)
  (reg [op 29 (.move (.tmp 7)) 1,
    op 30 (.binOp .add 0 (.global 29) (.const (I 1)) 0) 1,
    op 7 (.move (.global 30))])
  .skip))
(.seq (reg [op 31 (.move (.tmp 7)) 1,
  op 4 (.move (.global 31))])
.ret))))), [(4, 0)]⟩

/-- spec.l03Next -/
def fn459 : AFun := ⟨1,
(.seq (reg [op 1 (.makeChan 4 (.tmp 0)),
  op 2 (.move (.const (.agg #[(I 0), (I 0)])))])
(.seq (reg [op 3 (.fieldAddr 0 (.tmp 1) 1) 1,
  op 4 (.fieldAddr 0 (.global 3) 1) 1,
  op 5 (.lookup 0 (.tmp 1) (.global 4) false) 1,
  op 6 (.fieldAddr 2 (.tmp 1) 1) 1,
  op 7 (.lookup 0 (.tmp 1) (.global 6) false) 1,
  op 8 (.binOp .add 0 (.global 5) (.global 7) 0) 1,
  op 9 (.fieldAddr 0 (.tmp 1) 1) 1,
  op 10 (.fieldAddr 1 (.global 9) 1) 1,
  op 11 (.lookup 0 (.tmp 1) (.global 10) false) 1,
  op 12 (.fieldAddr 3 (.tmp 1) 1) 1,
  op 13 (.lookup 0 (.tmp 1) (.global 12) false) 1,
  op 14 (.binOp .add 0 (.global 11) (.global 13) 0) 1,
  op 15 (.build 0 #[(0, (.const (.agg #[(I 0), (I 0)]))), (1, (.global 8)), (1001, (.global 14))]) 1,
  op 2 (.insert 2 (.tmp 2) (.tmp 2) (.global 15))])
.ret)), [(2, 1000003)]⟩

/-- spec.l02Edge -/
def fn446 : AFun := ⟨2,
(.seq (reg [op 3 (.makeChan 2 (.tmp 1)),
  op 4 (.move (.const (B false)))])
(.seq (reg [op 5 (.fieldAddr 0 (.tmp 3) 1) 1,
  op 6 (.lookup 0 (.tmp 3) (.global 5) false) 1,
  op 7 (.binOp .eql 0 (.global 6) (.const (I 0)) 0) 1,
  op 8 (.move (.global 7)) 1,
  op 9 (.fieldAddr 1 (.tmp 3) 1) 1 (some (33, false)),
  op 10 (.lookup 0 (.tmp 3) (.global 9) false) 1 (some (33, false)),
  op 11 (.binOp .eql 0 (.global 10) (.const (I 0)) 0) 1 (some (33, false)),
  op 12 (.pick (.global 8) (.const (B true)) (.global 11)) 1,
  op 13 (.move (.global 12)) 1,
  op 14 (.fieldAddr 0 (.tmp 3) 1) 1 (some (53, false)),
  op 15 (.lookup 0 (.tmp 3) (.global 14) false) 1 (some (53, false)),
  op 16 (.move (.tmp 0)) 1 (some (53, false)),
  op 17 (.nilCheck (.global 16)) 1 (some (53, false)),
  op 18 (.fieldAddr 0 (.global 17) 0) 1 (some (53, false)),
  op 19 (.load 0 (.global 18)) 1 (some (53, false)),
  op 20 (.binOp .mul 0 (.const (I 2)) (.global 19) 0) 1 (some (53, false)),
  op 21 (.binOp .eql 0 (.global 15) (.global 20) 0) 1 (some (53, false)),
  op 22 (.pick (.global 13) (.const (B true)) (.global 21)) 1,
  op 23 (.move (.global 22)) 1,
  op 24 (.fieldAddr 1 (.tmp 3) 1) 1 (some (93, false)),
  op 25 (.lookup 0 (.tmp 3) (.global 24) false) 1 (some (93, false)),
  op 26 (.move (.tmp 0)) 1 (some (93, false)),
  op 27 (.nilCheck (.global 26)) 1 (some (93, false)),
  op 28 (.fieldAddr 1 (.global 27) 0) 1 (some (93, false)),
  op 29 (.load 0 (.global 28)) 1 (some (93, false)),
  op 30 (.binOp .mul 0 (.const (I 2)) (.global 29) 0) 1 (some (93, false)),
  op 31 (.binOp .eql 0 (.global 25) (.global 30) 0) 1 (some (93, false)),
  op 32 (.pick (.global 23) (.const (B true)) (.global 31)) 1,
  op 4 (.move (.global 32))])
.ret)), [(4, 0)]⟩

/-- spec.l03Left -/
def fn458 : AFun := ⟨1,
(.seq (reg [op 1 (.makeChan 4 (.tmp 0)),
  op 2 (.move (.const (.agg #[(I 0), (I 0)]))),
  op 3 (.move (.const (I 0)))])
(.seq (reg [op 5 (.lookup 5 (.tmp 1) (.tmp 1) false) 1,
  op 6 (call (.func 459) #[(.global 5)]) 1,
  op 4 (.move (.const (.agg #[(I 0), (I 0)]))),
  op 4 (.insert 2 (.tmp 4) (.tmp 4) (.global 6))])
(.seq (.seq (reg [op 7 (.fieldAddr 2 (.tmp 1) 1) 1,
  op 8 (.lookup 0 (.tmp 1) (.global 7) false) 1,
  op 9 (.binOp .eql 0 (.global 8) (.const (I 1)) 0)])
(.cond (.tmp 9)
  (.seq (reg [op 10 (.fieldAddr 0 (.tmp 1) 1) 1,
    op 11 (.lookup 3 (.tmp 1) (.global 10) false) 1,
    op 12 (.fieldAddr 1 (.tmp 4) 1) 1,
    op 13 (.lookup 0 (.tmp 4) (.global 12) false) 1,
    op 2 (.insert 2 (.tmp 2) (.tmp 2) (.global 11)),
    op 3 (.move (.global 13))])
  .ret)
  .skip))
(.seq (reg [op 14 (.lookup 3 (.tmp 4) (.tmp 4) false) 1,
  op 15 (.fieldAddr 0 (.tmp 1) 1) 1,
  op 16 (.fieldAddr 1 (.global 15) 1) 1,
  op 17 (.lookup 0 (.tmp 1) (.global 16) false) 1,
  op 2 (.insert 2 (.tmp 2) (.tmp 2) (.global 14)),
  op 3 (.move (.global 17))])
.ret)))), [(2, 1000003), (3, 0)]⟩

def tab : Tab := [(253, fn253), (269, fn269), (420, fn420), (340, fn340), (359, fn359), (98, fn98), (391, fn391), (65, fn65), (334, fn334), (365, fn365), (114, fn114), (406, fn406), (364, fn364), (111, fn111), (403, fn403), (355, fn355), (92, fn92), (384, fn384), (271, fn271), (72, fn72), (443, fn443), (431, fn431), (140, fn140), (452, fn452), (198, fn198), (7, fn7), (457, fn457), (6, fn6), (456, fn456), (150, fn150), (154, fn154), (465, fn465), (196, fn196), (164, fn164), (555, fn555), (186, fn186), (552, fn552), (453, fn453), (432, fn432), (554, fn554), (548, fn548), (445, fn445), (33, fn33), (46, fn46), (549, fn549), (551, fn551), (177, fn177), (49, fn49), (40, fn40), (188, fn188), (450, fn450), (454, fn454), (451, fn451), (4, fn4), (166, fn166), (448, fn448), (5, fn5), (436, fn436), (308, fn308), (55, fn55), (463, fn463), (435, fn435), (455, fn455), (51, fn51), (56, fn56), (50, fn50), (54, fn54), (466, fn466), (462, fn462), (58, fn58), (34, fn34), (461, fn461), (460, fn460), (459, fn459), (446, fn446), (458, fn458)]
def Gam : Nat → Option AFun := look tab
theorem g253 : Gam 253 = some fn253 := rfl
theorem g269 : Gam 269 = some fn269 := rfl
theorem g420 : Gam 420 = some fn420 := rfl
theorem g340 : Gam 340 = some fn340 := rfl
theorem g359 : Gam 359 = some fn359 := rfl
theorem g98 : Gam 98 = some fn98 := rfl
theorem g391 : Gam 391 = some fn391 := rfl
theorem g65 : Gam 65 = some fn65 := rfl
theorem g334 : Gam 334 = some fn334 := rfl
theorem g365 : Gam 365 = some fn365 := rfl
theorem g114 : Gam 114 = some fn114 := rfl
theorem g406 : Gam 406 = some fn406 := rfl
theorem g364 : Gam 364 = some fn364 := rfl
theorem g111 : Gam 111 = some fn111 := rfl
theorem g403 : Gam 403 = some fn403 := rfl
theorem g355 : Gam 355 = some fn355 := rfl
theorem g92 : Gam 92 = some fn92 := rfl
theorem g384 : Gam 384 = some fn384 := rfl
theorem g271 : Gam 271 = some fn271 := rfl
theorem g72 : Gam 72 = some fn72 := rfl
theorem g443 : Gam 443 = some fn443 := rfl
theorem g431 : Gam 431 = some fn431 := rfl
theorem g140 : Gam 140 = some fn140 := rfl
theorem g452 : Gam 452 = some fn452 := rfl
theorem g198 : Gam 198 = some fn198 := rfl
theorem g7 : Gam 7 = some fn7 := rfl
theorem g457 : Gam 457 = some fn457 := rfl
theorem g6 : Gam 6 = some fn6 := rfl
theorem g456 : Gam 456 = some fn456 := rfl
theorem g150 : Gam 150 = some fn150 := rfl
theorem g154 : Gam 154 = some fn154 := rfl
theorem g465 : Gam 465 = some fn465 := rfl
theorem g196 : Gam 196 = some fn196 := rfl
theorem g164 : Gam 164 = some fn164 := rfl
theorem g555 : Gam 555 = some fn555 := rfl
theorem g186 : Gam 186 = some fn186 := rfl
theorem g552 : Gam 552 = some fn552 := rfl
theorem g453 : Gam 453 = some fn453 := rfl
theorem g432 : Gam 432 = some fn432 := rfl
theorem g554 : Gam 554 = some fn554 := rfl
theorem g548 : Gam 548 = some fn548 := rfl
theorem g445 : Gam 445 = some fn445 := rfl
theorem g33 : Gam 33 = some fn33 := rfl
theorem g46 : Gam 46 = some fn46 := rfl
theorem g549 : Gam 549 = some fn549 := rfl
theorem g551 : Gam 551 = some fn551 := rfl
theorem g177 : Gam 177 = some fn177 := rfl
theorem g49 : Gam 49 = some fn49 := rfl
theorem g40 : Gam 40 = some fn40 := rfl
theorem g188 : Gam 188 = some fn188 := rfl
theorem g450 : Gam 450 = some fn450 := rfl
theorem g454 : Gam 454 = some fn454 := rfl
theorem g451 : Gam 451 = some fn451 := rfl
theorem g4 : Gam 4 = some fn4 := rfl
theorem g166 : Gam 166 = some fn166 := rfl
theorem g448 : Gam 448 = some fn448 := rfl
theorem g5 : Gam 5 = some fn5 := rfl
theorem g436 : Gam 436 = some fn436 := rfl
theorem g308 : Gam 308 = some fn308 := rfl
theorem g55 : Gam 55 = some fn55 := rfl
theorem g463 : Gam 463 = some fn463 := rfl
theorem g435 : Gam 435 = some fn435 := rfl
theorem g455 : Gam 455 = some fn455 := rfl
theorem g51 : Gam 51 = some fn51 := rfl
theorem g56 : Gam 56 = some fn56 := rfl
theorem g50 : Gam 50 = some fn50 := rfl
theorem g54 : Gam 54 = some fn54 := rfl
theorem g466 : Gam 466 = some fn466 := rfl
theorem g462 : Gam 462 = some fn462 := rfl
theorem g58 : Gam 58 = some fn58 := rfl
theorem g34 : Gam 34 = some fn34 := rfl
theorem g461 : Gam 461 = some fn461 := rfl
theorem g460 : Gam 460 = some fn460 := rfl
theorem g459 : Gam 459 = some fn459 := rfl
theorem g446 : Gam 446 = some fn446 := rfl
theorem g458 : Gam 458 = some fn458 := rfl
end Am
