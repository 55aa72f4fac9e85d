/- The functions that are reached, in their normal form; written by a program. -/
import Derived.Test.YtaeaaogpdipjfaaAmRules
set_option linter.unusedVariables false
set_option maxRecDepth 100000
namespace Am
open Go
/-- laws.FnRows -/
def fn255 : AFun := ⟨1,
(.seq (reg [op 2 (.move (.const (B false)))])
(.seq (.seq (reg [op 39 (.move (.tmp 0)) 1,
  op 40 (call (.func 269) #[(.global 39)])])
(.cond (.tmp 40)
  (.seq (reg [op 2 (.move (.const (B true)))])
  .ret)
  .skip))
(.seq (reg [op 42 (.move (.tmp 0)) 1,
  op 43 (call (.func 372) #[(.global 42)]) 1,
  op 41 (.move (.global 43)) 1,
  op 44 (.extract (.global 41) 0) 1,
  op 45 (.extract (.global 41) 1) 1,
  op 3 (.move (.global 44)),
  op 4 (.move (.global 45))])
(.seq (reg [op 47 (.move (.tmp 3)) 1,
  op 48 (.move (.tmp 4)) 1,
  op 49 (call (.func 125) #[(.global 47), (.global 48)]) 1,
  op 46 (.move (.global 49)) 1,
  op 50 (.extract (.global 46) 0) 1,
  op 51 (.extract (.global 46) 1) 1,
  op 5 (.move (.global 50)),
  op 6 (.move (.global 51))])
(.seq (reg [op 53 (.move (.tmp 3)) 1,
  op 54 (.move (.tmp 4)) 1,
  op 55 (call (.func 416) #[(.global 53), (.global 54)]) 1,
  op 52 (.move (.global 55)) 1,
  op 56 (.extract (.global 52) 0) 1,
  op 57 (.extract (.global 52) 1) 1,
  op 7 (.move (.global 56)),
  op 8 (.move (.global 57))])
(.seq (reg [op 59 (.move (.tmp 0)) 1,
  op 60 (call (.func 351) #[(.global 59)]) 1,
  op 58 (.move (.global 60)) 1,
  op 61 (.extract (.global 58) 0) 1,
  op 62 (.extract (.global 58) 1) 1,
  op 9 (.move (.global 61)),
  op 10 (.move (.global 62))])
(.seq (reg [op 64 (.move (.tmp 9)) 1,
  op 65 (.move (.tmp 10)) 1,
  op 66 (call (.func 66) #[(.global 64), (.global 65)]) 1,
  op 63 (.move (.global 66)) 1,
  op 67 (.extract (.global 63) 0) 1,
  op 68 (.extract (.global 63) 1) 1,
  op 11 (.move (.global 67)),
  op 12 (.move (.global 68))])
(.seq (reg [op 70 (.move (.tmp 9)) 1,
  op 71 (.move (.tmp 10)) 1,
  op 72 (call (.func 335) #[(.global 70), (.global 71)]) 1,
  op 69 (.move (.global 72)) 1,
  op 73 (.extract (.global 69) 0) 1,
  op 74 (.extract (.global 69) 1) 1,
  op 13 (.move (.global 73)),
  op 14 (.move (.global 74))])
(.seq (reg [op 76 (.move (.tmp 0)) 1,
  op 77 (call (.func 366) #[(.global 76)]) 1,
  op 75 (.move (.global 77)) 1,
  op 78 (.extract (.global 75) 0) 1,
  op 79 (.extract (.global 75) 1) 1,
  op 15 (.move (.global 78)),
  op 16 (.move (.global 79))])
(.seq (reg [op 81 (.move (.tmp 15)) 1,
  op 82 (.move (.tmp 16)) 1,
  op 83 (call (.func 115) #[(.global 81), (.global 82)]) 1,
  op 80 (.move (.global 83)) 1,
  op 84 (.extract (.global 80) 0) 1,
  op 85 (.extract (.global 80) 1) 1,
  op 17 (.move (.global 84)),
  op 18 (.move (.global 85))])
(.seq (reg [op 87 (.move (.tmp 15)) 1,
  op 88 (.move (.tmp 16)) 1,
  op 89 (call (.func 407) #[(.global 87), (.global 88)]) 1,
  op 86 (.move (.global 89)) 1,
  op 90 (.extract (.global 86) 0) 1,
  op 91 (.extract (.global 86) 1) 1,
  op 19 (.move (.global 90)),
  op 20 (.move (.global 91))])
(.seq (reg [op 93 (.move (.tmp 0)) 1,
  op 94 (call (.func 367) #[(.global 93)]) 1,
  op 92 (.move (.global 94)) 1,
  op 95 (.extract (.global 92) 0) 1,
  op 96 (.extract (.global 92) 1) 1,
  op 21 (.move (.global 95)),
  op 22 (.move (.global 96))])
(.seq (reg [op 98 (.move (.tmp 21)) 1,
  op 99 (.move (.tmp 22)) 1,
  op 100 (call (.func 116) #[(.global 98), (.global 99)]) 1,
  op 97 (.move (.global 100)) 1,
  op 101 (.extract (.global 97) 0) 1,
  op 102 (.extract (.global 97) 1) 1,
  op 23 (.move (.global 101)),
  op 24 (.move (.global 102))])
(.seq (reg [op 104 (.move (.tmp 21)) 1,
  op 105 (.move (.tmp 22)) 1,
  op 106 (call (.func 408) #[(.global 104), (.global 105)]) 1,
  op 103 (.move (.global 106)) 1,
  op 107 (.extract (.global 103) 0) 1,
  op 108 (.extract (.global 103) 1) 1,
  op 25 (.move (.global 107)),
  op 26 (.move (.global 108))])
(.seq (reg [op 109 (.move (.tmp 0)) 1,
  op 110 (call (.func 376) #[(.global 109)]) 1,
  op 27 (.move (.global 110))])
(.seq (.seq (reg [op 111 (.move (.tmp 6)) 1,
  op 112 (.move (.tmp 8)) 1,
  op 113 (.binOp .neq 0 (.global 111) (.global 112) 0) 1,
  op 114 (.move (.global 113)) 1,
  op 115 (.move (.tmp 5)) 1 (some (457, false)),
  op 116 (.move (.tmp 7)) 1 (some (457, false)),
  op 117 (call (.func 272) #[(.global 115), (.global 116)]) 1 (some (457, false)),
  op 118 (.unOp .not 0 (.global 117)) 1 (some (457, false)),
  op 119 (.pick (.global 114) (.const (B true)) (.global 118)) 1,
  op 120 (.move (.global 119)) 1,
  op 121 (.move (.tmp 12)) 1 (some (481, false)),
  op 122 (.move (.tmp 14)) 1 (some (481, false)),
  op 123 (.binOp .neq 0 (.global 121) (.global 122) 0) 1 (some (481, false)),
  op 124 (.pick (.global 120) (.const (B true)) (.global 123)) 1,
  op 125 (.move (.global 124)) 1,
  op 126 (.move (.tmp 11)) 1 (some (501, false)),
  op 127 (.move (.tmp 13)) 1 (some (501, false)),
  op 128 (call (.func 272) #[(.global 126), (.global 127)]) 1 (some (501, false)),
  op 129 (.unOp .not 0 (.global 128)) 1 (some (501, false)),
  op 130 (.pick (.global 125) (.const (B true)) (.global 129)) 1,
  op 131 (.move (.global 130)) 1,
  op 132 (.move (.tmp 18)) 1 (some (525, false)),
  op 133 (.move (.tmp 20)) 1 (some (525, false)),
  op 134 (.binOp .neq 0 (.global 132) (.global 133) 0) 1 (some (525, false)),
  op 135 (.pick (.global 131) (.const (B true)) (.global 134)) 1,
  op 136 (.move (.global 135)) 1,
  op 137 (.move (.tmp 17)) 1 (some (545, false)),
  op 138 (.move (.tmp 19)) 1 (some (545, false)),
  op 139 (call (.func 271) #[(.global 137), (.global 138)]) 1 (some (545, false)),
  op 140 (.unOp .not 0 (.global 139)) 1 (some (545, false)),
  op 141 (.pick (.global 136) (.const (B true)) (.global 140)) 1,
  op 142 (.move (.global 141)) 1,
  op 143 (.move (.tmp 24)) 1 (some (569, false)),
  op 144 (.move (.tmp 26)) 1 (some (569, false)),
  op 145 (.binOp .neq 0 (.global 143) (.global 144) 0) 1 (some (569, false)),
  op 146 (.pick (.global 142) (.const (B true)) (.global 145)) 1,
  op 147 (.move (.global 146)) 1,
  op 148 (.move (.tmp 23)) 1 (some (589, false)),
  op 149 (.move (.tmp 25)) 1 (some (589, false)),
  op 150 (call (.func 274) #[(.global 148), (.global 149)]) 1 (some (589, false)),
  op 151 (.unOp .not 0 (.global 150)) 1 (some (589, false)),
  op 152 (.pick (.global 147) (.const (B true)) (.global 151)) 1,
  op 153 (.move (.global 152)) 1,
  op 154 (.move (.tmp 27)) 1 (some (613, false)),
  op 155 (call (.func 143) #[(.global 154)]) 1 (some (613, false)),
  op 156 (.move (.tmp 27)) 1 (some (613, false)),
  op 157 (call (.func 429) #[(.global 156)]) 1 (some (613, false)),
  op 158 (.binOp .neq 0 (.global 155) (.global 157) 0) 1 (some (613, false)),
  op 159 (.pick (.global 153) (.const (B true)) (.global 158))])
(.cond (.tmp 159)
  (.seq (reg [op 2 (.move (.const (B false)))])
  .ret)
  .skip))
(.seq (.seq (reg [op 160 (.move (.tmp 12)) 1,
  op 161 (.binOp .eql 0 (.global 160) (.const (I 0)) 0)])
(.cond (.tmp 161)
  (.seq (reg [op 28 (.move (.const (I 0)))])
  (.seq (.seq (reg [op 29 (.move (.const (I 0)))])
  (.block 0
    (.loop
      (.seq (.seq (reg [op 162 (.move (.tmp 29)) 1,
        op 163 (.move (.tmp 11)) 1,
        op 164 (bi .len #[(.global 163)] 1) 1,
        op 165 (.binOp .lss 0 (.global 162) (.global 164) 0)])
      (.cond (.tmp 165)
        .skip
        (.exit 0)))
      (.seq (.block 1
        (reg [op 168 (.move (.tmp 28)) 1,
          op 169 (.move (.tmp 11)) 1,
          op 170 (.move (.tmp 29)) 1,
          op 171 (.indexAddr 3 (.global 169) (.global 170)) 1,
          op 172 (.load 0 (.global 171)) 1,
          op 173 (bi .len #[(.global 172)] 1) 1,
          op 174 (.binOp .add 0 (.global 168) (.global 173) 0) 1,
          op 28 (.move (.global 174))]))
      (reg [op 166 (.move (.tmp 29)) 1,
        op 167 (.binOp .add 0 (.global 166) (.const (I 1)) 0) 1,
        op 29 (.move (.global 167))]))))))
  (.seq (reg [op 175 (.move (.tmp 28)) 1,
    op 176 (.move (.tmp 9)) 1,
    op 177 (.binOp .neq 0 (.global 175) (.global 176) 0)])
  (.cond (.tmp 177)
    (.seq (reg [op 2 (.move (.const (B false)))])
    .ret)
    .skip))))
  .skip))
(.seq (.seq (reg [op 178 (.move (.tmp 6)) 1,
  op 179 (.binOp .neq 0 (.global 178) (.const (I 0)) 0)])
(.cond (.tmp 179)
  (.seq (reg [op 2 (.move (.const (B true)))])
  .ret)
  .skip))
(.seq (reg [op 180 (.move (.const (sl 0 0 0 1))) 1,
  op 30 (.move (.global 180))])
(.seq (.seq (reg [op 31 (.move (.const (I 0)))])
(.block 2
  (.loop
    (.seq (.seq (reg [op 181 (.move (.tmp 31)) 1,
      op 182 (.move (.tmp 5)) 1,
      op 183 (bi .len #[(.global 182)] 1) 1,
      op 184 (.binOp .lss 0 (.global 181) (.global 183) 0)])
    (.cond (.tmp 184)
      .skip
      (.exit 2)))
    (.seq (.block 3
      (.seq (reg [op 187 (.move (.tmp 3)) 1,
        op 188 (.binOp .add 0 (.global 187) (.const (I 1)) 0) 1,
        op 189 (.mapUpdate 1 (.global 188) (.global 188) (.const (.agg #[(B false)]))) 1,
        op 32 (.move (.global 189))])
      (.seq (reg [op 33 (.move (.const (I 0)))])
      (.block 4
        (.loop
          (.seq (.seq (reg [op 190 (.move (.tmp 33)) 1,
            op 191 (.move (.tmp 5)) 1,
            op 192 (.move (.tmp 31)) 1,
            op 193 (.indexAddr 3 (.global 191) (.global 192)) 1,
            op 194 (.load 0 (.global 193)) 1,
            op 195 (bi .len #[(.global 194)] 1) 1,
            op 196 (.binOp .lss 0 (.global 190) (.global 195) 0)])
          (.cond (.tmp 196)
            .skip
            (.exit 4)))
          (.seq (.block 5
            (.seq (reg [op 199 (.move (.tmp 7)) 1,
              op 200 (.move (.tmp 31)) 1,
              op 201 (.indexAddr 3 (.global 199) (.global 200)) 1,
              op 202 (.load 0 (.global 201)) 1,
              op 203 (.move (.tmp 33)) 1,
              op 204 (.indexAddr 3 (.global 202) (.global 203)) 1,
              op 205 (.load 0 (.global 204)) 1,
              op 34 (.move (.global 205))])
            (.seq (.seq (reg [op 206 (.move (.tmp 34)) 1,
              op 207 (.binOp .lss 0 (.global 206) (.const (I 0)) 0)])
            (.cond (.tmp 207)
              (reg [op 208 (.move (.tmp 34)) 1,
                op 209 (.unOp .neg 0 (.global 208)) 1,
                op 34 (.move (.global 209))])
              .skip))
            (.seq (.seq (reg [op 210 (.move (.tmp 32)) 1,
              op 211 (.move (.tmp 34)) 1,
              op 212 (.binOp .sub 0 (.global 211) (.const (I 1)) 0) 1,
              op 213 (.indexAddr 3 (.global 210) (.global 212)) 1,
              op 214 (.load 0 (.global 213)) 1,
              op 215 (.move (.global 214)) 1,
              op 216 (.move (.tmp 32)) 1 (some (861, false)),
              op 217 (.move (.tmp 34)) 1 (some (861, false)),
              op 218 (.indexAddr 3 (.global 216) (.global 217)) 1 (some (861, false)),
              op 219 (.load 0 (.global 218)) 1 (some (861, false)),
              op 220 (.pick (.global 215) (.const (B true)) (.global 219))])
            (.cond (.tmp 220)
              (.seq (reg [op 2 (.move (.const (B false)))])
              .ret)
              .skip))
            (.seq (reg [op 221 (.move (.tmp 32)) 1,
              op 222 (.move (.tmp 34)) 1,
              op 223 (.binOp .sub 0 (.global 222) (.const (I 1)) 0) 1,
              op 224 (.indexAddr 3 (.global 221) (.global 223)) 1,
              opn (.store 1 (.global 224) (.const (B true)))])
            (.seq (reg [op 225 (.move (.tmp 32)) 1,
              op 226 (.move (.tmp 34)) 1,
              op 227 (.indexAddr 3 (.global 225) (.global 226)) 1,
              opn (.store 1 (.global 227) (.const (B true)))])
            (reg [op 228 (.move (.tmp 30)) 1,
              op 229 (.move (.tmp 7)) 1,
              op 230 (.move (.tmp 31)) 1,
              op 231 (.indexAddr 3 (.global 229) (.global 230)) 1,
              op 232 (.load 0 (.global 231)) 1,
              op 233 (.move (.tmp 33)) 1,
              op 234 (.indexAddr 3 (.global 232) (.global 233)) 1,
              op 235 (.load 0 (.global 234)) 1,
              op 236 (.buildSlice 1 1 #[(0, (.const (.agg #[(I 0)]))), (1, (.global 235))]) 1,
              op 237 (bi .append #[(.global 228), (.global 236)] 1) 1,
              op 30 (.move (.global 237))])))))))
          (reg [op 197 (.move (.tmp 33)) 1,
            op 198 (.binOp .add 0 (.global 197) (.const (I 1)) 0) 1,
            op 33 (.move (.global 198))]))))))))
    (reg [op 185 (.move (.tmp 31)) 1,
      op 186 (.binOp .add 0 (.global 185) (.const (I 1)) 0) 1,
      op 31 (.move (.global 186))]))))))
(.seq (reg [op 239 (.move (.tmp 3)) 1,
  op 240 (.move (.tmp 4)) 1,
  op 241 (call (.func 104) #[(.global 239), (.global 240)]) 1,
  op 238 (.move (.global 241)) 1,
  op 242 (.extract (.global 238) 0) 1,
  op 243 (.extract (.global 238) 1) 1,
  op 35 (.move (.global 242)),
  op 36 (.move (.global 243))])
(.seq (reg [op 245 (.move (.tmp 3)) 1,
  op 246 (.move (.tmp 30)) 1,
  op 247 (call (.func 104) #[(.global 245), (.global 246)]) 1,
  op 244 (.move (.global 247)) 1,
  op 248 (.extract (.global 244) 0) 1,
  op 249 (.extract (.global 244) 1) 1,
  op 37 (.move (.global 248)),
  op 38 (.move (.global 249))])
(.seq (reg [op 250 (.move (.tmp 36)) 1,
  op 251 (.binOp .eql 0 (.global 250) (.const (I 0)) 0) 1,
  op 252 (.move (.global 251)) 1,
  op 253 (.move (.tmp 38)) 1 (some (1009, true)),
  op 254 (.binOp .eql 0 (.global 253) (.const (I 0)) 0) 1 (some (1009, true)),
  op 255 (.pick (.global 252) (.global 254) (.const (B false))) 1,
  op 256 (.move (.global 255)) 1,
  op 257 (.move (.tmp 35)) 1 (some (1025, true)),
  op 258 (.move (.tmp 37)) 1 (some (1025, true)),
  op 259 (call (.func 271) #[(.global 257), (.global 258)]) 1 (some (1025, true)),
  op 260 (.pick (.global 256) (.global 259) (.const (B false))) 1,
  op 261 (.move (.global 260)) 1,
  op 262 (.move (.tmp 30)) 1 (some (1045, true)),
  op 263 (bi .len #[(.global 262)] 1) 1 (some (1045, true)),
  op 264 (.move (.tmp 4)) 1 (some (1045, true)),
  op 265 (bi .len #[(.global 264)] 1) 1 (some (1045, true)),
  op 266 (.binOp .eql 0 (.global 263) (.global 265) 0) 1 (some (1045, true)),
  op 267 (.pick (.global 261) (.global 266) (.const (B false))) 1,
  op 2 (.move (.global 267))])
.ret))))))))))))))))))))))), [(2, 0)]⟩

/-- laws.f6big -/
def fn269 : AFun := ⟨1,
(.seq (reg [op 2 (.move (.const (B false)))])
(.seq (reg [op 3 (.move (.tmp 0)) 1,
  op 4 (bi .len #[(.global 3)] 1) 1,
  op 5 (.binOp .gtr 0 (.global 4) (.const (I 4096)) 0) 1,
  op 2 (.move (.global 5))])
.ret)), [(2, 0)]⟩

/-- laws.f6ints -/
def fn271 : AFun := ⟨2,
(.seq (reg [op 4 (.move (.const (B false)))])
(.seq (.seq (reg [op 6 (.move (.tmp 0)) 1,
  op 7 (bi .len #[(.global 6)] 1) 1,
  op 8 (.move (.tmp 1)) 1,
  op 9 (bi .len #[(.global 8)] 1) 1,
  op 10 (.binOp .neq 0 (.global 7) (.global 9) 0)])
(.cond (.tmp 10)
  (.seq (reg [op 4 (.move (.const (B false)))])
  .ret)
  .skip))
(.seq (.seq (reg [op 5 (.move (.const (I 0)))])
(.block 0
  (.loop
    (.seq (.seq (reg [op 11 (.move (.tmp 5)) 1,
      op 12 (.move (.tmp 0)) 1,
      op 13 (bi .len #[(.global 12)] 1) 1,
      op 14 (.binOp .lss 0 (.global 11) (.global 13) 0)])
    (.cond (.tmp 14)
      .skip
      (.exit 0)))
    (.seq (.block 1
      (.seq (reg [op 17 (.move (.tmp 0)) 1,
        op 18 (.move (.tmp 5)) 1,
        op 19 (.indexAddr 3 (.global 17) (.global 18)) 1,
        op 20 (.load 0 (.global 19)) 1,
        op 21 (.move (.tmp 1)) 1,
        op 22 (.move (.tmp 5)) 1,
        op 23 (.indexAddr 3 (.global 21) (.global 22)) 1,
        op 24 (.load 0 (.global 23)) 1,
        op 25 (.binOp .neq 0 (.global 20) (.global 24) 0)])
      (.cond (.tmp 25)
        (.seq (reg [op 4 (.move (.const (B false)))])
        .ret)
        .skip)))
    (reg [op 15 (.move (.tmp 5)) 1,
      op 16 (.binOp .add 0 (.global 15) (.const (I 1)) 0) 1,
      op 5 (.move (.global 16))]))))))
(.seq (reg [op 4 (.move (.const (B true)))])
.ret)))), [(4, 0)]⟩

/-- spec.DrawRowsOf -/
def fn372 : AFun := ⟨1,
(.seq (reg [op 2 (.move (.const (I 0))),
  op 3 (.move (.const (sl 0 0 0 0)))])
(.seq (reg [op 4 (.move (.tmp 0)) 1,
  op 5 (call (.func 528) #[(.global 4)]) 1,
  op 6 (.extract (.global 5) 0) 1,
  op 7 (.extract (.global 5) 1) 1,
  op 2 (.move (.global 6)),
  op 3 (.move (.global 7))])
.ret)), [(2, 0), (3, 0)]⟩

/-- impl.RowsOf -/
def fn125 : AFun := ⟨2,
(.seq (reg [op 4 (.move (.const (sl 0 0 0 0))),
  op 5 (.move (.const (I 0)))])
(.seq (.seq (reg [op 12 (.move (.tmp 0)) 1,
  op 13 (.move (.tmp 1)) 1,
  op 14 (call (.func 142) #[(.global 12), (.global 13)]) 1,
  op 15 (.unOp .not 0 (.global 14))])
(.cond (.tmp 15)
  (.seq (reg [op 4 (.move (.const (sl 0 0 0 0))),
    op 5 (.move (.const (I 1)))])
  .ret)
  .skip))
(.seq (reg [op 16 (.move (.const (sl 0 0 0 1))) 1,
  op 17 (.move (.tmp 0)) 1,
  op 18 (.mapUpdate 1 (.global 17) (.global 17) (.const (.agg #[(I 0)]))) 1,
  op 6 (.move (.global 16)),
  op 7 (.move (.global 18))])
(.seq (.seq (reg [op 19 (.move (.tmp 1)),
  op 20 (bi .len #[(.tmp 19)] 1),
  op 21 (.move (.const (I 0)))])
(.block 0
  (.loop
    (.seq (reg [op 22 (.binOp .lss 0 (.tmp 21) (.tmp 20) 0)])
    (.seq (.cond (.tmp 22)
      .skip
      (.exit 0))
    (.seq (.block 1
      (.seq (reg [op 23 (.indexAddr 3 (.tmp 19) (.tmp 21)) 1,
        op 24 (.load 0 (.global 23)) 1,
        op 9 (.move (.global 24))])
      (.seq (reg [op 25 (.move (.tmp 9)) 1,
        op 26 (call (.func 185) #[(.global 25)]) 1,
        op 10 (.move (.global 26))])
      (.seq (reg [op 27 (.move (.tmp 7)) 1,
        op 28 (.move (.tmp 10)) 1,
        op 29 (.binOp .sub 0 (.global 28) (.const (I 1)) 0) 1,
        op 30 (.indexAddr 3 (.global 27) (.global 29)) 1,
        op 31 (.load 0 (.global 30)) 1,
        op 32 (.move (.tmp 7)) 1,
        op 33 (.move (.tmp 10)) 1,
        op 34 (.indexAddr 3 (.global 32) (.global 33)) 1,
        op 35 (.load 0 (.global 34)) 1,
        op 36 (bi .max #[(.global 31), (.global 35)] 0) 1,
        op 11 (.move (.global 36))])
      (.seq (.seq (reg [op 37 (.move (.tmp 11)) 1,
        op 38 (.move (.tmp 6)) 1,
        op 39 (bi .len #[(.global 38)] 1) 1,
        op 40 (.binOp .eql 0 (.global 37) (.global 39) 0)])
      (.cond (.tmp 40)
        (reg [op 41 (.move (.tmp 6)) 1,
          op 42 (.buildSlice 1 1 #[(0, (.const (.agg #[(sl 0 0 0 0)]))), (1, (.const (sl 0 0 0 0)))]) 1,
          op 43 (bi .append #[(.global 41), (.global 42)] 1) 1,
          op 6 (.move (.global 43))])
        .skip))
      (.seq (reg [op 44 (.move (.tmp 6)) 1,
        op 45 (.move (.tmp 11)) 1,
        op 46 (.move (.tmp 6)) 1,
        op 47 (.move (.tmp 11)) 1,
        op 48 (.indexAddr 3 (.global 46) (.global 47)) 1,
        op 49 (.load 0 (.global 48)) 1,
        op 50 (.move (.tmp 9)) 1,
        op 51 (.buildSlice 1 1 #[(0, (.const (.agg #[(I 0)]))), (1, (.global 50))]) 1,
        op 52 (bi .append #[(.global 49), (.global 51)] 1) 1,
        op 53 (.indexAddr 3 (.global 44) (.global 45)) 1,
        opn (.store 1 (.global 53) (.global 52))])
      (reg [op 54 (.move (.tmp 7)) 1,
        op 55 (.move (.tmp 10)) 1,
        op 56 (.binOp .sub 0 (.global 55) (.const (I 1)) 0) 1,
        op 57 (.move (.tmp 7)) 1,
        op 58 (.move (.tmp 10)) 1,
        op 59 (.move (.tmp 11)) 1,
        op 60 (.binOp .add 0 (.global 59) (.const (I 1)) 0) 1,
        op 61 (.move (.tmp 11)) 1,
        op 62 (.binOp .add 0 (.global 61) (.const (I 1)) 0) 1,
        op 63 (.indexAddr 3 (.global 54) (.global 56)) 1,
        opn (.store 1 (.global 63) (.global 60)),
        op 64 (.indexAddr 3 (.global 57) (.global 58)) 1,
        opn (.store 1 (.global 64) (.global 62))])))))))
    (reg [op 65 (.binOp .add 0 (.tmp 21) (.const (I 1)) 0) 1,
      op 21 (.move (.global 65))])))))))
(.seq (reg [op 66 (.move (.tmp 6)) 1,
  op 4 (.move (.global 66)),
  op 5 (.move (.const (I 0)))])
.ret))))), [(4, 0), (5, 0)]⟩

/-- spec.RowsOf -/
def fn416 : AFun := ⟨2,
(.seq (reg [op 4 (.move (.const (sl 0 0 0 0))),
  op 5 (.move (.const (I 0)))])
(.seq (.seq (reg [op 11 (.move (.tmp 0)) 1,
  op 12 (.move (.tmp 1)) 1,
  op 13 (call (.func 531) #[(.global 11), (.global 12)]) 1,
  op 14 (.unOp .not 0 (.global 13))])
(.cond (.tmp 14)
  (.seq (reg [op 4 (.move (.const (sl 0 0 0 0))),
    op 5 (.move (.const (I 1)))])
  .ret)
  .skip))
(.seq (reg [op 15 (.move (.tmp 0)) 1,
  op 16 (.mapUpdate 1 (.global 15) (.global 15) (.const (.agg #[(I 0)]))) 1,
  op 6 (.move (.global 16))])
(.seq (reg [op 17 (.move (.const (sl 0 0 0 1))) 1,
  op 7 (.move (.global 17))])
(.seq (.seq (reg [op 8 (.move (.const (I 0)))])
(.block 0
  (.loop
    (.seq (.seq (reg [op 18 (.move (.tmp 8)) 1,
      op 19 (.move (.tmp 1)) 1,
      op 20 (bi .len #[(.global 19)] 1) 1,
      op 21 (.binOp .lss 0 (.global 18) (.global 20) 0)])
    (.cond (.tmp 21)
      .skip
      (.exit 0)))
    (.seq (.block 1
      (.seq (reg [op 24 (.move (.tmp 1)) 1,
        op 25 (.move (.tmp 8)) 1,
        op 26 (.indexAddr 3 (.global 24) (.global 25)) 1,
        op 27 (.load 0 (.global 26)) 1,
        op 28 (call (.func 512) #[(.global 27)]) 1,
        op 9 (.move (.global 28))])
      (.seq (reg [op 29 (.move (.tmp 6)) 1,
        op 30 (.move (.tmp 9)) 1,
        op 31 (.binOp .sub 0 (.global 30) (.const (I 1)) 0) 1,
        op 32 (.indexAddr 3 (.global 29) (.global 31)) 1,
        op 33 (.load 0 (.global 32)) 1,
        op 34 (.move (.tmp 6)) 1,
        op 35 (.move (.tmp 9)) 1,
        op 36 (.indexAddr 3 (.global 34) (.global 35)) 1,
        op 37 (.load 0 (.global 36)) 1,
        op 38 (call (.func 433) #[(.global 33), (.global 37)]) 1,
        op 10 (.move (.global 38))])
      (.seq (reg [op 39 (.move (.tmp 6)) 1,
        op 40 (.move (.tmp 9)) 1,
        op 41 (.binOp .sub 0 (.global 40) (.const (I 1)) 0) 1,
        op 42 (.move (.tmp 10)) 1,
        op 43 (.binOp .add 0 (.global 42) (.const (I 1)) 0) 1,
        op 44 (.indexAddr 3 (.global 39) (.global 41)) 1,
        opn (.store 1 (.global 44) (.global 43))])
      (.seq (reg [op 45 (.move (.tmp 6)) 1,
        op 46 (.move (.tmp 9)) 1,
        op 47 (.move (.tmp 10)) 1,
        op 48 (.binOp .add 0 (.global 47) (.const (I 1)) 0) 1,
        op 49 (.indexAddr 3 (.global 45) (.global 46)) 1,
        opn (.store 1 (.global 49) (.global 48))])
      (.seq (.seq (reg [op 50 (.move (.tmp 10)) 1,
        op 51 (.move (.tmp 7)) 1,
        op 52 (bi .len #[(.global 51)] 1) 1,
        op 53 (.binOp .eql 0 (.global 50) (.global 52) 0)])
      (.cond (.tmp 53)
        (reg [op 54 (.move (.tmp 7)) 1,
          op 55 (.move (.const (sl 0 0 0 1))) 1,
          op 56 (.buildSlice 1 1 #[(0, (.const (.agg #[(sl 0 0 0 0)]))), (1, (.global 55))]) 1,
          op 57 (bi .append #[(.global 54), (.global 56)] 1) 1,
          op 7 (.move (.global 57))])
        .skip))
      (reg [op 58 (.move (.tmp 7)) 1,
        op 59 (.move (.tmp 10)) 1,
        op 60 (.move (.tmp 7)) 1,
        op 61 (.move (.tmp 10)) 1,
        op 62 (.indexAddr 3 (.global 60) (.global 61)) 1,
        op 63 (.load 0 (.global 62)) 1,
        op 64 (.move (.tmp 1)) 1,
        op 65 (.move (.tmp 8)) 1,
        op 66 (.indexAddr 3 (.global 64) (.global 65)) 1,
        op 67 (.load 0 (.global 66)) 1,
        op 68 (.buildSlice 1 1 #[(0, (.const (.agg #[(I 0)]))), (1, (.global 67))]) 1,
        op 69 (bi .append #[(.global 63), (.global 68)] 1) 1,
        op 70 (.indexAddr 3 (.global 58) (.global 59)) 1,
        opn (.store 1 (.global 70) (.global 69))])))))))
    (reg [op 22 (.move (.tmp 8)) 1,
      op 23 (.binOp .add 0 (.global 22) (.const (I 1)) 0) 1,
      op 8 (.move (.global 23))]))))))
(.seq (reg [op 71 (.move (.tmp 7)) 1,
  op 4 (.move (.global 71)),
  op 5 (.move (.const (I 0)))])
.ret)))))), [(4, 0), (5, 0)]⟩

/-- spec.DrawClosedStrands -/
def fn351 : AFun := ⟨1,
(.seq (reg [op 2 (.move (.const (I 0))),
  op 3 (.move (.const (sl 0 0 0 0)))])
(.seq (reg [op 4 (.move (.tmp 0)) 1,
  op 5 (call (.func 528) #[(.global 4)]) 1,
  op 6 (.extract (.global 5) 0) 1,
  op 7 (.extract (.global 5) 1) 1,
  op 2 (.move (.global 6)),
  op 3 (.move (.global 7))])
.ret)), [(2, 0), (3, 0)]⟩

/-- impl.ClosedStrands -/
def fn66 : AFun := ⟨2,
(.seq (reg [op 4 (.move (.const (sl 0 0 0 0))),
  op 5 (.move (.const (I 0)))])
(.seq (reg [op 14 (.move (.tmp 0)) 1,
  op 15 (.move (.tmp 1)) 1,
  op 16 (call (.func 104) #[(.global 14), (.global 15)]) 1,
  op 13 (.move (.global 16)) 1,
  op 17 (.extract (.global 13) 0) 1,
  op 18 (.extract (.global 13) 1) 1,
  op 6 (.move (.global 17)),
  op 7 (.move (.global 18))])
(.seq (.seq (reg [op 19 (.move (.tmp 7)) 1,
  op 20 (.binOp .neq 0 (.global 19) (.const (I 0)) 0)])
(.cond (.tmp 20)
  (.seq (reg [op 21 (.move (.tmp 7)) 1,
    op 4 (.move (.const (sl 0 0 0 0))),
    op 5 (.move (.global 21))])
  .ret)
  .skip))
(.seq (reg [op 22 (.move (.const (sl 0 0 0 1))) 1,
  op 23 (.move (.tmp 0)) 1,
  op 24 (.mapUpdate 1 (.global 23) (.global 23) (.const (.agg #[(B false)]))) 1,
  op 8 (.move (.global 22)),
  op 9 (.move (.global 24))])
(.seq (.seq (reg [op 25 (.move (.tmp 0)),
  op 26 (.move (.const (I 0)))])
(.block 0
  (.loop
    (.seq (reg [op 27 (.binOp .lss 0 (.tmp 26) (.tmp 25) 0)])
    (.seq (.cond (.tmp 27)
      .skip
      (.exit 0))
    (.seq (.block 1
      (.seq (reg [op 28 (.move (.tmp 26)) 1,
        op 10 (.move (.global 28))])
      (.seq (.seq (reg [op 29 (.move (.tmp 9)) 1,
        op 30 (.move (.tmp 10)) 1,
        op 31 (.indexAddr 3 (.global 29) (.global 30)) 1,
        op 32 (.load 0 (.global 31))])
      (.cond (.tmp 32)
        (.exit 1)
        .skip))
      (.seq (reg [op 33 (.move (.const (sl 0 0 0 1))) 1,
        op 11 (.move (.global 33))])
      (.seq (.seq (reg [op 34 (.move (.tmp 10)) 1,
        op 12 (.move (.global 34))])
      (.block 2
        (.loop
          (.seq (.seq (reg [op 35 (.move (.tmp 9)) 1,
            op 36 (.move (.tmp 12)) 1,
            op 37 (.indexAddr 3 (.global 35) (.global 36)) 1,
            op 38 (.load 0 (.global 37)) 1,
            op 39 (.unOp .not 0 (.global 38))])
          (.cond (.tmp 39)
            .skip
            (.exit 2)))
          (.seq (.block 3
            (.seq (reg [op 43 (.move (.tmp 9)) 1,
              op 44 (.move (.tmp 12)) 1,
              op 45 (.indexAddr 3 (.global 43) (.global 44)) 1,
              opn (.store 1 (.global 45) (.const (B true)))])
            (reg [op 46 (.move (.tmp 11)) 1,
              op 47 (.move (.tmp 12)) 1,
              op 48 (.buildSlice 1 1 #[(0, (.const (.agg #[(I 0)]))), (1, (.global 47))]) 1,
              op 49 (bi .append #[(.global 46), (.global 48)] 1) 1,
              op 11 (.move (.global 49))])))
          (reg [op 40 (.move (.tmp 6)) 1,
            op 41 (.move (.tmp 12)) 1,
            op 42 (call (.func 316) #[(.global 40), (.global 41)]) 1,
            op 12 (.move (.global 42))]))))))
      (reg [op 50 (.move (.tmp 8)) 1,
        op 51 (.move (.tmp 11)) 1,
        op 52 (.buildSlice 1 1 #[(0, (.const (.agg #[(sl 0 0 0 0)]))), (1, (.global 51))]) 1,
        op 53 (bi .append #[(.global 50), (.global 52)] 1) 1,
        op 8 (.move (.global 53))]))))))
    (reg [op 54 (.binOp .add 0 (.tmp 26) (.const (I 1)) 0) 1,
      op 26 (.move (.global 54))])))))))
(.seq (reg [op 55 (.move (.tmp 8)) 1,
  op 4 (.move (.global 55)),
  op 5 (.move (.const (I 0)))])
.ret)))))), [(4, 0), (5, 0)]⟩

/-- spec.ClosedStrands -/
def fn335 : AFun := ⟨2,
(.seq (reg [op 4 (.move (.const (sl 0 0 0 0))),
  op 5 (.move (.const (I 0)))])
(.seq (.seq (reg [op 12 (.move (.tmp 0)) 1,
  op 13 (.move (.tmp 1)) 1,
  op 14 (call (.func 531) #[(.global 12), (.global 13)]) 1,
  op 15 (.unOp .not 0 (.global 14))])
(.cond (.tmp 15)
  (.seq (reg [op 4 (.move (.const (sl 0 0 0 0))),
    op 5 (.move (.const (I 1)))])
  .ret)
  .skip))
(.seq (reg [op 16 (.move (.tmp 0)) 1,
  op 17 (.move (.tmp 1)) 1,
  op 18 (call (.func 532) #[(.global 16), (.global 17)]) 1,
  op 6 (.move (.global 18))])
(.seq (reg [op 19 (.move (.tmp 0)) 1,
  op 20 (.mapUpdate 1 (.global 19) (.global 19) (.const (.agg #[(B false)]))) 1,
  op 7 (.move (.global 20))])
(.seq (reg [op 21 (.move (.const (sl 0 0 0 1))) 1,
  op 8 (.move (.global 21))])
(.seq (.seq (reg [op 9 (.move (.const (I 0)))])
(.block 0
  (.loop
    (.seq (.seq (reg [op 22 (.move (.tmp 9)) 1,
      op 23 (.move (.tmp 0)) 1,
      op 24 (.binOp .lss 0 (.global 22) (.global 23) 0)])
    (.cond (.tmp 24)
      .skip
      (.exit 0)))
    (.seq (.block 1
      (.seq (reg [op 27 (.move (.const (sl 0 0 0 1))) 1,
        op 10 (.move (.global 27))])
      (.seq (.seq (reg [op 28 (.move (.tmp 9)) 1,
        op 11 (.move (.global 28))])
      (.block 2
        (.loop
          (.seq (.seq (reg [op 29 (.move (.tmp 7)) 1,
            op 30 (.move (.tmp 11)) 1,
            op 31 (.indexAddr 3 (.global 29) (.global 30)) 1,
            op 32 (.load 0 (.global 31)) 1,
            op 33 (.unOp .not 0 (.global 32))])
          (.cond (.tmp 33)
            .skip
            (.exit 2)))
          (.seq (.block 3
            (.seq (reg [op 37 (.move (.tmp 7)) 1,
              op 38 (.move (.tmp 11)) 1,
              op 39 (.indexAddr 3 (.global 37) (.global 38)) 1,
              opn (.store 1 (.global 39) (.const (B true)))])
            (reg [op 40 (.move (.tmp 10)) 1,
              op 41 (.move (.tmp 11)) 1,
              op 42 (.buildSlice 1 1 #[(0, (.const (.agg #[(I 0)]))), (1, (.global 41))]) 1,
              op 43 (bi .append #[(.global 40), (.global 42)] 1) 1,
              op 10 (.move (.global 43))])))
          (reg [op 34 (.move (.tmp 6)) 1,
            op 35 (.move (.tmp 11)) 1,
            op 36 (call (.func 533) #[(.global 34), (.global 35)]) 1,
            op 11 (.move (.global 36))]))))))
      (.seq (reg [op 44 (.move (.tmp 10)) 1,
        op 45 (bi .len #[(.global 44)] 1) 1,
        op 46 (.binOp .gtr 0 (.global 45) (.const (I 0)) 0)])
      (.cond (.tmp 46)
        (reg [op 47 (.move (.tmp 8)) 1,
          op 48 (.move (.tmp 10)) 1,
          op 49 (.buildSlice 1 1 #[(0, (.const (.agg #[(sl 0 0 0 0)]))), (1, (.global 48))]) 1,
          op 50 (bi .append #[(.global 47), (.global 49)] 1) 1,
          op 8 (.move (.global 50))])
        .skip)))))
    (reg [op 25 (.move (.tmp 9)) 1,
      op 26 (.binOp .add 0 (.global 25) (.const (I 1)) 0) 1,
      op 9 (.move (.global 26))]))))))
(.seq (reg [op 51 (.move (.tmp 8)) 1,
  op 4 (.move (.global 51)),
  op 5 (.move (.const (I 0)))])
.ret))))))), [(4, 0), (5, 0)]⟩

/-- spec.DrawPlainPlait -/
def fn366 : AFun := ⟨1,
(.seq (reg [op 2 (.move (.const (I 0))),
  op 3 (.move (.const (I 0)))])
(.seq (reg [op 6 (.move (.tmp 0)) 1,
  op 7 (call (.func 431) #[(.global 6)]) 1,
  op 4 (.move (.global 7))])
(.seq (.seq (reg [op 8 (.move (.tmp 4)) 1,
  op 9 (call (.func 6) #[(.global 8), (.const (I 10))])])
(.cond (.tmp 9)
  (.seq (reg [op 10 (.move (.tmp 4)) 1,
    op 11 (.buildSlice 1 4 #[(0, (.const (.agg #[(I 0), (I 0), (I 0), (I 0)]))), (1, (.const (I 1))), (1001, (.const (I 2))), (2001, (.const (I 12))), (3001, (.const (I 13)))]) 1,
    op 12 (call (.func 4) #[(.global 10), (.global 11)]) 1,
    op 13 (.move (.tmp 4)) 1,
    op 14 (.buildSlice 1 5 #[(0, (.const (.agg #[(I 0), (I 0), (I 0), (I 0), (I 0)]))), (1, (.const (I (-1)))), (1001, (.const (I 0))), (2001, (.const (I 40))), (3001, (.const (I 200))), (4001, (.const (I 201)))]) 1,
    op 15 (call (.func 4) #[(.global 13), (.global 14)]) 1,
    op 2 (.move (.global 12)),
    op 3 (.move (.global 15))])
  .ret)
  .skip))
(.seq (reg [op 16 (.move (.tmp 4)) 1,
  op 17 (call (.func 7) #[(.global 16), (.const (I 7))]) 1,
  op 18 (.binOp .add 0 (.const (I 2)) (.global 17) 0) 1,
  op 5 (.move (.global 18))])
(.seq (reg [op 19 (.move (.tmp 5)) 1,
  op 20 (.move (.tmp 4)) 1,
  op 21 (call (.func 7) #[(.global 20), (.const (I 12))]) 1,
  op 2 (.move (.global 19)),
  op 3 (.move (.global 21))])
.ret))))), [(2, 0), (3, 0)]⟩

/-- impl.PlainPlait -/
def fn115 : AFun := ⟨2,
(.seq (reg [op 4 (.move (.const (sl 0 0 0 0))),
  op 5 (.move (.const (I 0)))])
(.seq (.seq (reg [op 9 (.move (.tmp 0)) 1,
  op 10 (call (.func 164) #[(.global 9), (.const (I 2)), (.const (I 12))]) 1,
  op 11 (.unOp .not 0 (.global 10)) 1,
  op 12 (.move (.global 11)) 1,
  op 13 (.move (.tmp 1)) 1 (some (49, false)),
  op 14 (call (.func 164) #[(.global 13), (.const (I 0)), (.const (I 200))]) 1 (some (49, false)),
  op 15 (.unOp .not 0 (.global 14)) 1 (some (49, false)),
  op 16 (.pick (.global 12) (.const (B true)) (.global 15))])
(.cond (.tmp 16)
  (.seq (reg [op 4 (.move (.const (sl 0 0 0 0))),
    op 5 (.move (.const (I 2)))])
  .ret)
  .skip))
(.seq (reg [op 17 (.move (.const (sl 0 0 0 1))) 1,
  op 6 (.move (.global 17))])
(.seq (.seq (reg [op 18 (.move (.tmp 1)),
  op 19 (.move (.const (I 0)))])
(.block 0
  (.loop
    (.seq (reg [op 20 (.binOp .lss 0 (.tmp 19) (.tmp 18) 0)])
    (.seq (.cond (.tmp 20)
      .skip
      (.exit 0))
    (.seq (.block 1
      (.seq (reg [op 21 (.move (.tmp 19)) 1,
        op 7 (.move (.global 21))])
      (.seq (reg [op 22 (.move (.tmp 7)) 1,
        op 23 (.binOp .rem 0 (.global 22) (.const (I 2)) 0) 1,
        op 24 (.binOp .add 0 (.const (I 1)) (.global 23) 0) 1,
        op 8 (.move (.global 24))])
      (.block 2
        (.loop
          (.seq (.seq (reg [op 25 (.move (.tmp 8)) 1,
            op 26 (.move (.tmp 0)) 1,
            op 27 (.binOp .lss 0 (.global 25) (.global 26) 0)])
          (.cond (.tmp 27)
            .skip
            (.exit 2)))
          (.seq (.block 3
            (.seq (reg [op 30 (.move (.tmp 7)) 1,
              op 31 (.binOp .rem 0 (.global 30) (.const (I 2)) 0) 1,
              op 32 (.binOp .eql 0 (.global 31) (.const (I 0)) 0)])
            (.cond (.tmp 32)
              (reg [op 33 (.move (.tmp 6)) 1,
                op 34 (.move (.tmp 8)) 1,
                op 35 (.buildSlice 1 1 #[(0, (.const (.agg #[(I 0)]))), (1, (.global 34))]) 1,
                op 36 (bi .append #[(.global 33), (.global 35)] 1) 1,
                op 6 (.move (.global 36))])
              (reg [op 37 (.move (.tmp 6)) 1,
                op 38 (.move (.tmp 8)) 1,
                op 39 (.unOp .neg 0 (.global 38)) 1,
                op 40 (.buildSlice 1 1 #[(0, (.const (.agg #[(I 0)]))), (1, (.global 39))]) 1,
                op 41 (bi .append #[(.global 37), (.global 40)] 1) 1,
                op 6 (.move (.global 41))]))))
          (reg [op 28 (.move (.tmp 8)) 1,
            op 29 (.binOp .add 0 (.global 28) (.const (I 2)) 0) 1,
            op 8 (.move (.global 29))]))))))))
    (reg [op 42 (.binOp .add 0 (.tmp 19) (.const (I 1)) 0) 1,
      op 19 (.move (.global 42))])))))))
(.seq (.seq (reg [op 43 (.move (.tmp 6)) 1,
  op 44 (bi .len #[(.global 43)] 1) 1,
  op 45 (.binOp .gtr 0 (.global 44) (.const (I 200)) 0)])
(.cond (.tmp 45)
  (.seq (reg [op 4 (.move (.const (sl 0 0 0 0))),
    op 5 (.move (.const (I 5)))])
  .ret)
  .skip))
(.seq (reg [op 46 (.move (.tmp 6)) 1,
  op 4 (.move (.global 46)),
  op 5 (.move (.const (I 0)))])
.ret)))))), [(4, 0), (5, 0)]⟩

/-- spec.PlainPlait -/
def fn407 : AFun := ⟨2,
(.seq (reg [op 4 (.move (.const (sl 0 0 0 0))),
  op 5 (.move (.const (I 0)))])
(.seq (.seq (reg [op 9 (.move (.tmp 0)) 1,
  op 10 (call (.func 432) #[(.global 9), (.const (I 2)), (.const (I 12))]) 1,
  op 11 (.unOp .not 0 (.global 10)) 1,
  op 12 (.move (.global 11)) 1,
  op 13 (.move (.tmp 1)) 1 (some (49, false)),
  op 14 (call (.func 432) #[(.global 13), (.const (I 0)), (.const (I 200))]) 1 (some (49, false)),
  op 15 (.unOp .not 0 (.global 14)) 1 (some (49, false)),
  op 16 (.pick (.global 12) (.const (B true)) (.global 15))])
(.cond (.tmp 16)
  (.seq (reg [op 4 (.move (.const (sl 0 0 0 0))),
    op 5 (.move (.const (I 2)))])
  .ret)
  .skip))
(.seq (reg [op 17 (.move (.const (sl 0 0 0 1))) 1,
  op 6 (.move (.global 17))])
(.seq (.seq (reg [op 7 (.move (.const (I 0)))])
(.block 0
  (.loop
    (.seq (.seq (reg [op 18 (.move (.tmp 7)) 1,
      op 19 (.move (.tmp 1)) 1,
      op 20 (.binOp .lss 0 (.global 18) (.global 19) 0)])
    (.cond (.tmp 20)
      .skip
      (.exit 0)))
    (.seq (.block 1
      (.seq (reg [op 23 (.move (.tmp 7)) 1,
        op 24 (.binOp .rem 0 (.global 23) (.const (I 2)) 0) 1,
        op 25 (.binOp .add 0 (.const (I 1)) (.global 24) 0) 1,
        op 8 (.move (.global 25))])
      (.block 2
        (.loop
          (.seq (.seq (reg [op 26 (.move (.tmp 8)) 1,
            op 27 (.move (.tmp 0)) 1,
            op 28 (.binOp .lss 0 (.global 26) (.global 27) 0)])
          (.cond (.tmp 28)
            .skip
            (.exit 2)))
          (.seq (.block 3
            (.seq (reg [op 31 (.move (.tmp 7)) 1,
              op 32 (.binOp .rem 0 (.global 31) (.const (I 2)) 0) 1,
              op 33 (.binOp .eql 0 (.global 32) (.const (I 0)) 0)])
            (.cond (.tmp 33)
              (reg [op 34 (.move (.tmp 6)) 1,
                op 35 (.move (.tmp 8)) 1,
                op 36 (.buildSlice 1 1 #[(0, (.const (.agg #[(I 0)]))), (1, (.global 35))]) 1,
                op 37 (bi .append #[(.global 34), (.global 36)] 1) 1,
                op 6 (.move (.global 37))])
              (reg [op 38 (.move (.tmp 6)) 1,
                op 39 (.move (.tmp 8)) 1,
                op 40 (.unOp .neg 0 (.global 39)) 1,
                op 41 (.buildSlice 1 1 #[(0, (.const (.agg #[(I 0)]))), (1, (.global 40))]) 1,
                op 42 (bi .append #[(.global 38), (.global 41)] 1) 1,
                op 6 (.move (.global 42))]))))
          (reg [op 29 (.move (.tmp 8)) 1,
            op 30 (.binOp .add 0 (.global 29) (.const (I 2)) 0) 1,
            op 8 (.move (.global 30))])))))))
    (reg [op 21 (.move (.tmp 7)) 1,
      op 22 (.binOp .add 0 (.global 21) (.const (I 1)) 0) 1,
      op 7 (.move (.global 22))]))))))
(.seq (.seq (reg [op 43 (.move (.tmp 6)) 1,
  op 44 (bi .len #[(.global 43)] 1) 1,
  op 45 (.binOp .gtr 0 (.global 44) (.const (I 200)) 0)])
(.cond (.tmp 45)
  (.seq (reg [op 4 (.move (.const (sl 0 0 0 0))),
    op 5 (.move (.const (I 5)))])
  .ret)
  .skip))
(.seq (reg [op 46 (.move (.tmp 6)) 1,
  op 4 (.move (.global 46)),
  op 5 (.move (.const (I 0)))])
.ret)))))), [(4, 0), (5, 0)]⟩

/-- spec.DrawPlaitPicture -/
def fn367 : AFun := ⟨1,
(.seq (reg [op 2 (.move (.const (I 0))),
  op 3 (.move (.const (sl 0 0 0 0)))])
(.seq (reg [op 4 (.move (.tmp 0)) 1,
  op 5 (call (.func 528) #[(.global 4)]) 1,
  op 6 (.extract (.global 5) 0) 1,
  op 7 (.extract (.global 5) 1) 1,
  op 2 (.move (.global 6)),
  op 3 (.move (.global 7))])
.ret)), [(2, 0), (3, 0)]⟩

/-- impl.PlaitPicture -/
def fn116 : AFun := ⟨2,
(.seq (reg [op 4 (.move (.const (sl 0 0 0 0))),
  op 5 (.move (.const (I 0)))])
(.seq (.seq (reg [op 13 (.move (.tmp 0)) 1,
  op 14 (.move (.tmp 1)) 1,
  op 15 (call (.func 142) #[(.global 13), (.global 14)]) 1,
  op 16 (.unOp .not 0 (.global 15))])
(.cond (.tmp 16)
  (.seq (reg [op 4 (.move (.const (sl 0 0 0 0))),
    op 5 (.move (.const (I 1)))])
  .ret)
  .skip))
(.seq (reg [op 17 (.move (.const (sl 0 0 0 1))) 1,
  op 6 (.move (.global 17))])
(.seq (.seq (reg [op 18 (.move (.tmp 1)),
  op 19 (bi .len #[(.tmp 18)] 1),
  op 20 (.move (.const (I 0)))])
(.block 0
  (.loop
    (.seq (reg [op 21 (.binOp .lss 0 (.tmp 20) (.tmp 19) 0)])
    (.seq (.cond (.tmp 21)
      .skip
      (.exit 0))
    (.seq (.block 1
      (.seq (reg [op 22 (.indexAddr 3 (.tmp 18) (.tmp 20)) 1,
        op 23 (.load 0 (.global 22)) 1,
        op 8 (.move (.global 23))])
      (.seq (reg [op 24 (.move (.const (sl 0 0 0 1))) 1,
        op 9 (.move (.global 24))])
      (.seq (.seq (reg [op 25 (.move (.tmp 0)),
        op 26 (.move (.const (I 0)))])
      (.block 2
        (.loop
          (.seq (reg [op 27 (.binOp .lss 0 (.tmp 26) (.tmp 25) 0)])
          (.seq (.cond (.tmp 27)
            .skip
            (.exit 2))
          (.seq (.block 3
            (.seq (reg [op 28 (.move (.tmp 26)) 1,
              op 10 (.move (.global 28))])
            (.seq (.seq (reg [op 29 (.move (.tmp 10)) 1,
              op 30 (.binOp .gtr 0 (.global 29) (.const (I 0)) 0)])
            (.cond (.tmp 30)
              (reg [op 31 (.move (.tmp 9)) 1,
                op 32 (.buildSlice 1 1 #[(0, (.const (.agg #[(U 0)]))), (1, (.const (U 32)))]) 1,
                op 33 (bi .append #[(.global 31), (.global 32)] 1) 1,
                op 9 (.move (.global 33))])
              .skip))
            (reg [op 34 (.move (.tmp 9)) 1,
              op 35 (.buildSlice 1 1 #[(0, (.const (.agg #[(U 0)]))), (1, (.const (U 124)))]) 1,
              op 36 (bi .append #[(.global 34), (.global 35)] 1) 1,
              op 9 (.move (.global 36))]))))
          (reg [op 37 (.binOp .add 0 (.tmp 26) (.const (I 1)) 0) 1,
            op 26 (.move (.global 37))])))))))
      (.seq (reg [op 38 (.move (.tmp 8)) 1,
        op 39 (call (.func 185) #[(.global 38)]) 1,
        op 40 (.binOp .sub 0 (.global 39) (.const (I 1)) 0) 1,
        op 41 (.binOp .mul 0 (.const (I 2)) (.global 40) 0) 1,
        op 11 (.move (.global 41))])
      (.seq (reg [op 12 (.move (.const (U 43)))])
      (.seq (.seq (reg [op 42 (.move (.tmp 8)) 1,
        op 43 (.binOp .lss 0 (.global 42) (.const (I 0)) 0)])
      (.cond (.tmp 43)
        (reg [op 12 (.move (.const (U 45)))])
        .skip))
      (.seq (reg [op 44 (.move (.tmp 9)) 1,
        op 45 (.move (.tmp 11)) 1,
        op 46 (.move (.tmp 9)) 1,
        op 47 (.move (.tmp 11)) 1,
        op 48 (.binOp .add 0 (.global 47) (.const (I 1)) 0) 1,
        op 49 (.move (.tmp 9)) 1,
        op 50 (.move (.tmp 11)) 1,
        op 51 (.binOp .add 0 (.global 50) (.const (I 2)) 0) 1,
        op 52 (.move (.tmp 12)) 1,
        op 53 (.indexAddr 3 (.global 44) (.global 45)) 1,
        opn (.store 1 (.global 53) (.const (U 92))),
        op 54 (.indexAddr 3 (.global 46) (.global 48)) 1,
        opn (.store 1 (.global 54) (.global 52)),
        op 55 (.indexAddr 3 (.global 49) (.global 51)) 1,
        opn (.store 1 (.global 55) (.const (U 47)))])
      (reg [op 56 (.move (.tmp 6)) 1,
        op 57 (.move (.tmp 9)) 1,
        op 58 (.convert 0 21 (.global 57)) 1,
        op 59 (.buildSlice 1 1 #[(0, (.const (.agg #[(S [])]))), (1, (.global 58))]) 1,
        op 60 (bi .append #[(.global 56), (.global 59)] 1) 1,
        op 6 (.move (.global 60))])))))))))
    (reg [op 61 (.binOp .add 0 (.tmp 20) (.const (I 1)) 0) 1,
      op 20 (.move (.global 61))])))))))
(.seq (reg [op 62 (.move (.tmp 6)) 1,
  op 4 (.move (.global 62)),
  op 5 (.move (.const (I 0)))])
.ret))))), [(4, 0), (5, 0)]⟩

/-- spec.PlaitPicture -/
def fn408 : AFun := ⟨2,
(.seq (reg [op 4 (.move (.const (sl 0 0 0 0))),
  op 5 (.move (.const (I 0)))])
(.seq (.seq (reg [op 11 (.move (.tmp 0)) 1,
  op 12 (.move (.tmp 1)) 1,
  op 13 (call (.func 531) #[(.global 11), (.global 12)]) 1,
  op 14 (.unOp .not 0 (.global 13))])
(.cond (.tmp 14)
  (.seq (reg [op 4 (.move (.const (sl 0 0 0 0))),
    op 5 (.move (.const (I 1)))])
  .ret)
  .skip))
(.seq (reg [op 15 (.move (.const (sl 0 0 0 1))) 1,
  op 6 (.move (.global 15))])
(.seq (.seq (reg [op 7 (.move (.const (I 0)))])
(.block 0
  (.loop
    (.seq (.seq (reg [op 16 (.move (.tmp 7)) 1,
      op 17 (.move (.tmp 1)) 1,
      op 18 (bi .len #[(.global 17)] 1) 1,
      op 19 (.binOp .lss 0 (.global 16) (.global 18) 0)])
    (.cond (.tmp 19)
      .skip
      (.exit 0)))
    (.seq (.block 1
      (.seq (reg [op 22 (.move (.const (sl 0 0 0 1))) 1,
        op 8 (.move (.global 22))])
      (.seq (.seq (reg [op 9 (.move (.const (I 0)))])
      (.block 2
        (.loop
          (.seq (.seq (reg [op 23 (.move (.tmp 9)) 1,
            op 24 (.move (.tmp 0)) 1,
            op 25 (.binOp .lss 0 (.global 23) (.global 24) 0)])
          (.cond (.tmp 25)
            .skip
            (.exit 2)))
          (.seq (.block 3
            (reg [op 28 (.move (.tmp 8)) 1,
              op 29 (.buildSlice 1 2 #[(0, (.const (.agg #[(U 0), (U 0)]))), (1, (.const (U 124))), (1001, (.const (U 32)))]) 1,
              op 30 (bi .append #[(.global 28), (.global 29)] 1) 1,
              op 8 (.move (.global 30))]))
          (reg [op 26 (.move (.tmp 9)) 1,
            op 27 (.binOp .add 0 (.global 26) (.const (I 1)) 0) 1,
            op 9 (.move (.global 27))]))))))
      (.seq (reg [op 31 (.move (.tmp 1)) 1,
        op 32 (.move (.tmp 7)) 1,
        op 33 (.indexAddr 3 (.global 31) (.global 32)) 1,
        op 34 (.load 0 (.global 33)) 1,
        op 35 (call (.func 512) #[(.global 34)]) 1,
        op 10 (.move (.global 35))])
      (.seq (reg [op 36 (.move (.tmp 8)) 1,
        op 37 (.move (.tmp 10)) 1,
        op 38 (.binOp .mul 0 (.const (I 2)) (.global 37) 0) 1,
        op 39 (.binOp .sub 0 (.global 38) (.const (I 2)) 0) 1,
        op 40 (.indexAddr 3 (.global 36) (.global 39)) 1,
        opn (.store 1 (.global 40) (.const (U 92)))])
      (.seq (reg [op 41 (.move (.tmp 8)) 1,
        op 42 (.move (.tmp 10)) 1,
        op 43 (.binOp .mul 0 (.const (I 2)) (.global 42) 0) 1,
        op 44 (.indexAddr 3 (.global 41) (.global 43)) 1,
        opn (.store 1 (.global 44) (.const (U 47)))])
      (.seq (reg [op 45 (.move (.tmp 8)) 1,
        op 46 (.move (.tmp 10)) 1,
        op 47 (.binOp .mul 0 (.const (I 2)) (.global 46) 0) 1,
        op 48 (.binOp .sub 0 (.global 47) (.const (I 1)) 0) 1,
        op 49 (.indexAddr 3 (.global 45) (.global 48)) 1,
        opn (.store 1 (.global 49) (.const (U 43)))])
      (.seq (.seq (reg [op 50 (.move (.tmp 1)) 1,
        op 51 (.move (.tmp 7)) 1,
        op 52 (.indexAddr 3 (.global 50) (.global 51)) 1,
        op 53 (.load 0 (.global 52)) 1,
        op 54 (.binOp .lss 0 (.global 53) (.const (I 0)) 0)])
      (.cond (.tmp 54)
        (reg [op 55 (.move (.tmp 8)) 1,
          op 56 (.move (.tmp 10)) 1,
          op 57 (.binOp .mul 0 (.const (I 2)) (.global 56) 0) 1,
          op 58 (.binOp .sub 0 (.global 57) (.const (I 1)) 0) 1,
          op 59 (.indexAddr 3 (.global 55) (.global 58)) 1,
          opn (.store 1 (.global 59) (.const (U 45)))])
        .skip))
      (reg [op 60 (.move (.tmp 6)) 1,
        op 61 (.move (.tmp 8)) 1,
        op 62 (.move (.tmp 0)) 1,
        op 63 (.binOp .mul 0 (.const (I 2)) (.global 62) 0) 1,
        op 64 (.binOp .sub 0 (.global 63) (.const (I 1)) 0) 1,
        op 65 (.slice 3 (.global 61) none (some (.global 64)) none) 1,
        op 66 (.convert 0 21 (.global 65)) 1,
        op 67 (.buildSlice 1 1 #[(0, (.const (.agg #[(S [])]))), (1, (.global 66))]) 1,
        op 68 (bi .append #[(.global 60), (.global 67)] 1) 1,
        op 6 (.move (.global 68))])))))))))
    (reg [op 20 (.move (.tmp 7)) 1,
      op 21 (.binOp .add 0 (.global 20) (.const (I 1)) 0) 1,
      op 7 (.move (.global 21))]))))))
(.seq (reg [op 69 (.move (.tmp 6)) 1,
  op 4 (.move (.global 69)),
  op 5 (.move (.const (I 0)))])
.ret))))), [(4, 0), (5, 0)]⟩

/-- spec.DrawWordText -/
def fn376 : AFun := ⟨1,
(.seq (reg [op 2 (.move (.const (sl 0 0 0 0)))])
(.seq (reg [op 6 (.move (.tmp 0)) 1,
  op 7 (call (.func 528) #[(.global 6)]) 1,
  op 5 (.move (.global 7)) 1,
  op 8 (.extract (.global 5) 0) 1,
  op 9 (.extract (.global 5) 1) 1,
  op 3 (.move (.global 8)) 1,
  op 4 (.move (.global 9))])
(.seq (reg [op 10 (.move (.tmp 4)) 1,
  op 2 (.move (.global 10))])
.ret))), [(2, 0)]⟩

/-- laws.f6lists -/
def fn272 : AFun := ⟨2,
(.seq (reg [op 4 (.move (.const (B false)))])
(.seq (.seq (reg [op 6 (.move (.tmp 0)) 1,
  op 7 (bi .len #[(.global 6)] 1) 1,
  op 8 (.move (.tmp 1)) 1,
  op 9 (bi .len #[(.global 8)] 1) 1,
  op 10 (.binOp .neq 0 (.global 7) (.global 9) 0)])
(.cond (.tmp 10)
  (.seq (reg [op 4 (.move (.const (B false)))])
  .ret)
  .skip))
(.seq (.seq (reg [op 5 (.move (.const (I 0)))])
(.block 0
  (.loop
    (.seq (.seq (reg [op 11 (.move (.tmp 5)) 1,
      op 12 (.move (.tmp 0)) 1,
      op 13 (bi .len #[(.global 12)] 1) 1,
      op 14 (.binOp .lss 0 (.global 11) (.global 13) 0)])
    (.cond (.tmp 14)
      .skip
      (.exit 0)))
    (.seq (.block 1
      (.seq (reg [op 17 (.move (.tmp 0)) 1,
        op 18 (.move (.tmp 5)) 1,
        op 19 (.indexAddr 3 (.global 17) (.global 18)) 1,
        op 20 (.load 0 (.global 19)) 1,
        op 21 (.move (.tmp 1)) 1,
        op 22 (.move (.tmp 5)) 1,
        op 23 (.indexAddr 3 (.global 21) (.global 22)) 1,
        op 24 (.load 0 (.global 23)) 1,
        op 25 (call (.func 271) #[(.global 20), (.global 24)]) 1,
        op 26 (.unOp .not 0 (.global 25))])
      (.cond (.tmp 26)
        (.seq (reg [op 4 (.move (.const (B false)))])
        .ret)
        .skip)))
    (reg [op 15 (.move (.tmp 5)) 1,
      op 16 (.binOp .add 0 (.global 15) (.const (I 1)) 0) 1,
      op 5 (.move (.global 16))]))))))
(.seq (reg [op 4 (.move (.const (B true)))])
.ret)))), [(4, 0)]⟩

/-- laws.f6texts -/
def fn274 : AFun := ⟨2,
(.seq (reg [op 4 (.move (.const (B false)))])
(.seq (.seq (reg [op 6 (.move (.tmp 0)) 1,
  op 7 (bi .len #[(.global 6)] 1) 1,
  op 8 (.move (.tmp 1)) 1,
  op 9 (bi .len #[(.global 8)] 1) 1,
  op 10 (.binOp .neq 0 (.global 7) (.global 9) 0)])
(.cond (.tmp 10)
  (.seq (reg [op 4 (.move (.const (B false)))])
  .ret)
  .skip))
(.seq (.seq (reg [op 5 (.move (.const (I 0)))])
(.block 0
  (.loop
    (.seq (.seq (reg [op 11 (.move (.tmp 5)) 1,
      op 12 (.move (.tmp 0)) 1,
      op 13 (bi .len #[(.global 12)] 1) 1,
      op 14 (.binOp .lss 0 (.global 11) (.global 13) 0)])
    (.cond (.tmp 14)
      .skip
      (.exit 0)))
    (.seq (.block 1
      (.seq (reg [op 17 (.move (.tmp 0)) 1,
        op 18 (.move (.tmp 5)) 1,
        op 19 (.indexAddr 3 (.global 17) (.global 18)) 1,
        op 20 (.load 0 (.global 19)) 1,
        op 21 (.move (.tmp 1)) 1,
        op 22 (.move (.tmp 5)) 1,
        op 23 (.indexAddr 3 (.global 21) (.global 22)) 1,
        op 24 (.load 0 (.global 23)) 1,
        op 25 (.binOp .neq 0 (.global 20) (.global 24) 0)])
      (.cond (.tmp 25)
        (.seq (reg [op 4 (.move (.const (B false)))])
        .ret)
        .skip)))
    (reg [op 15 (.move (.tmp 5)) 1,
      op 16 (.binOp .add 0 (.global 15) (.const (I 1)) 0) 1,
      op 5 (.move (.global 16))]))))))
(.seq (reg [op 4 (.move (.const (B true)))])
.ret)))), [(4, 0)]⟩

/-- impl.WordText -/
def fn143 : AFun := ⟨1,
(.seq (reg [op 2 (.move (.const (S [])))])
(.seq (.seq (reg [op 3 (.move (.tmp 0)) 1,
  op 4 (call (.func 142) #[(.const (I 12)), (.global 3)]) 1,
  op 5 (.unOp .not 0 (.global 4))])
(.cond (.tmp 5)
  (.seq (reg [op 2 (.move (.const (S [])))])
  .ret)
  .skip))
(.seq (reg [op 6 (.move (.tmp 0)) 1,
  op 7 (call (.func 156) #[(.global 6), (.const (S [32]))]) 1,
  op 2 (.move (.global 7))])
.ret))), [(2, 0)]⟩

/-- spec.WordText -/
def fn429 : AFun := ⟨1,
(.seq (reg [op 2 (.move (.const (S [])))])
(.seq (.seq (reg [op 5 (.move (.tmp 0)) 1,
  op 6 (call (.func 531) #[(.const (I 12)), (.global 5)]) 1,
  op 7 (.unOp .not 0 (.global 6))])
(.cond (.tmp 7)
  (.seq (reg [op 2 (.move (.const (S [])))])
  .ret)
  .skip))
(.seq (reg [op 8 (.move (.const (sl 0 0 0 1))) 1,
  op 3 (.move (.global 8))])
(.seq (.seq (reg [op 4 (.move (.const (I 0)))])
(.block 0
  (.loop
    (.seq (.seq (reg [op 9 (.move (.tmp 4)) 1,
      op 10 (.move (.tmp 0)) 1,
      op 11 (bi .len #[(.global 10)] 1) 1,
      op 12 (.binOp .lss 0 (.global 9) (.global 11) 0)])
    (.cond (.tmp 12)
      .skip
      (.exit 0)))
    (.seq (.block 1
      (.seq (.seq (reg [op 15 (.move (.tmp 4)) 1,
        op 16 (.binOp .gtr 0 (.global 15) (.const (I 0)) 0)])
      (.cond (.tmp 16)
        (reg [op 17 (.move (.tmp 3)) 1,
          op 18 (.buildSlice 1 1 #[(0, (.const (.agg #[(U 0)]))), (1, (.const (U 32)))]) 1,
          op 19 (bi .append #[(.global 17), (.global 18)] 1) 1,
          op 3 (.move (.global 19))])
        .skip))
      (reg [op 20 (.move (.tmp 3)) 1,
        op 21 (.move (.tmp 0)) 1,
        op 22 (.move (.tmp 4)) 1,
        op 23 (.indexAddr 3 (.global 21) (.global 22)) 1,
        op 24 (.load 0 (.global 23)) 1,
        op 25 (call (.func 437) #[(.global 24)]) 1,
        op 26 (bi .append #[(.global 20), (.global 25)] 1) 1,
        op 3 (.move (.global 26))])))
    (reg [op 13 (.move (.tmp 4)) 1,
      op 14 (.binOp .add 0 (.global 13) (.const (I 1)) 0) 1,
      op 4 (.move (.global 14))]))))))
(.seq (reg [op 27 (.move (.tmp 3)) 1,
  op 28 (.convert 0 21 (.global 27)) 1,
  op 2 (.move (.global 28))])
.ret))))), [(2, 0)]⟩

/-- impl.OrderAfter -/
def fn104 : AFun := ⟨2,
(.seq (reg [op 4 (.move (.const (sl 0 0 0 0))),
  op 5 (.move (.const (I 0)))])
(.seq (.seq (reg [op 6 (.move (.tmp 0)) 1,
  op 7 (.move (.tmp 1)) 1,
  op 8 (call (.func 142) #[(.global 6), (.global 7)]) 1,
  op 9 (.unOp .not 0 (.global 8))])
(.cond (.tmp 9)
  (.seq (reg [op 4 (.move (.const (sl 0 0 0 0))),
    op 5 (.move (.const (I 1)))])
  .ret)
  .skip))
(.seq (reg [op 10 (.move (.tmp 0)) 1,
  op 11 (.move (.tmp 1)) 1,
  op 12 (call (.func 184) #[(.global 10), (.global 11), (.func 105)]) 1,
  op 4 (.move (.global 12)),
  op 5 (.move (.const (I 0)))])
.ret))), [(4, 0), (5, 0)]⟩

/-- spec.l00From -/
def fn431 : AFun := ⟨1,
(.seq (reg [op 2 (.move (.const (.pointer none)))])
(.seq (reg [op 3 (.move (.tmp 0)) 1,
  op 4 (.build 0 #[(0, (.const (.agg #[(sl 0 0 0 0), (I 0), (.int .u64 0)]))), (1, (.global 3))]) 1,
  op 5 (.box 3 (.global 4)) 1,
  op 2 (.move (.global 5))])
.ret)), [(2, 0)]⟩

/-- (*spec.l00Src).pick -/
def fn7 : AFun := ⟨2,
(.seq (reg [op 4 (.move (.const (I 0)))])
(.seq (.seq (reg [op 6 (.move (.tmp 1)) 1,
  op 7 (.binOp .leq 0 (.global 6) (.const (I 1)) 0)])
(.cond (.tmp 7)
  (.seq (reg [op 4 (.move (.const (I 0)))])
  .ret)
  .skip))
(.seq (reg [op 8 (.move (.tmp 0)) 1,
  op 9 (call (.func 5) #[(.global 8)]) 1,
  op 5 (.move (.global 9))])
(.seq (.seq (reg [op 10 (.move (.tmp 1)) 1,
  op 11 (.binOp .gtr 0 (.global 10) (.const (I 200)) 0)])
(.cond (.tmp 11)
  (reg [op 12 (.move (.tmp 5)) 1,
    op 13 (.binOp .mul 0 (.global 12) (.const (I 256)) 0) 1,
    op 14 (.move (.tmp 0)) 1,
    op 15 (call (.func 5) #[(.global 14)]) 1,
    op 16 (.binOp .add 0 (.global 13) (.global 15) 0) 1,
    op 5 (.move (.global 16))])
  .skip))
(.seq (reg [op 17 (.move (.tmp 5)) 1,
  op 18 (.move (.tmp 1)) 1,
  op 19 (.binOp .rem 0 (.global 17) (.global 18) 0) 1,
  op 4 (.move (.global 19))])
.ret))))), [(4, 0)]⟩

/-- (*spec.l00Src).one -/
def fn6 : AFun := ⟨2,
(.seq (reg [op 4 (.move (.const (B false)))])
(.seq (reg [op 5 (.move (.tmp 0)) 1,
  op 6 (.move (.tmp 1)) 1,
  op 7 (call (.func 7) #[(.global 5), (.global 6)]) 1,
  op 8 (.binOp .eql 0 (.global 7) (.const (I 0)) 0) 1,
  op 4 (.move (.global 8))])
.ret)), [(4, 0)]⟩

/-- impl.inRange -/
def fn164 : AFun := ⟨3,
(.seq (reg [op 6 (.move (.const (B false)))])
(.seq (reg [op 7 (.move (.tmp 0)) 1,
  op 8 (.move (.tmp 1)) 1,
  op 9 (.binOp .geq 0 (.global 7) (.global 8) 0) 1,
  op 10 (.move (.global 9)) 1,
  op 11 (.move (.tmp 0)) 1 (some (41, true)),
  op 12 (.move (.tmp 2)) 1 (some (41, true)),
  op 13 (.binOp .leq 0 (.global 11) (.global 12) 0) 1 (some (41, true)),
  op 14 (.pick (.global 10) (.global 13) (.const (B false))) 1,
  op 6 (.move (.global 14))])
.ret)), [(6, 0)]⟩

/-- spec.l00In -/
def fn432 : AFun := ⟨3,
(.seq (reg [op 6 (.move (.const (B false)))])
(.seq (reg [op 7 (.move (.tmp 0)) 1,
  op 8 (.move (.tmp 1)) 1,
  op 9 (.binOp .geq 0 (.global 7) (.global 8) 0) 1,
  op 10 (.move (.global 9)) 1,
  op 11 (.move (.tmp 0)) 1 (some (41, true)),
  op 12 (.move (.tmp 2)) 1 (some (41, true)),
  op 13 (.binOp .leq 0 (.global 11) (.global 12) 0) 1 (some (41, true)),
  op 14 (.pick (.global 10) (.global 13) (.const (B false))) 1,
  op 6 (.move (.global 14))])
.ret)), [(6, 0)]⟩

/-- impl.Decimal -/
def fn75 : AFun := ⟨1,
(.seq (reg [op 2 (.move (.const (S [])))])
(.seq (.seq (reg [op 6 (.move (.tmp 0)) 1,
  op 7 (.binOp .eql 0 (.global 6) (.const (I 0)) 0)])
(.cond (.tmp 7)
  (.seq (reg [op 2 (.move (.const (S [48])))])
  .ret)
  .skip))
(.seq (reg [op 8 (.build 0 #[(0, (.const (.agg #[(U 0), (U 0), (U 0), (U 0), (U 0), (U 0), (U 0), (U 0), (U 0), (U 0), (U 0), (U 0), (U 0), (U 0), (U 0), (U 0), (U 0), (U 0), (U 0), (U 0)])))]) 1,
  op 3 (.box 20 (.const (.agg #[(U 0), (U 0), (U 0), (U 0), (U 0), (U 0), (U 0), (U 0), (U 0), (U 0), (U 0), (U 0), (U 0), (U 0), (U 0), (U 0), (U 0), (U 0), (U 0), (U 0)]))),
  opn (.store 20 (.tmp 3) (.global 8))])
(.seq (reg [op 4 (.move (.const (I 20)))])
(.seq (reg [op 9 (.move (.tmp 0)) 1,
  op 10 (.convert 0 7 (.global 9)) 1,
  op 5 (.move (.global 10))])
(.seq (.seq (reg [op 11 (.move (.tmp 0)) 1,
  op 12 (.binOp .lss 0 (.global 11) (.const (I 0)) 0)])
(.cond (.tmp 12)
  (reg [op 13 (.move (.tmp 5)) 1,
    op 14 (.unOp .neg 0 (.global 13)) 1,
    op 5 (.move (.global 14))])
  .skip))
(.seq (.block 0
  (.loop
    (.seq (.seq (reg [op 15 (.move (.tmp 5)) 1,
      op 16 (.binOp .gtr 0 (.global 15) (.const (.int .u64 0)) 0)])
    (.cond (.tmp 16)
      .skip
      (.exit 0)))
    (.block 1
      (.seq (reg [op 17 (.move (.tmp 4)) 1,
        op 18 (.binOp .sub 0 (.global 17) (.const (I 1)) 0) 1,
        op 4 (.move (.global 18))])
      (.seq (reg [op 19 (.move (.tmp 4)) 1,
        op 20 (.move (.tmp 5)) 1,
        op 21 (.binOp .rem 0 (.global 20) (.const (.int .u64 10)) 0) 1,
        op 22 (.binOp .add 0 (.const (.int .u64 48)) (.global 21) 0) 1,
        op 23 (.convert 0 4 (.global 22)) 1,
        op 24 (.indexAddr 1020001 (.tmp 3) (.global 19)) 1,
        opn (.store 1 (.global 24) (.global 23))])
      (reg [op 25 (.move (.tmp 5)) 1,
        op 26 (.binOp .quo 0 (.global 25) (.const (.int .u64 10)) 0) 1,
        op 5 (.move (.global 26))])))))))
(.seq (.seq (reg [op 27 (.move (.tmp 0)) 1,
  op 28 (.binOp .lss 0 (.global 27) (.const (I 0)) 0)])
(.cond (.tmp 28)
  (.seq (reg [op 29 (.move (.tmp 4)) 1,
    op 30 (.binOp .sub 0 (.global 29) (.const (I 1)) 0) 1,
    op 4 (.move (.global 30))])
  (reg [op 31 (.move (.tmp 4)) 1,
    op 32 (.indexAddr 1020001 (.tmp 3) (.global 31)) 1,
    opn (.store 1 (.global 32) (.const (U 45)))]))
  .skip))
(.seq (reg [op 33 (.move (.tmp 4)) 1,
  op 34 (.slice 1020001 (.tmp 3) (some (.global 33)) none none) 1,
  op 35 (.convert 0 21 (.global 34)) 1,
  op 2 (.move (.global 35))])
.ret))))))))), [(2, 0)]⟩

/-- impl.joined -/
def fn167 : AFun := ⟨2,
(.seq (reg [op 4 (.move (.const (S [])))])
(.seq (reg [op 5 (.move (.const (S [])))])
(.seq (.seq (reg [op 8 (.move (.tmp 0)),
  op 9 (bi .len #[(.tmp 8)] 1),
  op 10 (.move (.const (I 0)))])
(.block 0
  (.loop
    (.seq (reg [op 11 (.binOp .lss 0 (.tmp 10) (.tmp 9) 0)])
    (.seq (.cond (.tmp 11)
      .skip
      (.exit 0))
    (.seq (.block 1
      (.seq (reg [op 12 (.move (.tmp 10)) 1,
        op 13 (.indexAddr 3 (.tmp 8) (.tmp 10)) 1,
        op 14 (.load 0 (.global 13)) 1,
        op 6 (.move (.global 12)),
        op 7 (.move (.global 14))])
      (.seq (.seq (reg [op 15 (.move (.tmp 6)) 1,
        op 16 (.binOp .gtr 0 (.global 15) (.const (I 0)) 0)])
      (.cond (.tmp 16)
        (reg [op 17 (.move (.tmp 5)) 1,
          op 18 (.move (.tmp 1)) 1,
          op 19 (.binOp .add 0 (.global 17) (.global 18) 0) 1,
          op 5 (.move (.global 19))])
        .skip))
      (reg [op 20 (.move (.tmp 5)) 1,
        op 21 (.move (.tmp 7)) 1,
        op 22 (.binOp .add 0 (.global 20) (.global 21) 0) 1,
        op 5 (.move (.global 22))]))))
    (reg [op 23 (.binOp .add 0 (.tmp 10) (.const (I 1)) 0) 1,
      op 10 (.move (.global 23))])))))))
(.seq (reg [op 24 (.move (.tmp 5)) 1,
  op 4 (.move (.global 24))])
.ret)))), [(4, 0)]⟩

/-- spec.l23Ask -/
def fn528 : AFun := ⟨1,
(.seq (reg [op 2 (.move (.const (I 0))),
  op 3 (.move (.const (sl 0 0 0 0)))])
(.seq (reg [op 4 (.move (.tmp 0)) 1,
  op 5 (call (.func 431) #[(.global 4)]) 1,
  op 6 (call (.func 529) #[(.global 5)]) 1,
  op 7 (.extract (.global 6) 0) 1,
  op 8 (.extract (.global 6) 1) 1,
  op 2 (.move (.global 7)),
  op 3 (.move (.global 8))])
.ret)), [(2, 0), (3, 0)]⟩

/-- impl.ValidWord -/
def fn142 : AFun := ⟨2,
(.seq (reg [op 4 (.move (.const (B false)))])
(.seq (.seq (reg [op 7 (.move (.tmp 1)),
  op 8 (bi .len #[(.tmp 7)] 1),
  op 9 (.move (.const (I 0)))])
(.block 0
  (.loop
    (.seq (reg [op 10 (.binOp .lss 0 (.tmp 9) (.tmp 8) 0)])
    (.seq (.cond (.tmp 10)
      .skip
      (.exit 0))
    (.seq (.block 1
      (.seq (reg [op 11 (.indexAddr 3 (.tmp 7) (.tmp 9)) 1,
        op 12 (.load 0 (.global 11)) 1,
        op 6 (.move (.global 12))])
      (.seq (reg [op 13 (.move (.tmp 6)) 1,
        op 14 (.binOp .eql 0 (.global 13) (.const (I 0)) 0) 1,
        op 15 (.move (.global 14)) 1,
        op 16 (.move (.tmp 6)) 1 (some (61, false)),
        op 17 (.move (.tmp 0)) 1 (some (61, false)),
        op 18 (.binOp .sub 0 (.const (I 1)) (.global 17) 0) 1 (some (61, false)),
        op 19 (.move (.tmp 0)) 1 (some (61, false)),
        op 20 (.binOp .sub 0 (.global 19) (.const (I 1)) 0) 1 (some (61, false)),
        op 21 (call (.func 164) #[(.global 16), (.global 18), (.global 20)]) 1 (some (61, false)),
        op 22 (.unOp .not 0 (.global 21)) 1 (some (61, false)),
        op 23 (.pick (.global 15) (.const (B true)) (.global 22))])
      (.cond (.tmp 23)
        (.seq (reg [op 4 (.move (.const (B false)))])
        .ret)
        .skip))))
    (reg [op 24 (.binOp .add 0 (.tmp 9) (.const (I 1)) 0) 1,
      op 9 (.move (.global 24))])))))))
(.seq (reg [op 25 (.move (.tmp 0)) 1,
  op 26 (call (.func 164) #[(.global 25), (.const (I 2)), (.const (I 12))]) 1,
  op 27 (.move (.global 26)) 1,
  op 28 (.move (.tmp 1)) 1 (some (109, true)),
  op 29 (bi .len #[(.global 28)] 1) 1 (some (109, true)),
  op 30 (.binOp .leq 0 (.global 29) (.const (I 200)) 0) 1 (some (109, true)),
  op 31 (.pick (.global 27) (.global 30) (.const (B false))) 1,
  op 4 (.move (.global 31))])
.ret))), [(4, 0)]⟩

/-- impl.rightOf -/
def fn185 : AFun := ⟨1,
(.seq (reg [op 2 (.move (.const (I 0)))])
(.seq (reg [op 3 (.move (.tmp 0)) 1,
  op 4 (.move (.tmp 0)) 1,
  op 5 (.unOp .neg 0 (.global 4)) 1,
  op 6 (bi .max #[(.global 3), (.global 5)] 0) 1,
  op 2 (.move (.global 6))])
.ret)), [(2, 0)]⟩

/-- spec.l23Ok -/
def fn531 : AFun := ⟨2,
(.seq (reg [op 4 (.move (.const (B false)))])
(.seq (.seq (reg [op 6 (.move (.tmp 0)) 1,
  op 7 (call (.func 432) #[(.global 6), (.const (I 2)), (.const (I 12))]) 1,
  op 8 (.unOp .not 0 (.global 7)) 1,
  op 9 (.move (.global 8)) 1,
  op 10 (.move (.tmp 1)) 1 (some (37, false)),
  op 11 (bi .len #[(.global 10)] 1) 1 (some (37, false)),
  op 12 (.binOp .gtr 0 (.global 11) (.const (I 200)) 0) 1 (some (37, false)),
  op 13 (.pick (.global 9) (.const (B true)) (.global 12))])
(.cond (.tmp 13)
  (.seq (reg [op 4 (.move (.const (B false)))])
  .ret)
  .skip))
(.seq (.seq (reg [op 5 (.move (.const (I 0)))])
(.block 0
  (.loop
    (.seq (.seq (reg [op 14 (.move (.tmp 5)) 1,
      op 15 (.move (.tmp 1)) 1,
      op 16 (bi .len #[(.global 15)] 1) 1,
      op 17 (.binOp .lss 0 (.global 14) (.global 16) 0)])
    (.cond (.tmp 17)
      .skip
      (.exit 0)))
    (.seq (.block 1
      (.seq (reg [op 20 (.move (.tmp 1)) 1,
        op 21 (.move (.tmp 5)) 1,
        op 22 (.indexAddr 3 (.global 20) (.global 21)) 1,
        op 23 (.load 0 (.global 22)) 1,
        op 24 (.binOp .eql 0 (.global 23) (.const (I 0)) 0) 1,
        op 25 (.move (.global 24)) 1,
        op 26 (.move (.tmp 1)) 1 (some (101, false)),
        op 27 (.move (.tmp 5)) 1 (some (101, false)),
        op 28 (.indexAddr 3 (.global 26) (.global 27)) 1 (some (101, false)),
        op 29 (.load 0 (.global 28)) 1 (some (101, false)),
        op 30 (.move (.tmp 0)) 1 (some (101, false)),
        op 31 (.binOp .sub 0 (.const (I 1)) (.global 30) 0) 1 (some (101, false)),
        op 32 (.move (.tmp 0)) 1 (some (101, false)),
        op 33 (.binOp .sub 0 (.global 32) (.const (I 1)) 0) 1 (some (101, false)),
        op 34 (call (.func 432) #[(.global 29), (.global 31), (.global 33)]) 1 (some (101, false)),
        op 35 (.unOp .not 0 (.global 34)) 1 (some (101, false)),
        op 36 (.pick (.global 25) (.const (B true)) (.global 35))])
      (.cond (.tmp 36)
        (.seq (reg [op 4 (.move (.const (B false)))])
        .ret)
        .skip)))
    (reg [op 18 (.move (.tmp 5)) 1,
      op 19 (.binOp .add 0 (.global 18) (.const (I 1)) 0) 1,
      op 5 (.move (.global 19))]))))))
(.seq (reg [op 4 (.move (.const (B true)))])
.ret)))), [(4, 0)]⟩

/-- spec.l15Size -/
def fn512 : AFun := ⟨1,
(.seq (reg [op 2 (.move (.const (I 0)))])
(.seq (reg [op 3 (.move (.tmp 0)) 1,
  op 4 (.move (.tmp 0)) 1,
  op 5 (.unOp .neg 0 (.global 4)) 1,
  op 6 (call (.func 433) #[(.global 3), (.global 5)]) 1,
  op 2 (.move (.global 6))])
.ret)), [(2, 0)]⟩

/-- spec.l00Max -/
def fn433 : AFun := ⟨2,
(.seq (reg [op 4 (.move (.const (I 0)))])
(.seq (.seq (reg [op 5 (.move (.tmp 0)) 1,
  op 6 (.move (.tmp 1)) 1,
  op 7 (.binOp .gtr 0 (.global 5) (.global 6) 0)])
(.cond (.tmp 7)
  (.seq (reg [op 8 (.move (.tmp 0)) 1,
    op 4 (.move (.global 8))])
  .ret)
  .skip))
(.seq (reg [op 9 (.move (.tmp 1)) 1,
  op 4 (.move (.global 9))])
.ret))), [(4, 0)]⟩

/-- slices.Index[[]int64,int64] -/
def fn316 : AFun := ⟨2,
(.seq (reg [op 4 (.move (.const (I 0)))])
(.seq (.seq (reg [op 6 (.move (.tmp 0)) 1,
  op 7 (bi .len #[(.global 6)] 1),
  op 8 (.move (.const (I 0)))])
(.block 0
  (.loop
    (.seq (reg [op 9 (.binOp .lss 0 (.tmp 8) (.tmp 7) 0)])
    (.seq (.cond (.tmp 9)
      .skip
      (.exit 0))
    (.seq (.block 1
      (.seq (reg [op 10 (.move (.tmp 8)) 1,
        op 5 (.move (.global 10))])
      (.seq (reg [op 11 (.move (.tmp 1)) 1,
        op 12 (.move (.tmp 0)) 1,
        op 13 (.move (.tmp 5)) 1,
        op 14 (.indexAddr 3 (.global 12) (.global 13)) 1,
        op 15 (.load 0 (.global 14)) 1,
        op 16 (.binOp .eql 0 (.global 11) (.global 15) 0)])
      (.cond (.tmp 16)
        (.seq (reg [op 17 (.move (.tmp 5)) 1,
          op 4 (.move (.global 17))])
        .ret)
        .skip))))
    (reg [op 18 (.binOp .add 0 (.tmp 8) (.const (I 1)) 0) 1,
      op 8 (.move (.global 18))])))))))
(.seq (reg [op 4 (.move (.const (I (-1))))])
.ret))), [(4, 0)]⟩

/-- spec.l23Order -/
def fn532 : AFun := ⟨2,
(.seq (reg [op 4 (.move (.const (sl 0 0 0 0)))])
(.seq (reg [op 7 (.move (.tmp 0)) 1,
  op 8 (call (.func 530) #[(.global 7)]) 1,
  op 5 (.move (.global 8))])
(.seq (.seq (reg [op 6 (.move (.const (I 0)))])
(.block 0
  (.loop
    (.seq (.seq (reg [op 9 (.move (.tmp 6)) 1,
      op 10 (.move (.tmp 1)) 1,
      op 11 (bi .len #[(.global 10)] 1) 1,
      op 12 (.binOp .lss 0 (.global 9) (.global 11) 0)])
    (.cond (.tmp 12)
      .skip
      (.exit 0)))
    (.seq (.block 1
      (reg [op 15 (.move (.tmp 5)) 1,
        op 16 (.move (.tmp 1)) 1,
        op 17 (.move (.tmp 6)) 1,
        op 18 (.indexAddr 3 (.global 16) (.global 17)) 1,
        op 19 (.load 0 (.global 18)) 1,
        op 20 (call (.func 534) #[(.global 15), (.global 19)]) 1]))
    (reg [op 13 (.move (.tmp 6)) 1,
      op 14 (.binOp .add 0 (.global 13) (.const (I 1)) 0) 1,
      op 6 (.move (.global 14))]))))))
(.seq (reg [op 21 (.move (.tmp 5)) 1,
  op 4 (.move (.global 21))])
.ret)))), [(4, 0)]⟩

/-- spec.l23Place -/
def fn533 : AFun := ⟨2,
(.seq (reg [op 4 (.move (.const (I 0)))])
(.seq (.seq (reg [op 5 (.move (.const (I 0)))])
(.block 0
  (.loop
    (.seq (.seq (reg [op 6 (.move (.tmp 5)) 1,
      op 7 (.move (.tmp 0)) 1,
      op 8 (bi .len #[(.global 7)] 1) 1,
      op 9 (.binOp .lss 0 (.global 6) (.global 8) 0)])
    (.cond (.tmp 9)
      .skip
      (.exit 0)))
    (.seq (.block 1
      (.seq (reg [op 12 (.move (.tmp 0)) 1,
        op 13 (.move (.tmp 5)) 1,
        op 14 (.indexAddr 3 (.global 12) (.global 13)) 1,
        op 15 (.load 0 (.global 14)) 1,
        op 16 (.move (.tmp 1)) 1,
        op 17 (.binOp .eql 0 (.global 15) (.global 16) 0)])
      (.cond (.tmp 17)
        (.seq (reg [op 18 (.move (.tmp 5)) 1,
          op 4 (.move (.global 18))])
        .ret)
        .skip)))
    (reg [op 10 (.move (.tmp 5)) 1,
      op 11 (.binOp .add 0 (.global 10) (.const (I 1)) 0) 1,
      op 5 (.move (.global 11))]))))))
(.seq (reg [op 4 (.move (.const (I (-1))))])
.ret))), [(4, 0)]⟩

/-- (*spec.l00Src).among -/
def fn4 : AFun := ⟨2,
(.seq (reg [op 4 (.move (.const (I 0)))])
(.seq (reg [op 5 (.move (.tmp 1)) 1,
  op 6 (.move (.tmp 0)) 1,
  op 7 (.move (.tmp 1)) 1,
  op 8 (bi .len #[(.global 7)] 1) 1,
  op 9 (call (.func 7) #[(.global 6), (.global 8)]) 1,
  op 10 (.indexAddr 3 (.global 5) (.global 9)) 1,
  op 11 (.load 0 (.global 10)) 1,
  op 4 (.move (.global 11))])
.ret)), [(4, 0)]⟩

/-- impl.decimals -/
def fn156 : AFun := ⟨2,
(.seq (reg [op 4 (.move (.const (S [])))])
(.seq (reg [op 8 (.move (.const (sl 0 0 0 1))) 1,
  op 5 (.move (.global 8))])
(.seq (.seq (reg [op 9 (.move (.tmp 0)),
  op 10 (bi .len #[(.tmp 9)] 1),
  op 11 (.move (.const (I 0)))])
(.block 0
  (.loop
    (.seq (reg [op 12 (.binOp .lss 0 (.tmp 11) (.tmp 10) 0)])
    (.seq (.cond (.tmp 12)
      .skip
      (.exit 0))
    (.seq (.block 1
      (.seq (reg [op 13 (.indexAddr 3 (.tmp 9) (.tmp 11)) 1,
        op 14 (.load 0 (.global 13)) 1,
        op 7 (.move (.global 14))])
      (reg [op 15 (.move (.tmp 5)) 1,
        op 16 (.move (.tmp 7)) 1,
        op 17 (call (.func 75) #[(.global 16)]) 1,
        op 18 (.buildSlice 1 1 #[(0, (.const (.agg #[(S [])]))), (1, (.global 17))]) 1,
        op 19 (bi .append #[(.global 15), (.global 18)] 1) 1,
        op 5 (.move (.global 19))])))
    (reg [op 20 (.binOp .add 0 (.tmp 11) (.const (I 1)) 0) 1,
      op 11 (.move (.global 20))])))))))
(.seq (reg [op 21 (.move (.tmp 5)) 1,
  op 22 (.move (.tmp 1)) 1,
  op 23 (call (.func 167) #[(.global 21), (.global 22)]) 1,
  op 4 (.move (.global 23))])
.ret)))), [(4, 0)]⟩

/-- spec.l01Dec -/
def fn437 : AFun := ⟨1,
(.seq (reg [op 2 (.move (.const (S [])))])
(.seq (reg [op 6 (.move (.const (sl 0 0 0 1))) 1,
  op 3 (.move (.global 6))])
(.seq (.seq (reg [op 7 (.move (.tmp 0)) 1,
  op 4 (.move (.global 7))])
(.block 0
  (.loop
    (.seq (.seq (reg [op 8 (.move (.tmp 4)) 1,
      op 9 (.binOp .neq 0 (.global 8) (.const (I 0)) 0)])
    (.cond (.tmp 9)
      .skip
      (.exit 0)))
    (.seq (.block 1
      (.seq (reg [op 12 (.move (.tmp 4)) 1,
        op 13 (.binOp .rem 0 (.global 12) (.const (I 10)) 0) 1,
        op 5 (.move (.global 13))])
      (.seq (.seq (reg [op 14 (.move (.tmp 5)) 1,
        op 15 (.binOp .lss 0 (.global 14) (.const (I 0)) 0)])
      (.cond (.tmp 15)
        (reg [op 16 (.move (.tmp 5)) 1,
          op 17 (.unOp .neg 0 (.global 16)) 1,
          op 5 (.move (.global 17))])
        .skip))
      (reg [op 18 (.move (.tmp 5)) 1,
        op 19 (.binOp .add 0 (.const (I 48)) (.global 18) 0) 1,
        op 20 (.convert 0 4 (.global 19)) 1,
        op 21 (.buildSlice 1 1 #[(0, (.const (.agg #[(U 0)]))), (1, (.global 20))]) 1,
        op 22 (.move (.tmp 3)) 1,
        op 23 (bi .append #[(.global 21), (.global 22)] 1) 1,
        op 3 (.move (.global 23))]))))
    (reg [op 10 (.move (.tmp 4)) 1,
      op 11 (.binOp .quo 0 (.global 10) (.const (I 10)) 0) 1,
      op 4 (.move (.global 11))]))))))
(.seq (.seq (reg [op 24 (.move (.tmp 3)) 1,
  op 25 (bi .len #[(.global 24)] 1) 1,
  op 26 (.binOp .eql 0 (.global 25) (.const (I 0)) 0)])
(.cond (.tmp 26)
  (.seq (reg [op 2 (.move (.const (S [48])))])
  .ret)
  .skip))
(.seq (.seq (reg [op 27 (.move (.tmp 0)) 1,
  op 28 (.binOp .lss 0 (.global 27) (.const (I 0)) 0)])
(.cond (.tmp 28)
  (.seq (reg [op 29 (.move (.tmp 3)) 1,
    op 30 (.convert 0 21 (.global 29)) 1,
    op 31 (.binOp .add 0 (.const (S [45])) (.global 30) 0) 1,
    op 2 (.move (.global 31))])
  .ret)
  .skip))
(.seq (reg [op 32 (.move (.tmp 3)) 1,
  op 33 (.convert 0 21 (.global 32)) 1,
  op 2 (.move (.global 33))])
.ret)))))), [(2, 0)]⟩

/-- impl.plait -/
def fn184 : AFun := ⟨3,
(.seq (reg [op 6 (.move (.const (sl 0 0 0 0)))])
(.seq (reg [op 13 (.move (.const (sl 0 0 0 1))) 1,
  op 7 (.move (.global 13))])
(.seq (.seq (reg [op 14 (.move (.tmp 0)),
  op 15 (.move (.const (I 0)))])
(.block 0
  (.loop
    (.seq (reg [op 16 (.binOp .lss 0 (.tmp 15) (.tmp 14) 0)])
    (.seq (.cond (.tmp 16)
      .skip
      (.exit 0))
    (.seq (.block 1
      (.seq (reg [op 17 (.move (.tmp 15)) 1,
        op 8 (.move (.global 17))])
      (reg [op 18 (.move (.tmp 7)) 1,
        op 19 (.move (.tmp 8)) 1,
        op 20 (.buildSlice 1 1 #[(0, (.const (.agg #[(I 0)]))), (1, (.global 19))]) 1,
        op 21 (bi .append #[(.global 18), (.global 20)] 1) 1,
        op 7 (.move (.global 21))])))
    (reg [op 22 (.binOp .add 0 (.tmp 15) (.const (I 1)) 0) 1,
      op 15 (.move (.global 22))])))))))
(.seq (.seq (reg [op 23 (.move (.tmp 1)),
  op 24 (bi .len #[(.tmp 23)] 1),
  op 25 (.move (.const (I 0)))])
(.block 2
  (.loop
    (.seq (reg [op 26 (.binOp .lss 0 (.tmp 25) (.tmp 24) 0)])
    (.seq (.cond (.tmp 26)
      .skip
      (.exit 2))
    (.seq (.block 3
      (.seq (reg [op 27 (.indexAddr 3 (.tmp 23) (.tmp 25)) 1,
        op 28 (.load 0 (.global 27)) 1,
        op 10 (.move (.global 28))])
      (.seq (reg [op 29 (.move (.tmp 10)) 1,
        op 30 (call (.func 185) #[(.global 29)]) 1,
        op 11 (.move (.global 30))])
      (.seq (reg [op 31 (.move (.tmp 7)) 1,
        op 32 (.move (.tmp 11)) 1,
        op 33 (.binOp .sub 0 (.global 32) (.const (I 1)) 0) 1,
        op 34 (.indexAddr 3 (.global 31) (.global 33)) 1,
        op 35 (.load 0 (.global 34)) 1,
        op 12 (.move (.global 35))])
      (.seq (.seq (reg [op 36 (.move (.tmp 10)) 1,
        op 37 (.binOp .lss 0 (.global 36) (.const (I 0)) 0)])
      (.cond (.tmp 37)
        (reg [op 38 (.move (.tmp 7)) 1,
          op 39 (.move (.tmp 11)) 1,
          op 40 (.indexAddr 3 (.global 38) (.global 39)) 1,
          op 41 (.load 0 (.global 40)) 1,
          op 12 (.move (.global 41))])
        .skip))
      (.seq (reg [op 42 (.move (.tmp 7)) 1,
        op 43 (.move (.tmp 11)) 1,
        op 44 (.binOp .sub 0 (.global 43) (.const (I 1)) 0) 1,
        op 45 (.move (.tmp 7)) 1,
        op 46 (.move (.tmp 11)) 1,
        op 47 (.move (.tmp 7)) 1,
        op 48 (.move (.tmp 11)) 1,
        op 49 (.indexAddr 3 (.global 47) (.global 48)) 1,
        op 50 (.load 0 (.global 49)) 1,
        op 51 (.move (.tmp 7)) 1,
        op 52 (.move (.tmp 11)) 1,
        op 53 (.binOp .sub 0 (.global 52) (.const (I 1)) 0) 1,
        op 54 (.indexAddr 3 (.global 51) (.global 53)) 1,
        op 55 (.load 0 (.global 54)) 1,
        op 56 (.indexAddr 3 (.global 42) (.global 44)) 1,
        opn (.store 1 (.global 56) (.global 50)),
        op 57 (.indexAddr 3 (.global 45) (.global 46)) 1,
        opn (.store 1 (.global 57) (.global 55))])
      (reg [op 58 (.move (.tmp 2)) 1,
        op 59 (.move (.tmp 7)) 1,
        op 60 (.move (.tmp 12)) 1,
        op 61 (call (.global 58) #[(.global 59), (.global 60)]) 1])))))))
    (reg [op 62 (.binOp .add 0 (.tmp 25) (.const (I 1)) 0) 1,
      op 25 (.move (.global 62))])))))))
(.seq (reg [op 63 (.move (.tmp 7)) 1,
  op 6 (.move (.global 63))])
.ret))))), [(6, 0)]⟩

/-- impl.OrderAfter$1 -/
def fn105 : AFun := ⟨2,
.skip, []⟩

/-- (*spec.l00Src).next -/
def fn5 : AFun := ⟨1,
(.seq (reg [op 2 (.move (.const (I 0)))])
(.seq (reg [op 3 (.move (.const (I 0)))])
(.seq (.seq (reg [op 4 (.move (.tmp 0)) 1,
  op 5 (.nilCheck (.global 4)) 1,
  op 6 (.fieldAddr 1 (.global 5) 0) 1,
  op 7 (.load 0 (.global 6)) 1,
  op 8 (.move (.tmp 0)) 1,
  op 9 (.nilCheck (.global 8)) 1,
  op 10 (.fieldAddr 0 (.global 9) 0) 1,
  op 11 (.load 0 (.global 10)) 1,
  op 12 (bi .len #[(.global 11)] 1) 1,
  op 13 (.binOp .lss 0 (.global 7) (.global 12) 0)])
(.cond (.tmp 13)
  (reg [op 14 (.move (.tmp 0)) 1,
    op 15 (.nilCheck (.global 14)) 1,
    op 16 (.fieldAddr 0 (.global 15) 0) 1,
    op 17 (.load 0 (.global 16)) 1,
    op 18 (.move (.tmp 0)) 1,
    op 19 (.nilCheck (.global 18)) 1,
    op 20 (.fieldAddr 1 (.global 19) 0) 1,
    op 21 (.load 0 (.global 20)) 1,
    op 22 (.indexAddr 3 (.global 17) (.global 21)) 1,
    op 23 (.load 0 (.global 22)) 1,
    op 24 (.convert 0 3 (.global 23)) 1,
    op 3 (.move (.global 24))])
  .skip))
(.seq (reg [op 25 (.move (.tmp 0)) 1,
  op 26 (.nilCheck (.global 25)) 1,
  op 27 (.fieldAddr 1 (.global 26) 0) 1,
  op 28 (.load 0 (.global 27)) 1,
  op 29 (.binOp .add 0 (.global 28) (.const (I 1)) 0) 1,
  op 30 (.nilCheck (.global 25)) 1,
  op 31 (.fieldAddr 1 (.global 30) 0) 1,
  opn (.store 1 (.global 31) (.global 29))])
(.seq (reg [op 32 (.move (.tmp 0)) 1,
  op 33 (.move (.tmp 0)) 1,
  op 34 (.nilCheck (.global 33)) 1,
  op 35 (.fieldAddr 2 (.global 34) 0) 1,
  op 36 (.load 0 (.global 35)) 1,
  op 37 (.binOp .mul 0 (.global 36) (.const (.int .u64 6364136223846793005)) 0) 1,
  op 38 (.move (.tmp 3)) 1,
  op 39 (.convert 0 7 (.global 38)) 1,
  op 40 (.binOp .add 0 (.global 37) (.global 39) 0) 1,
  op 41 (.binOp .add 0 (.global 40) (.const (.int .u64 1442695040888963407)) 0) 1,
  op 42 (.nilCheck (.global 32)) 1,
  op 43 (.fieldAddr 2 (.global 42) 0) 1,
  opn (.store 1 (.global 43) (.global 41))])
(.seq (.seq (reg [op 44 (.move (.tmp 0)) 1,
  op 45 (.nilCheck (.global 44)) 1,
  op 46 (.fieldAddr 1 (.global 45) 0) 1,
  op 47 (.load 0 (.global 46)) 1,
  op 48 (.move (.tmp 0)) 1,
  op 49 (.nilCheck (.global 48)) 1,
  op 50 (.fieldAddr 0 (.global 49) 0) 1,
  op 51 (.load 0 (.global 50)) 1,
  op 52 (bi .len #[(.global 51)] 1) 1,
  op 53 (.binOp .leq 0 (.global 47) (.global 52) 0)])
(.cond (.tmp 53)
  (.seq (reg [op 54 (.move (.tmp 3)) 1,
    op 2 (.move (.global 54))])
  .ret)
  .skip))
(.seq (reg [op 55 (.move (.tmp 0)) 1,
  op 56 (.nilCheck (.global 55)) 1,
  op 57 (.fieldAddr 2 (.global 56) 0) 1,
  op 58 (.load 0 (.global 57)) 1,
  op 59 (.binOp .shr 0 (.global 58) (.const (.int .u64 40)) 0) 1,
  op 60 (.binOp .and 0 (.global 59) (.const (.int .u64 255)) 0) 1,
  op 61 (.convert 0 3 (.global 60)) 1,
  op 2 (.move (.global 61))])
.ret))))))), [(2, 0)]⟩

/-- spec.l23Draw -/
def fn529 : AFun := ⟨1,
(.seq (reg [op 2 (.move (.const (I 0))),
  op 3 (.move (.const (sl 0 0 0 0)))])
(.seq (reg [op 9 (.move (.tmp 0)) 1,
  op 10 (call (.func 7) #[(.global 9), (.const (I 5))]) 1,
  op 11 (.binOp .add 0 (.const (I 2)) (.global 10) 0) 1,
  op 4 (.move (.global 11))])
(.seq (reg [op 12 (.move (.const (sl 0 0 0 1))) 1,
  op 5 (.move (.global 12))])
(.seq (.seq (reg [op 13 (.move (.tmp 0)) 1,
  op 14 (call (.func 7) #[(.global 13), (.const (I 14))]) 1,
  op 6 (.move (.global 14))])
(.block 0
  (.loop
    (.seq (.seq (reg [op 15 (.move (.tmp 6)) 1,
      op 16 (.binOp .gtr 0 (.global 15) (.const (I 0)) 0)])
    (.cond (.tmp 16)
      .skip
      (.exit 0)))
    (.seq (.block 1
      (.seq (reg [op 19 (.move (.tmp 0)) 1,
        op 20 (.move (.tmp 4)) 1,
        op 21 (.binOp .sub 0 (.global 20) (.const (I 1)) 0) 1,
        op 22 (call (.func 7) #[(.global 19), (.global 21)]) 1,
        op 23 (.binOp .add 0 (.const (I 1)) (.global 22) 0) 1,
        op 7 (.move (.global 23))])
      (.seq (.seq (reg [op 24 (.move (.tmp 0)) 1,
        op 25 (call (.func 6) #[(.global 24), (.const (I 2))])])
      (.cond (.tmp 25)
        (reg [op 26 (.move (.tmp 7)) 1,
          op 27 (.unOp .neg 0 (.global 26)) 1,
          op 7 (.move (.global 27))])
        .skip))
      (.seq (.seq (reg [op 28 (.move (.tmp 5)) 1,
        op 29 (bi .len #[(.global 28)] 1) 1,
        op 30 (.binOp .gtr 0 (.global 29) (.const (I 0)) 0) 1,
        op 31 (.move (.global 30)) 1,
        op 32 (.move (.tmp 0)) 1 (some (125, true)),
        op 33 (call (.func 6) #[(.global 32), (.const (I 4))]) 1 (some (125, true)),
        op 34 (.pick (.global 31) (.global 33) (.const (B false)))])
      (.cond (.tmp 34)
        (reg [op 35 (.move (.tmp 5)) 1,
          op 36 (.move (.tmp 5)) 1,
          op 37 (bi .len #[(.global 36)] 1) 1,
          op 38 (.binOp .sub 0 (.global 37) (.const (I 1)) 0) 1,
          op 39 (.indexAddr 3 (.global 35) (.global 38)) 1,
          op 40 (.load 0 (.global 39)) 1,
          op 41 (.unOp .neg 0 (.global 40)) 1,
          op 7 (.move (.global 41))])
        .skip))
      (reg [op 42 (.move (.tmp 5)) 1,
        op 43 (.move (.tmp 7)) 1,
        op 44 (.buildSlice 1 1 #[(0, (.const (.agg #[(I 0)]))), (1, (.global 43))]) 1,
        op 45 (bi .append #[(.global 42), (.global 44)] 1) 1,
        op 5 (.move (.global 45))])))))
    (reg [op 17 (.move (.tmp 6)) 1,
      op 18 (.binOp .sub 0 (.global 17) (.const (I 1)) 0) 1,
      op 6 (.move (.global 18))]))))))
(.seq (.seq (reg [op 46 (.move (.tmp 0)) 1,
  op 47 (call (.func 7) #[(.global 46), (.const (I 20))])])
(.block 2
  (.seq (reg [op 49 (.binOp .eql 0 (.tmp 47) (.const (I 0)) 0) 1,
    op 48 (.move (.global 49))])
  (.cond (.tmp 48)
    (reg [op 50 (.move (.tmp 0)) 1,
      op 51 (.buildSlice 1 4 #[(0, (.const (.agg #[(I 0), (I 0), (I 0), (I 0)]))), (1, (.const (I 0))), (1001, (.const (I 1))), (2001, (.const (I 12))), (3001, (.const (I 13)))]) 1,
      op 52 (call (.func 4) #[(.global 50), (.global 51)]) 1,
      op 4 (.move (.global 52))])
    (.seq (reg [op 54 (.binOp .eql 0 (.tmp 47) (.const (I 1)) 0) 1,
      op 53 (.move (.global 54))])
    (.cond (.tmp 53)
      (.seq (reg [op 55 (.move (.tmp 5)) 1,
        op 56 (bi .len #[(.global 55)] 1) 1,
        op 57 (.binOp .gtr 0 (.global 56) (.const (I 0)) 0)])
      (.cond (.tmp 57)
        (reg [op 58 (.move (.tmp 5)) 1,
          op 59 (.move (.tmp 0)) 1,
          op 60 (.move (.tmp 4)) 1,
          op 61 (.move (.tmp 4)) 1,
          op 62 (.unOp .neg 0 (.global 61)) 1,
          op 63 (.buildSlice 1 4 #[(0, (.const (.agg #[(I 0), (I 0), (I 0), (I 0)]))), (1, (.const (I 0))), (1001, (.global 60)), (2001, (.global 62)), (3001, (.const (I (-9223372036854775808))))]) 1,
          op 64 (call (.func 4) #[(.global 59), (.global 63)]) 1,
          op 65 (.indexAddr 3 (.global 58) (.const (I 0))) 1,
          opn (.store 1 (.global 65) (.global 64))])
        .skip))
      (.seq (reg [op 67 (.binOp .eql 0 (.tmp 47) (.const (I 2)) 0) 1,
        op 66 (.move (.global 67))])
      (.cond (.tmp 66)
        (.seq (reg [op 68 (.move (.const (sl 0 0 0 1))) 1,
          op 5 (.move (.global 68))])
        (.seq (reg [op 69 (.move (.tmp 0)) 1,
          op 70 (call (.func 7) #[(.global 69), (.const (I 2))]) 1,
          op 71 (.binOp .add 0 (.const (I 200)) (.global 70) 0) 1,
          op 8 (.move (.global 71))])
        (.block 3
          (.loop
            (.seq (.seq (reg [op 72 (.move (.tmp 8)) 1,
              op 73 (.binOp .gtr 0 (.global 72) (.const (I 0)) 0)])
            (.cond (.tmp 73)
              .skip
              (.exit 3)))
            (.seq (.block 4
              (reg [op 76 (.move (.tmp 5)) 1,
                op 77 (.buildSlice 1 1 #[(0, (.const (.agg #[(I 0)]))), (1, (.const (I 1)))]) 1,
                op 78 (bi .append #[(.global 76), (.global 77)] 1) 1,
                op 5 (.move (.global 78))]))
            (reg [op 74 (.move (.tmp 8)) 1,
              op 75 (.binOp .sub 0 (.global 74) (.const (I 1)) 0) 1,
              op 8 (.move (.global 75))])))))))
        .skip))))))))
(.seq (reg [op 79 (.move (.tmp 4)) 1,
  op 80 (.move (.tmp 5)) 1,
  op 2 (.move (.global 79)),
  op 3 (.move (.global 80))])
.ret)))))), [(2, 0), (3, 0)]⟩

/-- spec.l23First -/
def fn530 : AFun := ⟨1,
(.seq (reg [op 2 (.move (.const (sl 0 0 0 0)))])
(.seq (reg [op 5 (.move (.const (sl 0 0 0 1))) 1,
  op 3 (.move (.global 5))])
(.seq (.seq (reg [op 4 (.move (.const (I 0)))])
(.block 0
  (.loop
    (.seq (.seq (reg [op 6 (.move (.tmp 4)) 1,
      op 7 (.move (.tmp 0)) 1,
      op 8 (.binOp .lss 0 (.global 6) (.global 7) 0)])
    (.cond (.tmp 8)
      .skip
      (.exit 0)))
    (.seq (.block 1
      (reg [op 11 (.move (.tmp 3)) 1,
        op 12 (.move (.tmp 4)) 1,
        op 13 (.buildSlice 1 1 #[(0, (.const (.agg #[(I 0)]))), (1, (.global 12))]) 1,
        op 14 (bi .append #[(.global 11), (.global 13)] 1) 1,
        op 3 (.move (.global 14))]))
    (reg [op 9 (.move (.tmp 4)) 1,
      op 10 (.binOp .add 0 (.global 9) (.const (I 1)) 0) 1,
      op 4 (.move (.global 10))]))))))
(.seq (reg [op 15 (.move (.tmp 3)) 1,
  op 2 (.move (.global 15))])
.ret)))), [(2, 0)]⟩

/-- spec.l23Swap -/
def fn534 : AFun := ⟨2,
(.seq (reg [op 6 (.move (.tmp 1)) 1,
  op 7 (call (.func 512) #[(.global 6)]) 1,
  op 4 (.move (.global 7))])
(.seq (reg [op 8 (.move (.tmp 0)) 1,
  op 9 (.move (.tmp 4)) 1,
  op 10 (.binOp .sub 0 (.global 9) (.const (I 1)) 0) 1,
  op 11 (.indexAddr 3 (.global 8) (.global 10)) 1,
  op 12 (.load 0 (.global 11)) 1,
  op 5 (.move (.global 12))])
(.seq (reg [op 13 (.move (.tmp 0)) 1,
  op 14 (.move (.tmp 4)) 1,
  op 15 (.binOp .sub 0 (.global 14) (.const (I 1)) 0) 1,
  op 16 (.move (.tmp 0)) 1,
  op 17 (.move (.tmp 4)) 1,
  op 18 (.indexAddr 3 (.global 16) (.global 17)) 1,
  op 19 (.load 0 (.global 18)) 1,
  op 20 (.indexAddr 3 (.global 13) (.global 15)) 1,
  opn (.store 1 (.global 20) (.global 19))])
(reg [op 21 (.move (.tmp 0)) 1,
  op 22 (.move (.tmp 4)) 1,
  op 23 (.move (.tmp 5)) 1,
  op 24 (.indexAddr 3 (.global 21) (.global 22)) 1,
  opn (.store 1 (.global 24) (.global 23))])))), []⟩

def tab : Tab := [(255, fn255), (269, fn269), (271, fn271), (372, fn372), (125, fn125), (416, fn416), (351, fn351), (66, fn66), (335, fn335), (366, fn366), (115, fn115), (407, fn407), (367, fn367), (116, fn116), (408, fn408), (376, fn376), (272, fn272), (274, fn274), (143, fn143), (429, fn429), (104, fn104), (431, fn431), (7, fn7), (6, fn6), (164, fn164), (432, fn432), (75, fn75), (167, fn167), (528, fn528), (142, fn142), (185, fn185), (531, fn531), (512, fn512), (433, fn433), (316, fn316), (532, fn532), (533, fn533), (4, fn4), (156, fn156), (437, fn437), (184, fn184), (105, fn105), (5, fn5), (529, fn529), (530, fn530), (534, fn534)]
def Gam : Nat → Option AFun := look tab
theorem g255 : Gam 255 = some fn255 := rfl
theorem g269 : Gam 269 = some fn269 := rfl
theorem g271 : Gam 271 = some fn271 := rfl
theorem g372 : Gam 372 = some fn372 := rfl
theorem g125 : Gam 125 = some fn125 := rfl
theorem g416 : Gam 416 = some fn416 := rfl
theorem g351 : Gam 351 = some fn351 := rfl
theorem g66 : Gam 66 = some fn66 := rfl
theorem g335 : Gam 335 = some fn335 := rfl
theorem g366 : Gam 366 = some fn366 := rfl
theorem g115 : Gam 115 = some fn115 := rfl
theorem g407 : Gam 407 = some fn407 := rfl
theorem g367 : Gam 367 = some fn367 := rfl
theorem g116 : Gam 116 = some fn116 := rfl
theorem g408 : Gam 408 = some fn408 := rfl
theorem g376 : Gam 376 = some fn376 := rfl
theorem g272 : Gam 272 = some fn272 := rfl
theorem g274 : Gam 274 = some fn274 := rfl
theorem g143 : Gam 143 = some fn143 := rfl
theorem g429 : Gam 429 = some fn429 := rfl
theorem g104 : Gam 104 = some fn104 := rfl
theorem g431 : Gam 431 = some fn431 := rfl
theorem g7 : Gam 7 = some fn7 := rfl
theorem g6 : Gam 6 = some fn6 := rfl
theorem g164 : Gam 164 = some fn164 := rfl
theorem g432 : Gam 432 = some fn432 := rfl
theorem g75 : Gam 75 = some fn75 := rfl
theorem g167 : Gam 167 = some fn167 := rfl
theorem g528 : Gam 528 = some fn528 := rfl
theorem g142 : Gam 142 = some fn142 := rfl
theorem g185 : Gam 185 = some fn185 := rfl
theorem g531 : Gam 531 = some fn531 := rfl
theorem g512 : Gam 512 = some fn512 := rfl
theorem g433 : Gam 433 = some fn433 := rfl
theorem g316 : Gam 316 = some fn316 := rfl
theorem g532 : Gam 532 = some fn532 := rfl
theorem g533 : Gam 533 = some fn533 := rfl
theorem g4 : Gam 4 = some fn4 := rfl
theorem g156 : Gam 156 = some fn156 := rfl
theorem g437 : Gam 437 = some fn437 := rfl
theorem g184 : Gam 184 = some fn184 := rfl
theorem g105 : Gam 105 = some fn105 := rfl
theorem g5 : Gam 5 = some fn5 := rfl
theorem g529 : Gam 529 = some fn529 := rfl
theorem g530 : Gam 530 = some fn530 := rfl
theorem g534 : Gam 534 = some fn534 := rfl
end Am
