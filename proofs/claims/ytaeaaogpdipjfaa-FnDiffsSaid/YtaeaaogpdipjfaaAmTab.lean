/- The functions that are reached, in their normal form; written by a program. -/
import Derived.Test.YtaeaaogpdipjfaaAmRules
set_option linter.unusedVariables false
set_option maxRecDepth 100000
namespace Am
open Go
/-- laws.FnDiffs -/
def fn204 : AFun := ⟨1,
(.seq (reg [op 2 (.move (.const (B false)))])
(.seq (.seq (reg [op 30 (.move (.tmp 0)) 1,
  op 31 (call (.func 269) #[(.global 30)])])
(.cond (.tmp 31)
  (.seq (reg [op 2 (.move (.const (B true)))])
  .ret)
  .skip))
(.seq (reg [op 33 (.move (.tmp 0)) 1,
  op 34 (call (.func 352) #[(.global 33)]) 1,
  op 32 (.move (.global 34)) 1,
  op 35 (.extract (.global 32) 0) 1,
  op 36 (.extract (.global 32) 1) 1,
  op 3 (.move (.const (.agg #[(I 0), (I 0), (sl 0 0 0 0)]))),
  op 4 (.move (.const (.agg #[(I 0), (I 0), (sl 0 0 0 0)]))),
  op 3 (.insert 3 (.tmp 3) (.tmp 3) (.global 35)),
  op 4 (.insert 3 (.tmp 4) (.tmp 4) (.global 36))])
(.seq (reg [op 38 (.lookup 4 (.tmp 3) (.tmp 3) false) 1,
  op 39 (.lookup 4 (.tmp 4) (.tmp 4) false) 1,
  op 40 (call (.func 79) #[(.global 38), (.global 39)]) 1,
  op 37 (.move (.global 40)) 1,
  op 41 (.extract (.global 37) 0) 1,
  op 42 (.extract (.global 37) 1) 1,
  op 5 (.move (.global 41)),
  op 6 (.move (.global 42))])
(.seq (reg [op 44 (.lookup 4 (.tmp 3) (.tmp 3) false) 1,
  op 45 (.lookup 4 (.tmp 4) (.tmp 4) false) 1,
  op 46 (call (.func 346) #[(.global 44), (.global 45)]) 1,
  op 43 (.move (.global 46)) 1,
  op 47 (.extract (.global 43) 0) 1,
  op 48 (.extract (.global 43) 1) 1,
  op 7 (.move (.global 47)),
  op 8 (.move (.global 48))])
(.seq (reg [op 50 (.move (.tmp 0)) 1,
  op 51 (call (.func 350) #[(.global 50)]) 1,
  op 49 (.move (.global 51)) 1,
  op 52 (.extract (.global 49) 0) 1,
  op 53 (.extract (.global 49) 1) 1,
  op 9 (.move (.const (.agg #[(I 0), (I 0), (sl 0 0 0 0)]))),
  op 9 (.insert 3 (.tmp 9) (.tmp 9) (.global 52)),
  op 10 (.move (.global 53))])
(.seq (reg [op 55 (.lookup 4 (.tmp 9) (.tmp 9) false) 1,
  op 56 (.move (.tmp 10)) 1,
  op 57 (call (.func 62) #[(.global 55), (.global 56)]) 1,
  op 54 (.move (.global 57)) 1,
  op 58 (.extract (.global 54) 0) 1,
  op 59 (.extract (.global 54) 1) 1,
  op 11 (.move (.const (.agg #[(I 0), (I 0), (sl 0 0 0 0)]))),
  op 11 (.insert 3 (.tmp 11) (.tmp 11) (.global 58)),
  op 12 (.move (.global 59))])
(.seq (reg [op 61 (.lookup 4 (.tmp 9) (.tmp 9) false) 1,
  op 62 (.move (.tmp 10)) 1,
  op 63 (call (.func 331) #[(.global 61), (.global 62)]) 1,
  op 60 (.move (.global 63)) 1,
  op 64 (.extract (.global 60) 0) 1,
  op 65 (.extract (.global 60) 1) 1,
  op 13 (.move (.const (.agg #[(I 0), (I 0), (sl 0 0 0 0)]))),
  op 13 (.insert 3 (.tmp 13) (.tmp 13) (.global 64)),
  op 14 (.move (.global 65))])
(.seq (reg [op 66 (.move (.tmp 0)) 1,
  op 67 (call (.func 353) #[(.global 66)]) 1,
  op 15 (.move (.global 67))])
(.seq (reg [op 68 (.move (.tmp 15)) 1,
  op 69 (call (.func 80) #[(.global 68)]) 1,
  op 16 (.move (.global 69))])
(.seq (reg [op 71 (.move (.tmp 16)) 1,
  op 72 (call (.func 119) #[(.global 71)]) 1,
  op 70 (.move (.global 72)) 1,
  op 73 (.extract (.global 70) 0) 1,
  op 74 (.extract (.global 70) 1) 1,
  op 17 (.move (.global 73)),
  op 18 (.move (.global 74))])
(.seq (reg [op 75 (.move (.tmp 0)) 1,
  op 76 (call (.func 368) #[(.global 75)]) 1,
  op 19 (.move (.global 76))])
(.seq (reg [op 78 (.move (.tmp 19)) 1,
  op 79 (call (.func 119) #[(.global 78)]) 1,
  op 77 (.move (.global 79)) 1,
  op 80 (.extract (.global 77) 0) 1,
  op 81 (.extract (.global 77) 1) 1,
  op 20 (.move (.global 80)),
  op 21 (.move (.global 81))])
(.seq (reg [op 83 (.move (.tmp 19)) 1,
  op 84 (call (.func 410) #[(.global 83)]) 1,
  op 82 (.move (.global 84)) 1,
  op 85 (.extract (.global 82) 0) 1,
  op 86 (.extract (.global 82) 1) 1,
  op 22 (.move (.global 85)),
  op 23 (.move (.global 86))])
(.seq (.seq (reg [op 87 (.move (.tmp 6)) 1,
  op 88 (.move (.tmp 8)) 1,
  op 89 (.binOp .neq 0 (.global 87) (.global 88) 0) 1,
  op 90 (.move (.global 89)) 1,
  op 91 (.move (.tmp 5)) 1 (some (361, false)),
  op 92 (.move (.tmp 7)) 1 (some (361, false)),
  op 93 (call (.func 270) #[(.global 91), (.global 92)]) 1 (some (361, false)),
  op 94 (.unOp .not 0 (.global 93)) 1 (some (361, false)),
  op 95 (.pick (.global 90) (.const (B true)) (.global 94)) 1,
  op 96 (.move (.global 95)) 1,
  op 97 (.move (.tmp 12)) 1 (some (385, false)),
  op 98 (.move (.tmp 14)) 1 (some (385, false)),
  op 99 (.binOp .neq 0 (.global 97) (.global 98) 0) 1 (some (385, false)),
  op 100 (.pick (.global 96) (.const (B true)) (.global 99)) 1,
  op 101 (.move (.global 100)) 1,
  op 102 (.lookup 4 (.tmp 11) (.tmp 11) false) 1 (some (405, false)),
  op 103 (.lookup 4 (.tmp 13) (.tmp 13) false) 1 (some (405, false)),
  op 104 (call (.func 420) #[(.global 102), (.global 103)]) 1 (some (405, false)),
  op 105 (.unOp .not 0 (.global 104)) 1 (some (405, false)),
  op 106 (.pick (.global 101) (.const (B true)) (.global 105)) 1,
  op 107 (.move (.global 106)) 1,
  op 108 (.move (.tmp 16)) 1 (some (429, false)),
  op 109 (.move (.tmp 15)) 1 (some (429, false)),
  op 110 (call (.func 347) #[(.global 109)]) 1 (some (429, false)),
  op 111 (.binOp .neq 0 (.global 108) (.global 110) 0) 1 (some (429, false)),
  op 112 (.pick (.global 107) (.const (B true)) (.global 111)) 1,
  op 113 (.move (.global 112)) 1,
  op 114 (.move (.tmp 16)) 1 (some (453, false)),
  op 115 (.binOp .neq 0 (.global 114) (.const (S [])) 0) 1 (some (453, false)),
  op 116 (.move (.global 115)) 1 (some (455, false)),
  op 117 (.move (.tmp 18)) 1 (some (465, true)),
  op 118 (.unOp .not 0 (.global 117)) 1 (some (465, true)),
  op 119 (.move (.global 118)) 1 (some (467, true)),
  op 120 (.move (.tmp 17)) 1 (some (477, false)),
  op 121 (.move (.tmp 15)) 1 (some (477, false)),
  op 122 (call (.func 270) #[(.global 120), (.global 121)]) 1 (some (477, false)),
  op 123 (.unOp .not 0 (.global 122)) 1 (some (477, false)),
  op 124 (.pick (.global 119) (.const (B true)) (.global 123)) 1 (some (465, true)),
  op 125 (.pick (.global 116) (.global 124) (.const (B false))) 1 (some (453, false)),
  op 126 (.pick (.global 113) (.const (B true)) (.global 125)) 1,
  op 127 (.move (.global 126)) 1,
  op 128 (.move (.tmp 21)) 1 (some (509, false)),
  op 129 (.move (.tmp 23)) 1 (some (509, false)),
  op 130 (.binOp .neq 1 (.global 128) (.global 129) 0) 1 (some (509, false)),
  op 131 (.pick (.global 127) (.const (B true)) (.global 130)) 1,
  op 132 (.move (.global 131)) 1,
  op 133 (.move (.tmp 20)) 1 (some (529, false)),
  op 134 (.move (.tmp 22)) 1 (some (529, false)),
  op 135 (call (.func 270) #[(.global 133), (.global 134)]) 1 (some (529, false)),
  op 136 (.unOp .not 0 (.global 135)) 1 (some (529, false)),
  op 137 (.pick (.global 132) (.const (B true)) (.global 136)) 1,
  op 138 (.move (.global 137)) 1,
  op 139 (.move (.tmp 15)) 1 (some (553, false)),
  op 140 (call (.func 89) #[(.global 139)]) 1 (some (553, false)),
  op 141 (.move (.tmp 15)) 1 (some (553, false)),
  op 142 (call (.func 382) #[(.global 141)]) 1 (some (553, false)),
  op 143 (call (.func 270) #[(.global 140), (.global 142)]) 1 (some (553, false)),
  op 144 (.unOp .not 0 (.global 143)) 1 (some (553, false)),
  op 145 (.pick (.global 138) (.const (B true)) (.global 144))])
(.cond (.tmp 145)
  (.seq (reg [op 2 (.move (.const (B false)))])
  .ret)
  .skip))
(.seq (.seq (reg [op 146 (.move (.tmp 12)) 1,
  op 147 (.binOp .eql 0 (.global 146) (.const (I 0)) 0)])
(.cond (.tmp 147)
  (.seq (reg [op 149 (.lookup 4 (.tmp 11) (.tmp 11) false) 1,
    op 150 (.move (.tmp 10)) 1,
    op 151 (call (.func 89) #[(.global 150)]) 1,
    op 152 (call (.func 62) #[(.global 149), (.global 151)]) 1,
    op 148 (.move (.global 152)) 1,
    op 153 (.extract (.global 148) 0) 1,
    op 154 (.extract (.global 148) 1) 1,
    op 24 (.move (.const (.agg #[(I 0), (I 0), (sl 0 0 0 0)]))),
    op 24 (.insert 3 (.tmp 24) (.tmp 24) (.global 153)),
    op 25 (.move (.global 154))])
  (.seq (reg [op 155 (.move (.tmp 25)) 1,
    op 156 (.binOp .neq 0 (.global 155) (.const (I 0)) 0) 1,
    op 157 (.move (.global 156)) 1,
    op 158 (.lookup 4 (.tmp 24) (.tmp 24) false) 1 (some (629, false)),
    op 159 (.lookup 4 (.tmp 9) (.tmp 9) false) 1 (some (629, false)),
    op 160 (call (.func 420) #[(.global 158), (.global 159)]) 1 (some (629, false)),
    op 161 (.unOp .not 0 (.global 160)) 1 (some (629, false)),
    op 162 (.pick (.global 157) (.const (B true)) (.global 161))])
  (.cond (.tmp 162)
    (.seq (reg [op 2 (.move (.const (B false)))])
    .ret)
    .skip)))
  .skip))
(.seq (.seq (reg [op 163 (.move (.tmp 6)) 1,
  op 164 (.binOp .neq 0 (.global 163) (.const (I 0)) 0)])
(.cond (.tmp 164)
  (.seq (reg [op 2 (.move (.const (B true)))])
  .ret)
  .skip))
(.seq (reg [op 166 (.lookup 4 (.tmp 3) (.tmp 3) false) 1,
  op 167 (.move (.tmp 5)) 1,
  op 168 (call (.func 62) #[(.global 166), (.global 167)]) 1,
  op 165 (.move (.global 168)) 1,
  op 169 (.extract (.global 165) 0) 1,
  op 170 (.extract (.global 165) 1) 1,
  op 26 (.move (.const (.agg #[(I 0), (I 0), (sl 0 0 0 0)]))),
  op 26 (.insert 3 (.tmp 26) (.tmp 26) (.global 169)),
  op 27 (.move (.global 170))])
(.seq (reg [op 172 (.lookup 4 (.tmp 3) (.tmp 3) false) 1,
  op 173 (.lookup 4 (.tmp 4) (.tmp 4) false) 1,
  op 174 (call (.func 81) #[(.global 172), (.global 173)]) 1,
  op 171 (.move (.global 174)) 1,
  op 175 (.extract (.global 171) 0) 1,
  op 176 (.extract (.global 171) 1) 1,
  op 28 (.move (.global 175)),
  op 29 (.move (.global 176))])
(.seq (reg [op 177 (.move (.tmp 27)) 1,
  op 178 (.binOp .eql 0 (.global 177) (.const (I 0)) 0) 1,
  op 179 (.move (.global 178)) 1,
  op 180 (.lookup 4 (.tmp 26) (.tmp 26) false) 1 (some (717, true)),
  op 181 (.lookup 4 (.tmp 4) (.tmp 4) false) 1 (some (717, true)),
  op 182 (call (.func 420) #[(.global 180), (.global 181)]) 1 (some (717, true)),
  op 183 (.pick (.global 179) (.global 182) (.const (B false))) 1,
  op 184 (.move (.global 183)) 1,
  op 185 (.move (.tmp 29)) 1 (some (737, true)),
  op 186 (.binOp .eql 0 (.global 185) (.const (I 0)) 0) 1 (some (737, true)),
  op 187 (.pick (.global 184) (.global 186) (.const (B false))) 1,
  op 188 (.move (.global 187)) 1,
  op 189 (.move (.tmp 28)) 1 (some (753, true)),
  op 190 (.move (.tmp 5)) 1 (some (753, true)),
  op 191 (bi .len #[(.global 190)] 1) 1 (some (753, true)),
  op 192 (.binOp .eql 0 (.global 189) (.global 191) 0) 1 (some (753, true)),
  op 193 (.pick (.global 188) (.global 192) (.const (B false))) 1,
  op 2 (.move (.global 193))])
.ret)))))))))))))))))))), [(2, 0)]⟩

/-- laws.f6big -/
def fn269 : AFun := ⟨1,
(.seq (reg [op 2 (.move (.const (B false)))])
(.seq (reg [op 3 (.move (.tmp 0)) 1,
  op 4 (bi .len #[(.global 3)] 1) 1,
  op 5 (.binOp .gtr 0 (.global 4) (.const (I 4096)) 0) 1,
  op 2 (.move (.global 5))])
.ret)), [(2, 0)]⟩

/-- spec.SamePanel -/
def fn420 : AFun := ⟨2,
(.seq (reg [op 2 (.box 3 (.tmp 0)),
  op 3 (.box 3 (.tmp 1)),
  op 4 (.move (.const (B false)))])
(.seq (reg [op 5 (call (.func 456) #[(.tmp 2), (.tmp 3)]) 1,
  op 4 (.move (.global 5))])
.ret)), [(4, 0)]⟩

/-- spec.DrawDiffPanels -/
def fn352 : AFun := ⟨1,
(.seq (reg [op 2 (.move (.const (.agg #[(I 0), (I 0), (sl 0 0 0 0)]))),
  op 3 (.move (.const (.agg #[(I 0), (I 0), (sl 0 0 0 0)])))])
(.seq (reg [op 6 (.move (.tmp 0)) 1,
  op 7 (call (.func 431) #[(.global 6)]) 1,
  op 4 (.move (.global 7))])
(.seq (reg [op 8 (.move (.tmp 4)) 1,
  op 9 (call (.func 443) #[(.global 8)]) 1,
  op 5 (.box 3 (.const (.agg #[(I 0), (I 0), (sl 0 0 0 0)]))),
  opn (.store 3 (.tmp 5) (.global 9))])
(.seq (.seq (reg [op 10 (.move (.tmp 4)) 1,
  op 11 (call (.func 6) #[(.global 10), (.const (I 5))])])
(.cond (.tmp 11)
  (.seq (reg [op 12 (.load 4 (.tmp 5)) 1,
    op 13 (.move (.tmp 4)) 1,
    op 14 (call (.func 443) #[(.global 13)]) 45,
    op 2 (.insert 3 (.tmp 2) (.tmp 2) (.global 12)),
    op 3 (.insert 3 (.tmp 3) (.tmp 3) (.global 14))])
  .ret)
  .skip))
(.seq (reg [op 15 (.load 4 (.tmp 5)) 1,
  op 16 (.move (.tmp 4)) 1,
  op 17 (call (.func 555) #[(.global 16), (.tmp 5)]) 45,
  op 2 (.insert 3 (.tmp 2) (.tmp 2) (.global 15)),
  op 3 (.insert 3 (.tmp 3) (.tmp 3) (.global 17))])
.ret))))), [(2, 1000004), (3, 1000004)]⟩

/-- impl.DiffPanels -/
def fn79 : AFun := ⟨2,
(.seq (reg [op 2 (.makeChan 3 (.tmp 0)),
  op 3 (.makeChan 3 (.tmp 1)),
  op 4 (.move (.const (sl 0 0 0 0))),
  op 5 (.move (.const (I 0)))])
(.seq (.seq (reg [op 9 (.lookup 4 (.tmp 2) (.tmp 2) false) 1,
  op 10 (call (.func 140) #[(.global 9)]) 1,
  op 11 (.unOp .not 0 (.global 10)) 1,
  op 12 (.move (.global 11)) 1,
  op 13 (.lookup 4 (.tmp 3) (.tmp 3) false) 1 (some (49, false)),
  op 14 (call (.func 140) #[(.global 13)]) 1 (some (49, false)),
  op 15 (.unOp .not 0 (.global 14)) 1 (some (49, false)),
  op 16 (.pick (.global 12) (.const (B true)) (.global 15))])
(.cond (.tmp 16)
  (.seq (reg [op 4 (.move (.const (sl 0 0 0 0))),
    op 5 (.move (.const (I 1)))])
  .ret)
  .skip))
(.seq (.seq (reg [op 17 (.lookup 4 (.tmp 2) (.tmp 2) false) 1,
  op 18 (.lookup 4 (.tmp 3) (.tmp 3) false) 1,
  op 19 (call (.func 186) #[(.global 17), (.global 18)]) 1,
  op 20 (.unOp .not 0 (.global 19))])
(.cond (.tmp 20)
  (.seq (reg [op 4 (.move (.const (sl 0 0 0 0))),
    op 5 (.move (.const (I 6)))])
  .ret)
  .skip))
(.seq (reg [op 21 (.move (.const (sl 0 0 0 3))) 1,
  op 6 (.move (.global 21))])
(.seq (.seq (reg [op 22 (.fieldAddr 2 (.tmp 2) 1) 1,
  op 23 (.lookup 0 (.tmp 2) (.global 22) false),
  op 24 (bi .len #[(.tmp 23)] 1),
  op 25 (.move (.const (I 0)))])
(.block 0
  (.loop
    (.seq (reg [op 26 (.binOp .lss 0 (.tmp 25) (.tmp 24) 0)])
    (.seq (.cond (.tmp 26)
      .skip
      (.exit 0))
    (.seq (.block 1
      (.seq (reg [op 27 (.move (.tmp 25)) 1,
        op 28 (.indexAddr 3 (.tmp 23) (.tmp 25)) 1,
        op 29 (.load 0 (.global 28)) 1,
        op 7 (.move (.global 27)),
        op 8 (.move (.global 29))])
      (.seq (reg [op 30 (.move (.tmp 8)) 1,
        op 31 (.fieldAddr 2 (.tmp 3) 1) 1,
        op 32 (.lookup 0 (.tmp 3) (.global 31) false) 1,
        op 33 (.move (.tmp 7)) 1,
        op 34 (.indexAddr 3 (.global 32) (.global 33)) 1,
        op 35 (.load 0 (.global 34)) 1,
        op 36 (.binOp .neq 0 (.global 30) (.global 35) 0)])
      (.cond (.tmp 36)
        (reg [op 37 (.move (.tmp 6)) 1,
          op 38 (.move (.tmp 7)) 1,
          op 39 (.move (.tmp 8)) 1,
          op 40 (.fieldAddr 2 (.tmp 3) 1) 1,
          op 41 (.lookup 0 (.tmp 3) (.global 40) false) 1,
          op 42 (.move (.tmp 7)) 1,
          op 43 (.indexAddr 3 (.global 41) (.global 42)) 1,
          op 44 (.load 0 (.global 43)) 1,
          op 45 (.build 0 #[(0, (.const (.agg #[(I 0), (I 0), (I 0)]))), (1, (.global 38)), (1001, (.global 39)), (2001, (.global 44))]) 1,
          op 46 (.buildSlice 3 1 #[(0, (.const (.agg #[(I 0), (I 0), (I 0)]))), (3, (.global 45))]) 1,
          op 47 (bi .append #[(.global 37), (.global 46)] 3) 1,
          op 6 (.move (.global 47))])
        .skip))))
    (reg [op 48 (.binOp .add 0 (.tmp 25) (.const (I 1)) 0) 1,
      op 25 (.move (.global 48))])))))))
(.seq (reg [op 49 (.move (.tmp 6)) 1,
  op 4 (.move (.global 49)),
  op 5 (.move (.const (I 0)))])
.ret)))))), [(4, 0), (5, 0)]⟩

/-- spec.DiffPanels -/
def fn346 : AFun := ⟨2,
(.seq (reg [op 2 (.box 3 (.tmp 0)),
  op 3 (.box 3 (.tmp 1)),
  op 4 (.move (.const (sl 0 0 0 0))),
  op 5 (.move (.const (I 0)))])
(.seq (reg [op 9 (.buildSlice 1 2 #[(0, (.const (.agg #[(.pointer none), (.pointer none)]))), (1, (.tmp 2)), (1001, (.tmp 3))]) 1,
  op 10 (call (.func 552) #[(.global 9)]) 1,
  op 6 (.move (.global 10))])
(.seq (.seq (reg [op 11 (.move (.tmp 6)) 1,
  op 12 (.binOp .neq 0 (.global 11) (.const (I 0)) 0)])
(.cond (.tmp 12)
  (.seq (reg [op 13 (.move (.tmp 6)) 1,
    op 4 (.move (.const (sl 0 0 0 0))),
    op 5 (.move (.global 13))])
  .ret)
  .skip))
(.seq (reg [op 14 (.move (.const (sl 0 0 0 3))) 1,
  op 7 (.move (.global 14))])
(.seq (.seq (reg [op 8 (.move (.const (I 0)))])
(.block 0
  (.loop
    (.seq (.seq (reg [op 15 (.move (.tmp 8)) 1,
      op 16 (.fieldAddr 2 (.tmp 2) 0) 1,
      op 17 (.load 0 (.global 16)) 1,
      op 18 (bi .len #[(.global 17)] 1) 1,
      op 19 (.binOp .lss 0 (.global 15) (.global 18) 0)])
    (.cond (.tmp 19)
      .skip
      (.exit 0)))
    (.seq (.block 1
      (.seq (reg [op 22 (.fieldAddr 2 (.tmp 2) 0) 1,
        op 23 (.load 0 (.global 22)) 1,
        op 24 (.move (.tmp 8)) 1,
        op 25 (.indexAddr 3 (.global 23) (.global 24)) 1,
        op 26 (.load 0 (.global 25)) 1,
        op 27 (.fieldAddr 2 (.tmp 3) 0) 1,
        op 28 (.load 0 (.global 27)) 1,
        op 29 (.move (.tmp 8)) 1,
        op 30 (.indexAddr 3 (.global 28) (.global 29)) 1,
        op 31 (.load 0 (.global 30)) 1,
        op 32 (.binOp .neq 0 (.global 26) (.global 31) 0)])
      (.cond (.tmp 32)
        (reg [op 33 (.move (.tmp 7)) 1,
          op 34 (.move (.tmp 8)) 1,
          op 35 (.fieldAddr 2 (.tmp 2) 0) 1,
          op 36 (.load 0 (.global 35)) 1,
          op 37 (.move (.tmp 8)) 1,
          op 38 (.indexAddr 3 (.global 36) (.global 37)) 1,
          op 39 (.load 0 (.global 38)) 1,
          op 40 (.fieldAddr 2 (.tmp 3) 0) 1,
          op 41 (.load 0 (.global 40)) 1,
          op 42 (.move (.tmp 8)) 1,
          op 43 (.indexAddr 3 (.global 41) (.global 42)) 1,
          op 44 (.load 0 (.global 43)) 1,
          op 45 (.build 0 #[(0, (.const (.agg #[(I 0), (I 0), (I 0)]))), (1, (.global 34)), (1001, (.global 39)), (2001, (.global 44))]) 1,
          op 46 (.buildSlice 3 1 #[(0, (.const (.agg #[(I 0), (I 0), (I 0)]))), (3, (.global 45))]) 1,
          op 47 (bi .append #[(.global 33), (.global 46)] 3) 1,
          op 7 (.move (.global 47))])
        .skip)))
    (reg [op 20 (.move (.tmp 8)) 1,
      op 21 (.binOp .add 0 (.global 20) (.const (I 1)) 0) 1,
      op 8 (.move (.global 21))]))))))
(.seq (reg [op 48 (.move (.tmp 7)) 1,
  op 4 (.move (.global 48)),
  op 5 (.move (.const (I 0)))])
.ret)))))), [(4, 0), (5, 0)]⟩

/-- spec.DrawApplyDiff -/
def fn350 : AFun := ⟨1,
(.seq (reg [op 2 (.move (.const (.agg #[(I 0), (I 0), (sl 0 0 0 0)]))),
  op 3 (.move (.const (sl 0 0 0 0)))])
(.seq (reg [op 6 (.move (.tmp 0)) 1,
  op 7 (call (.func 431) #[(.global 6)]) 1,
  op 4 (.move (.global 7))])
(.seq (reg [op 8 (.move (.tmp 4)) 1,
  op 9 (call (.func 443) #[(.global 8)]) 1,
  op 5 (.box 3 (.const (.agg #[(I 0), (I 0), (sl 0 0 0 0)]))),
  opn (.store 3 (.tmp 5) (.global 9))])
(.seq (reg [op 10 (.load 4 (.tmp 5)) 1,
  op 11 (.move (.tmp 4)) 1,
  op 12 (call (.func 547) #[(.global 11), (.tmp 5)]) 45,
  op 2 (.insert 3 (.tmp 2) (.tmp 2) (.global 10)),
  op 3 (.move (.global 12))])
.ret)))), [(2, 1000004), (3, 0)]⟩

/-- impl.ApplyDiff -/
def fn62 : AFun := ⟨2,
(.seq (reg [op 2 (.makeChan 3 (.tmp 0)),
  op 4 (.move (.const (.agg #[(I 0), (I 0), (sl 0 0 0 0)]))),
  op 5 (.move (.const (I 0)))])
(.seq (.seq (reg [op 9 (.lookup 4 (.tmp 2) (.tmp 2) false) 1,
  op 10 (call (.func 140) #[(.global 9)]) 1,
  op 11 (.unOp .not 0 (.global 10))])
(.cond (.tmp 11)
  (.seq (reg [op 12 (.build 0 #[(0, (.const (.agg #[(I 0), (I 0), (sl 0 0 0 0)])))]) 1,
    op 4 (.insert 3 (.tmp 4) (.tmp 4) (.global 12)),
    op 5 (.move (.const (I 1)))])
  .ret)
  .skip))
(.seq (reg [op 13 (.lookup 4 (.tmp 2) (.tmp 2) false) 1,
  op 14 (call (.func 150) #[(.global 13)]) 1,
  op 6 (.move (.const (.agg #[(I 0), (I 0), (sl 0 0 0 0)]))),
  op 6 (.insert 3 (.tmp 6) (.tmp 6) (.global 14))])
(.seq (.seq (reg [op 15 (.move (.tmp 1)),
  op 16 (bi .len #[(.tmp 15)] 1),
  op 17 (.move (.const (I 0)))])
(.block 0
  (.loop
    (.seq (reg [op 18 (.binOp .lss 0 (.tmp 17) (.tmp 16) 0)])
    (.seq (.cond (.tmp 18)
      .skip
      (.exit 0))
    (.seq (.block 1
      (.seq (reg [op 19 (.indexAddr 7 (.tmp 15) (.tmp 17)) 1,
        op 20 (.load 4 (.global 19)) 1,
        op 8 (.move (.const (.agg #[(I 0), (I 0), (I 0)]))),
        op 8 (.insert 3 (.tmp 8) (.tmp 8) (.global 20))])
      (.seq (.seq (reg [op 21 (.fieldAddr 0 (.tmp 8) 1) 1,
        op 22 (.lookup 0 (.tmp 8) (.global 21) false) 1,
        op 23 (.fieldAddr 2 (.tmp 6) 1) 1,
        op 24 (.lookup 0 (.tmp 6) (.global 23) false) 1,
        op 25 (bi .len #[(.global 24)] 1) 1,
        op 26 (call (.func 163) #[(.global 22), (.global 25)]) 1,
        op 27 (.unOp .not 0 (.global 26)) 1,
        op 28 (.move (.global 27)) 1,
        op 29 (.fieldAddr 2 (.tmp 8) 1) 1 (some (113, false)),
        op 30 (.lookup 0 (.tmp 8) (.global 29) false) 1 (some (113, false)),
        op 31 (call (.func 196) #[(.global 30)]) 1 (some (113, false)),
        op 32 (.unOp .not 0 (.global 31)) 1 (some (113, false)),
        op 33 (.pick (.global 28) (.const (B true)) (.global 32))])
      (.cond (.tmp 33)
        (.seq (reg [op 34 (.build 0 #[(0, (.const (.agg #[(I 0), (I 0), (sl 0 0 0 0)])))]) 1,
          op 4 (.insert 3 (.tmp 4) (.tmp 4) (.global 34)),
          op 5 (.move (.const (I 2)))])
        .ret)
        .skip))
      (.seq (.seq (reg [op 35 (.fieldAddr 2 (.tmp 6) 1) 1,
        op 36 (.lookup 0 (.tmp 6) (.global 35) false) 1,
        op 37 (.fieldAddr 0 (.tmp 8) 1) 1,
        op 38 (.lookup 0 (.tmp 8) (.global 37) false) 1,
        op 39 (.indexAddr 3 (.global 36) (.global 38)) 1,
        op 40 (.load 0 (.global 39)) 1,
        op 41 (.fieldAddr 1 (.tmp 8) 1) 1,
        op 42 (.lookup 0 (.tmp 8) (.global 41) false) 1,
        op 43 (.binOp .neq 0 (.global 40) (.global 42) 0)])
      (.cond (.tmp 43)
        (.seq (reg [op 44 (.build 0 #[(0, (.const (.agg #[(I 0), (I 0), (sl 0 0 0 0)])))]) 1,
          op 4 (.insert 3 (.tmp 4) (.tmp 4) (.global 44)),
          op 5 (.move (.const (I 9)))])
        .ret)
        .skip))
      (reg [op 45 (.fieldAddr 2 (.tmp 6) 1) 1,
        op 46 (.lookup 0 (.tmp 6) (.global 45) false) 1,
        op 47 (.fieldAddr 0 (.tmp 8) 1) 1,
        op 48 (.lookup 0 (.tmp 8) (.global 47) false) 1,
        op 49 (.fieldAddr 2 (.tmp 8) 1) 1,
        op 50 (.lookup 0 (.tmp 8) (.global 49) false) 1,
        op 51 (.indexAddr 3 (.global 46) (.global 48)) 1,
        opn (.store 1 (.global 51) (.global 50))])))))
    (reg [op 52 (.binOp .add 0 (.tmp 17) (.const (I 1)) 0) 1,
      op 17 (.move (.global 52))])))))))
(.seq (reg [op 53 (.lookup 4 (.tmp 6) (.tmp 6) false) 1,
  op 4 (.insert 3 (.tmp 4) (.tmp 4) (.global 53)),
  op 5 (.move (.const (I 0)))])
.ret))))), [(4, 1000004), (5, 0)]⟩

/-- spec.ApplyDiff -/
def fn331 : AFun := ⟨2,
(.seq (reg [op 2 (.box 3 (.tmp 0)),
  op 4 (.move (.const (.agg #[(I 0), (I 0), (sl 0 0 0 0)]))),
  op 5 (.move (.const (I 0)))])
(.seq (.seq (reg [op 9 (call (.func 452) #[(.tmp 2)]) 1,
  op 10 (.unOp .not 0 (.global 9))])
(.cond (.tmp 10)
  (.seq (reg [op 11 (.build 0 #[(0, (.const (.agg #[(I 0), (I 0), (sl 0 0 0 0)])))]) 1,
    op 4 (.insert 3 (.tmp 4) (.tmp 4) (.global 11)),
    op 5 (.move (.const (I 1)))])
  .ret)
  .skip))
(.seq (reg [op 12 (call (.func 453) #[(.tmp 2)]) 1,
  op 6 (.move (.const (.agg #[(I 0), (I 0), (sl 0 0 0 0)]))),
  op 6 (.insert 3 (.tmp 6) (.tmp 6) (.global 12))])
(.seq (.seq (reg [op 7 (.move (.const (I 0)))])
(.block 0
  (.loop
    (.seq (.seq (reg [op 13 (.move (.tmp 7)) 1,
      op 14 (.move (.tmp 1)) 1,
      op 15 (bi .len #[(.global 14)] 1) 1,
      op 16 (.binOp .lss 0 (.global 13) (.global 15) 0)])
    (.cond (.tmp 16)
      .skip
      (.exit 0)))
    (.seq (.block 1
      (.seq (reg [op 19 (.move (.tmp 1)) 1,
        op 20 (.move (.tmp 7)) 1,
        op 21 (.indexAddr 7 (.global 19) (.global 20)) 1,
        op 22 (.load 4 (.global 21)) 1,
        op 8 (.move (.const (.agg #[(I 0), (I 0), (I 0)]))),
        op 8 (.insert 3 (.tmp 8) (.tmp 8) (.global 22))])
      (.seq (.seq (reg [op 23 (.fieldAddr 0 (.tmp 8) 1) 1,
        op 24 (.lookup 0 (.tmp 8) (.global 23) false) 1,
        op 25 (.fieldAddr 2 (.tmp 6) 1) 1,
        op 26 (.lookup 0 (.tmp 6) (.global 25) false) 1,
        op 27 (bi .len #[(.global 26)] 1) 1,
        op 28 (.binOp .sub 0 (.global 27) (.const (I 1)) 0) 1,
        op 29 (call (.func 432) #[(.global 24), (.const (I 0)), (.global 28)]) 1,
        op 30 (.unOp .not 0 (.global 29)) 1,
        op 31 (.move (.global 30)) 1,
        op 32 (.fieldAddr 2 (.tmp 8) 1) 1 (some (125, false)),
        op 33 (.lookup 0 (.tmp 8) (.global 32) false) 1 (some (125, false)),
        op 34 (call (.func 449) #[(.global 33)]) 1 (some (125, false)),
        op 35 (.unOp .not 0 (.global 34)) 1 (some (125, false)),
        op 36 (.pick (.global 31) (.const (B true)) (.global 35))])
      (.cond (.tmp 36)
        (.seq (reg [op 37 (.build 0 #[(0, (.const (.agg #[(I 0), (I 0), (sl 0 0 0 0)])))]) 1,
          op 4 (.insert 3 (.tmp 4) (.tmp 4) (.global 37)),
          op 5 (.move (.const (I 2)))])
        .ret)
        .skip))
      (.seq (.seq (reg [op 38 (.fieldAddr 2 (.tmp 6) 1) 1,
        op 39 (.lookup 0 (.tmp 6) (.global 38) false) 1,
        op 40 (.fieldAddr 0 (.tmp 8) 1) 1,
        op 41 (.lookup 0 (.tmp 8) (.global 40) false) 1,
        op 42 (.indexAddr 3 (.global 39) (.global 41)) 1,
        op 43 (.load 0 (.global 42)) 1,
        op 44 (.fieldAddr 1 (.tmp 8) 1) 1,
        op 45 (.lookup 0 (.tmp 8) (.global 44) false) 1,
        op 46 (.binOp .neq 0 (.global 43) (.global 45) 0)])
      (.cond (.tmp 46)
        (.seq (reg [op 47 (.build 0 #[(0, (.const (.agg #[(I 0), (I 0), (sl 0 0 0 0)])))]) 1,
          op 4 (.insert 3 (.tmp 4) (.tmp 4) (.global 47)),
          op 5 (.move (.const (I 9)))])
        .ret)
        .skip))
      (reg [op 48 (.fieldAddr 2 (.tmp 6) 1) 1,
        op 49 (.lookup 0 (.tmp 6) (.global 48) false) 1,
        op 50 (.fieldAddr 0 (.tmp 8) 1) 1,
        op 51 (.lookup 0 (.tmp 8) (.global 50) false) 1,
        op 52 (.fieldAddr 2 (.tmp 8) 1) 1,
        op 53 (.lookup 0 (.tmp 8) (.global 52) false) 1,
        op 54 (.indexAddr 3 (.global 49) (.global 51)) 1,
        opn (.store 1 (.global 54) (.global 53))])))))
    (reg [op 17 (.move (.tmp 7)) 1,
      op 18 (.binOp .add 0 (.global 17) (.const (I 1)) 0) 1,
      op 7 (.move (.global 18))]))))))
(.seq (reg [op 55 (.lookup 4 (.tmp 6) (.tmp 6) false) 1,
  op 4 (.insert 3 (.tmp 4) (.tmp 4) (.global 55)),
  op 5 (.move (.const (I 0)))])
.ret))))), [(4, 1000004), (5, 0)]⟩

/-- spec.DrawDiffText -/
def fn353 : AFun := ⟨1,
(.seq (reg [op 2 (.move (.const (sl 0 0 0 0)))])
(.seq (reg [op 3 (.move (.tmp 0)) 1,
  op 4 (call (.func 354) #[(.global 3)]) 1,
  op 2 (.move (.global 4))])
.ret)), [(2, 0)]⟩

/-- impl.DiffText -/
def fn80 : AFun := ⟨1,
(.seq (reg [op 2 (.move (.const (S [])))])
(.seq (.seq (reg [op 6 (.move (.tmp 0)) 1,
  op 7 (call (.func 197) #[(.global 6)]) 1,
  op 8 (.unOp .not 0 (.global 7))])
(.cond (.tmp 8)
  (.seq (reg [op 2 (.move (.const (S [])))])
  .ret)
  .skip))
(.seq (reg [op 9 (.move (.const (sl 0 0 0 1))) 1,
  op 3 (.move (.global 9))])
(.seq (.seq (reg [op 10 (.move (.tmp 0)),
  op 11 (bi .len #[(.tmp 10)] 1),
  op 12 (.move (.const (I 0)))])
(.block 0
  (.loop
    (.seq (reg [op 13 (.binOp .lss 0 (.tmp 12) (.tmp 11) 0)])
    (.seq (.cond (.tmp 13)
      .skip
      (.exit 0))
    (.seq (.block 1
      (.seq (reg [op 14 (.indexAddr 7 (.tmp 10) (.tmp 12)) 1,
        op 15 (.load 4 (.global 14)) 1,
        op 5 (.move (.const (.agg #[(I 0), (I 0), (I 0)]))),
        op 5 (.insert 3 (.tmp 5) (.tmp 5) (.global 15))])
      (reg [op 16 (.move (.tmp 3)) 1,
        op 17 (.fieldAddr 0 (.tmp 5) 1) 1,
        op 18 (.lookup 0 (.tmp 5) (.global 17) false) 1,
        op 19 (call (.func 75) #[(.global 18)]) 1,
        op 20 (.fieldAddr 1 (.tmp 5) 1) 1,
        op 21 (.lookup 0 (.tmp 5) (.global 20) false) 1,
        op 22 (.fieldAddr 1 (.tmp 5) 1) 1,
        op 23 (.lookup 0 (.tmp 5) (.global 22) false) 1,
        op 24 (.binOp .add 0 (.global 23) (.const (I 1)) 0) 1,
        op 25 (.slice 0 (.const (S [43, 124, 45])) (some (.global 21)) (some (.global 24)) none) 1,
        op 26 (.binOp .add 0 (.global 19) (.global 25) 0) 1,
        op 27 (.fieldAddr 2 (.tmp 5) 1) 1,
        op 28 (.lookup 0 (.tmp 5) (.global 27) false) 1,
        op 29 (.fieldAddr 2 (.tmp 5) 1) 1,
        op 30 (.lookup 0 (.tmp 5) (.global 29) false) 1,
        op 31 (.binOp .add 0 (.global 30) (.const (I 1)) 0) 1,
        op 32 (.slice 0 (.const (S [43, 124, 45])) (some (.global 28)) (some (.global 31)) none) 1,
        op 33 (.binOp .add 0 (.global 26) (.global 32) 0) 1,
        op 34 (.buildSlice 1 1 #[(0, (.const (.agg #[(S [])]))), (1, (.global 33))]) 1,
        op 35 (bi .append #[(.global 16), (.global 34)] 1) 1,
        op 3 (.move (.global 35))])))
    (reg [op 36 (.binOp .add 0 (.tmp 12) (.const (I 1)) 0) 1,
      op 12 (.move (.global 36))])))))))
(.seq (reg [op 37 (.move (.tmp 3)) 1,
  op 38 (call (.func 167) #[(.global 37), (.const (S [32]))]) 1,
  op 2 (.move (.global 38))])
.ret))))), [(2, 0)]⟩

/-- impl.ReadDiff -/
def fn119 : AFun := ⟨1,
(.seq (reg [op 2 (.move (.const (sl 0 0 0 0))),
  op 3 (.move (.const (B false)))])
(.seq (reg [op 10 (.move (.const (sl 0 0 0 3))) 1,
  op 4 (.move (.global 10))])
(.seq (.seq (reg [op 11 (.move (.tmp 0)) 1,
  op 12 (.binOp .eql 0 (.global 11) (.const (S [])) 0)])
(.cond (.tmp 12)
  (.seq (reg [op 13 (.move (.tmp 4)) 1,
    op 2 (.move (.global 13)),
    op 3 (.move (.const (B true)))])
  .ret)
  .skip))
(.seq (.seq (reg [op 14 (.move (.tmp 0)) 1,
  op 15 (call (.func 189) #[(.global 14), (.const (U 32))]),
  op 16 (bi .len #[(.tmp 15)] 1),
  op 17 (.move (.const (I 0)))])
(.block 0
  (.loop
    (.seq (reg [op 18 (.binOp .lss 0 (.tmp 17) (.tmp 16) 0)])
    (.seq (.cond (.tmp 18)
      .skip
      (.exit 0))
    (.seq (.block 1
      (.seq (reg [op 19 (.indexAddr 3 (.tmp 15) (.tmp 17)) 1,
        op 20 (.load 0 (.global 19)) 1,
        op 6 (.move (.global 20))])
      (.seq (reg [op 21 (.move (.tmp 6)) 1,
        op 22 (bi .len #[(.global 21)] 0) 1,
        op 7 (.move (.global 22))])
      (.seq (.seq (reg [op 23 (.move (.tmp 7)) 1,
        op 24 (.binOp .lss 0 (.global 23) (.const (I 3)) 0) 1,
        op 25 (.move (.global 24)) 1,
        op 26 (.move (.tmp 4)) 1 (some (101, false)),
        op 27 (bi .len #[(.global 26)] 1) 1 (some (101, false)),
        op 28 (.binOp .eql 0 (.global 27) (.const (I 112)) 0) 1 (some (101, false)),
        op 29 (.pick (.global 25) (.const (B true)) (.global 28))])
      (.cond (.tmp 29)
        (.seq (reg [op 2 (.move (.const (sl 0 0 0 0))),
          op 3 (.move (.const (B false)))])
        .ret)
        .skip))
      (.seq (reg [op 31 (.move (.tmp 6)) 1,
        op 32 (.move (.tmp 7)) 1,
        op 33 (.binOp .sub 0 (.global 32) (.const (I 2)) 0) 1,
        op 34 (.slice 0 (.global 31) none (some (.global 33)) none) 1,
        op 35 (call (.func 118) #[(.global 34)]) 1,
        op 30 (.move (.global 35)) 1,
        op 36 (.extract (.global 30) 0) 1,
        op 37 (.extract (.global 30) 1) 1,
        op 8 (.move (.global 36)),
        op 9 (.move (.global 37))])
      (.seq (.seq (reg [op 38 (.move (.tmp 9)) 1,
        op 39 (.unOp .not 0 (.global 38))])
      (.cond (.tmp 39)
        (.seq (reg [op 2 (.move (.const (sl 0 0 0 0))),
          op 3 (.move (.const (B false)))])
        .ret)
        .skip))
      (reg [op 40 (.move (.tmp 4)) 1,
        op 41 (.move (.tmp 8)) 1,
        op 42 (.move (.tmp 6)) 1,
        op 43 (.move (.tmp 7)) 1,
        op 44 (.binOp .sub 0 (.global 43) (.const (I 2)) 0) 1,
        op 45 (.index 0 (.global 42) (.global 44)) 1,
        op 46 (call (.func 174) #[(.global 45)]) 1,
        op 47 (.move (.tmp 6)) 1,
        op 48 (.move (.tmp 7)) 1,
        op 49 (.binOp .sub 0 (.global 48) (.const (I 1)) 0) 1,
        op 50 (.index 0 (.global 47) (.global 49)) 1,
        op 51 (call (.func 174) #[(.global 50)]) 1,
        op 52 (.build 0 #[(0, (.const (.agg #[(I 0), (I 0), (I 0)]))), (1, (.global 41)), (1001, (.global 46)), (2001, (.global 51))]) 1,
        op 53 (.buildSlice 3 1 #[(0, (.const (.agg #[(I 0), (I 0), (I 0)]))), (3, (.global 52))]) 1,
        op 54 (bi .append #[(.global 40), (.global 53)] 3) 1,
        op 4 (.move (.global 54))])))))))
    (reg [op 55 (.binOp .add 0 (.tmp 17) (.const (I 1)) 0) 1,
      op 17 (.move (.global 55))])))))))
(.seq (.seq (reg [op 56 (.move (.tmp 4)) 1,
  op 57 (call (.func 197) #[(.global 56)]) 1,
  op 58 (.unOp .not 0 (.global 57))])
(.cond (.tmp 58)
  (.seq (reg [op 2 (.move (.const (sl 0 0 0 0))),
    op 3 (.move (.const (B false)))])
  .ret)
  .skip))
(.seq (reg [op 59 (.move (.tmp 4)) 1,
  op 2 (.move (.global 59)),
  op 3 (.move (.const (B true)))])
.ret)))))), [(2, 0), (3, 0)]⟩

/-- spec.DrawReadDiff -/
def fn368 : AFun := ⟨1,
(.seq (reg [op 2 (.move (.const (S [])))])
(.seq (reg [op 5 (.move (.tmp 0)) 1,
  op 6 (call (.func 431) #[(.global 5)]) 1,
  op 3 (.move (.global 6))])
(.seq (reg [op 7 (.move (.tmp 0)) 1,
  op 8 (call (.func 354) #[(.global 7)]) 1,
  op 4 (.move (.global 8))])
(.seq (.seq (reg [op 9 (.move (.tmp 4)) 1,
  op 10 (call (.func 550) #[(.global 9)]) 1,
  op 11 (.unOp .not 0 (.global 10))])
(.cond (.tmp 11)
  (.seq (reg [op 12 (.move (.tmp 3)) 1,
    op 13 (.buildSlice 1 7 #[(0, (.const (.agg #[(S []), (S []), (S []), (S []), (S []), (S []), (S [])]))), (1, (.const (S [48, 43]))), (1001, (.const (S [48, 43, 124, 45]))), (2001, (.const (S [49, 49, 50, 43, 124]))), (3001, (.const (S [49, 49, 49, 43, 124]))), (4001, (.const (S [120, 43, 124]))), (5001, (.const (S [48, 43, 124, 32, 32, 49, 45, 43]))), (6001, (.const (S [45, 49, 43, 124])))]) 1,
    op 14 (call (.func 8) #[(.global 12), (.global 13)]) 1,
    op 2 (.move (.global 14))])
  .ret)
  .skip))
(.seq (reg [op 15 (.move (.tmp 3)) 1,
  op 16 (.move (.tmp 4)) 1,
  op 17 (call (.func 553) #[(.global 16)]) 1,
  op 18 (call (.func 442) #[(.global 15), (.global 17)]) 1,
  op 2 (.move (.global 18))])
.ret))))), [(2, 0)]⟩

/-- spec.ReadDiff -/
def fn410 : AFun := ⟨1,
(.seq (reg [op 2 (.move (.const (sl 0 0 0 0))),
  op 3 (.move (.const (B false)))])
(.seq (reg [op 11 (.move (.const (sl 0 0 0 3))) 1,
  op 4 (.move (.global 11))])
(.seq (.seq (reg [op 12 (.move (.tmp 0)) 1,
  op 13 (.binOp .eql 0 (.global 12) (.const (S [])) 0)])
(.cond (.tmp 13)
  (.seq (reg [op 14 (.move (.tmp 4)) 1,
    op 2 (.move (.global 14)),
    op 3 (.move (.const (B true)))])
  .ret)
  .skip))
(.seq (reg [op 15 (.move (.tmp 0)) 1,
  op 16 (call (.func 441) #[(.global 15), (.const (U 32))]) 1,
  op 5 (.move (.global 16))])
(.seq (.seq (reg [op 6 (.move (.const (I 0)))])
(.block 0
  (.loop
    (.seq (.seq (reg [op 17 (.move (.tmp 6)) 1,
      op 18 (.move (.tmp 5)) 1,
      op 19 (bi .len #[(.global 18)] 1) 1,
      op 20 (.binOp .lss 0 (.global 17) (.global 19) 0)])
    (.cond (.tmp 20)
      .skip
      (.exit 0)))
    (.seq (.block 1
      (.seq (reg [op 23 (.move (.tmp 5)) 1,
        op 24 (.move (.tmp 6)) 1,
        op 25 (.indexAddr 3 (.global 23) (.global 24)) 1,
        op 26 (.load 0 (.global 25)) 1,
        op 27 (bi .len #[(.global 26)] 0) 1,
        op 7 (.move (.global 27))])
      (.seq (.seq (reg [op 28 (.move (.tmp 7)) 1,
        op 29 (.binOp .lss 0 (.global 28) (.const (I 3)) 0)])
      (.cond (.tmp 29)
        (.seq (reg [op 2 (.move (.const (sl 0 0 0 0))),
          op 3 (.move (.const (B false)))])
        .ret)
        .skip))
      (.seq (reg [op 31 (.move (.tmp 5)) 1,
        op 32 (.move (.tmp 6)) 1,
        op 33 (.indexAddr 3 (.global 31) (.global 32)) 1,
        op 34 (.load 0 (.global 33)) 1,
        op 35 (.move (.tmp 7)) 1,
        op 36 (.binOp .sub 0 (.global 35) (.const (I 2)) 0) 1,
        op 37 (.slice 0 (.global 34) none (some (.global 36)) none) 1,
        op 38 (call (.func 439) #[(.global 37)]) 1,
        op 30 (.move (.global 38)) 1,
        op 39 (.extract (.global 30) 0) 1,
        op 40 (.extract (.global 30) 1) 1,
        op 8 (.move (.global 39)),
        op 9 (.move (.global 40))])
      (.seq (reg [op 41 (.move (.tmp 8)) 1,
        op 42 (.move (.tmp 5)) 1,
        op 43 (.move (.tmp 6)) 1,
        op 44 (.indexAddr 3 (.global 42) (.global 43)) 1,
        op 45 (.load 0 (.global 44)) 1,
        op 46 (.move (.tmp 7)) 1,
        op 47 (.binOp .sub 0 (.global 46) (.const (I 2)) 0) 1,
        op 48 (.index 0 (.global 45) (.global 47)) 1,
        op 49 (call (.func 467) #[(.global 48)]) 3,
        op 50 (.move (.tmp 5)) 1,
        op 51 (.move (.tmp 6)) 1,
        op 52 (.indexAddr 3 (.global 50) (.global 51)) 1,
        op 53 (.load 0 (.global 52)) 1,
        op 54 (.move (.tmp 7)) 1,
        op 55 (.binOp .sub 0 (.global 54) (.const (I 1)) 0) 1,
        op 56 (.index 0 (.global 53) (.global 55)) 1,
        op 57 (call (.func 467) #[(.global 56)]) 1,
        op 58 (.build 0 #[(0, (.const (.agg #[(I 0), (I 0), (I 0)]))), (1, (.global 41)), (1001, (.global 49)), (2001, (.global 57))]) 1,
        op 10 (.move (.const (.agg #[(I 0), (I 0), (I 0)]))),
        op 10 (.insert 3 (.tmp 10) (.tmp 10) (.global 58))])
      (.seq (.seq (reg [op 59 (.move (.tmp 9)) 1,
        op 60 (.unOp .not 0 (.global 59))])
      (.cond (.tmp 60)
        (.seq (reg [op 2 (.move (.const (sl 0 0 0 0))),
          op 3 (.move (.const (B false)))])
        .ret)
        .skip))
      (reg [op 61 (.move (.tmp 4)) 1,
        op 62 (.lookup 4 (.tmp 10) (.tmp 10) false) 1,
        op 63 (.buildSlice 3 1 #[(0, (.const (.agg #[(I 0), (I 0), (I 0)]))), (3, (.global 62))]) 1,
        op 64 (bi .append #[(.global 61), (.global 63)] 3) 1,
        op 4 (.move (.global 64))])))))))
    (reg [op 21 (.move (.tmp 6)) 1,
      op 22 (.binOp .add 0 (.global 21) (.const (I 1)) 0) 1,
      op 6 (.move (.global 22))]))))))
(.seq (.seq (reg [op 65 (.move (.tmp 4)) 1,
  op 66 (call (.func 550) #[(.global 65)]) 1,
  op 67 (.unOp .not 0 (.global 66))])
(.cond (.tmp 67)
  (.seq (reg [op 2 (.move (.const (sl 0 0 0 0))),
    op 3 (.move (.const (B false)))])
  .ret)
  .skip))
(.seq (reg [op 68 (.move (.tmp 4)) 1,
  op 2 (.move (.global 68)),
  op 3 (.move (.const (B true)))])
.ret))))))), [(2, 0), (3, 0)]⟩

/-- laws.f6diffs -/
def fn270 : AFun := ⟨2,
(.seq (reg [op 4 (.move (.const (B false)))])
(.seq (.seq (reg [op 6 (.move (.tmp 0)) 1,
  op 7 (bi .len #[(.global 6)] 1) 1,
  op 8 (.move (.tmp 1)) 1,
  op 9 (bi .len #[(.global 8)] 1) 1,
  op 10 (.binOp .neq 0 (.global 7) (.global 9) 0)])
(.cond (.tmp 10)
  (.seq (reg [op 4 (.move (.const (B false)))])
  .ret)
  .skip))
(.seq (.seq (reg [op 5 (.move (.const (I 0)))])
(.block 0
  (.loop
    (.seq (.seq (reg [op 11 (.move (.tmp 5)) 1,
      op 12 (.move (.tmp 0)) 1,
      op 13 (bi .len #[(.global 12)] 1) 1,
      op 14 (.binOp .lss 0 (.global 11) (.global 13) 0)])
    (.cond (.tmp 14)
      .skip
      (.exit 0)))
    (.seq (.block 1
      (.seq (reg [op 17 (.move (.tmp 0)) 1,
        op 18 (.move (.tmp 5)) 1,
        op 19 (.indexAddr 7 (.global 17) (.global 18)) 1,
        op 20 (.load 4 (.global 19)) 1,
        op 21 (.move (.tmp 1)) 1,
        op 22 (.move (.tmp 5)) 1,
        op 23 (.indexAddr 7 (.global 21) (.global 22)) 1,
        op 24 (.load 4 (.global 23)) 1,
        op 25 (.binOp .neq 5 (.global 20) (.global 24) 0)])
      (.cond (.tmp 25)
        (.seq (reg [op 4 (.move (.const (B false)))])
        .ret)
        .skip)))
    (reg [op 15 (.move (.tmp 5)) 1,
      op 16 (.binOp .add 0 (.global 15) (.const (I 1)) 0) 1,
      op 5 (.move (.global 16))]))))))
(.seq (reg [op 4 (.move (.const (B true)))])
.ret)))), [(4, 0)]⟩

/-- spec.DiffText -/
def fn347 : AFun := ⟨1,
(.seq (reg [op 2 (.move (.const (S [])))])
(.seq (.seq (reg [op 3 (.move (.tmp 0)) 1,
  op 4 (call (.func 550) #[(.global 3)]) 1,
  op 5 (.unOp .not 0 (.global 4))])
(.cond (.tmp 5)
  (.seq (reg [op 2 (.move (.const (S [])))])
  .ret)
  .skip))
(.seq (reg [op 6 (.move (.tmp 0)) 1,
  op 7 (call (.func 553) #[(.global 6)]) 1,
  op 2 (.move (.global 7))])
.ret))), [(2, 0)]⟩

/-- impl.InverseDiff -/
def fn89 : AFun := ⟨1,
(.seq (reg [op 2 (.move (.const (sl 0 0 0 0)))])
(.seq (reg [op 5 (.move (.const (sl 0 0 0 3))) 1,
  op 3 (.move (.global 5))])
(.seq (.seq (reg [op 6 (.move (.tmp 0)) 1,
  op 7 (bi .len #[(.global 6)] 1) 1,
  op 8 (.binOp .sub 0 (.global 7) (.const (I 1)) 0) 1,
  op 4 (.move (.global 8))])
(.block 0
  (.loop
    (.seq (.seq (reg [op 9 (.move (.tmp 4)) 1,
      op 10 (.binOp .geq 0 (.global 9) (.const (I 0)) 0)])
    (.cond (.tmp 10)
      .skip
      (.exit 0)))
    (.seq (.block 1
      (reg [op 13 (.move (.tmp 3)) 1,
        op 14 (.move (.tmp 0)) 1,
        op 15 (.move (.tmp 4)) 1,
        op 16 (.indexAddr 7 (.global 14) (.global 15)) 1,
        op 17 (.fieldAddr 0 (.global 16) 0) 1,
        op 18 (.load 0 (.global 17)) 1,
        op 19 (.move (.tmp 0)) 1,
        op 20 (.move (.tmp 4)) 1,
        op 21 (.indexAddr 7 (.global 19) (.global 20)) 1,
        op 22 (.fieldAddr 2 (.global 21) 0) 1,
        op 23 (.load 0 (.global 22)) 1,
        op 24 (.move (.tmp 0)) 1,
        op 25 (.move (.tmp 4)) 1,
        op 26 (.indexAddr 7 (.global 24) (.global 25)) 1,
        op 27 (.fieldAddr 1 (.global 26) 0) 1,
        op 28 (.load 0 (.global 27)) 1,
        op 29 (.build 0 #[(0, (.const (.agg #[(I 0), (I 0), (I 0)]))), (1, (.global 18)), (1001, (.global 23)), (2001, (.global 28))]) 1,
        op 30 (.buildSlice 3 1 #[(0, (.const (.agg #[(I 0), (I 0), (I 0)]))), (3, (.global 29))]) 1,
        op 31 (bi .append #[(.global 13), (.global 30)] 3) 1,
        op 3 (.move (.global 31))]))
    (reg [op 11 (.move (.tmp 4)) 1,
      op 12 (.binOp .sub 0 (.global 11) (.const (I 1)) 0) 1,
      op 4 (.move (.global 12))]))))))
(.seq (reg [op 32 (.move (.tmp 3)) 1,
  op 2 (.move (.global 32))])
.ret)))), [(2, 0)]⟩

/-- spec.InverseDiff -/
def fn382 : AFun := ⟨1,
(.seq (reg [op 2 (.move (.const (sl 0 0 0 0)))])
(.seq (reg [op 5 (.move (.const (sl 0 0 0 3))) 1,
  op 3 (.move (.global 5))])
(.seq (.seq (reg [op 6 (.move (.tmp 0)) 1,
  op 7 (bi .len #[(.global 6)] 1) 1,
  op 8 (.binOp .sub 0 (.global 7) (.const (I 1)) 0) 1,
  op 4 (.move (.global 8))])
(.block 0
  (.loop
    (.seq (.seq (reg [op 9 (.move (.tmp 4)) 1,
      op 10 (.binOp .geq 0 (.global 9) (.const (I 0)) 0)])
    (.cond (.tmp 10)
      .skip
      (.exit 0)))
    (.seq (.block 1
      (reg [op 13 (.move (.tmp 3)) 1,
        op 14 (.move (.tmp 0)) 1,
        op 15 (.move (.tmp 4)) 1,
        op 16 (.indexAddr 7 (.global 14) (.global 15)) 1,
        op 17 (.fieldAddr 0 (.global 16) 0) 1,
        op 18 (.load 0 (.global 17)) 1,
        op 19 (.move (.tmp 0)) 1,
        op 20 (.move (.tmp 4)) 1,
        op 21 (.indexAddr 7 (.global 19) (.global 20)) 1,
        op 22 (.fieldAddr 2 (.global 21) 0) 1,
        op 23 (.load 0 (.global 22)) 1,
        op 24 (.move (.tmp 0)) 1,
        op 25 (.move (.tmp 4)) 1,
        op 26 (.indexAddr 7 (.global 24) (.global 25)) 1,
        op 27 (.fieldAddr 1 (.global 26) 0) 1,
        op 28 (.load 0 (.global 27)) 1,
        op 29 (.build 0 #[(0, (.const (.agg #[(I 0), (I 0), (I 0)]))), (1, (.global 18)), (1001, (.global 23)), (2001, (.global 28))]) 1,
        op 30 (.buildSlice 3 1 #[(0, (.const (.agg #[(I 0), (I 0), (I 0)]))), (3, (.global 29))]) 1,
        op 31 (bi .append #[(.global 13), (.global 30)] 3) 1,
        op 3 (.move (.global 31))]))
    (reg [op 11 (.move (.tmp 4)) 1,
      op 12 (.binOp .sub 0 (.global 11) (.const (I 1)) 0) 1,
      op 4 (.move (.global 12))]))))))
(.seq (reg [op 32 (.move (.tmp 3)) 1,
  op 2 (.move (.global 32))])
.ret)))), [(2, 0)]⟩

/-- impl.DistanceOf -/
def fn81 : AFun := ⟨2,
(.seq (reg [op 2 (.makeChan 3 (.tmp 0)),
  op 3 (.makeChan 3 (.tmp 1)),
  op 4 (.move (.const (I 0))),
  op 5 (.move (.const (I 0)))])
(.seq (.seq (reg [op 9 (.lookup 4 (.tmp 2) (.tmp 2) false) 1,
  op 10 (call (.func 140) #[(.global 9)]) 1,
  op 11 (.unOp .not 0 (.global 10)) 1,
  op 12 (.move (.global 11)) 1,
  op 13 (.lookup 4 (.tmp 3) (.tmp 3) false) 1 (some (49, false)),
  op 14 (call (.func 140) #[(.global 13)]) 1 (some (49, false)),
  op 15 (.unOp .not 0 (.global 14)) 1 (some (49, false)),
  op 16 (.pick (.global 12) (.const (B true)) (.global 15))])
(.cond (.tmp 16)
  (.seq (reg [op 4 (.move (.const (I 0))),
    op 5 (.move (.const (I 1)))])
  .ret)
  .skip))
(.seq (.seq (reg [op 17 (.fieldAddr 0 (.tmp 2) 1) 1,
  op 18 (.lookup 0 (.tmp 2) (.global 17) false) 1,
  op 19 (.fieldAddr 0 (.tmp 3) 1) 1,
  op 20 (.lookup 0 (.tmp 3) (.global 19) false) 1,
  op 21 (.binOp .neq 0 (.global 18) (.global 20) 0) 1,
  op 22 (.move (.global 21)) 1,
  op 23 (.fieldAddr 1 (.tmp 2) 1) 1 (some (89, false)),
  op 24 (.lookup 0 (.tmp 2) (.global 23) false) 1 (some (89, false)),
  op 25 (.fieldAddr 1 (.tmp 3) 1) 1 (some (89, false)),
  op 26 (.lookup 0 (.tmp 3) (.global 25) false) 1 (some (89, false)),
  op 27 (.binOp .neq 0 (.global 24) (.global 26) 0) 1 (some (89, false)),
  op 28 (.pick (.global 22) (.const (B true)) (.global 27))])
(.cond (.tmp 28)
  (.seq (reg [op 4 (.move (.const (I 0))),
    op 5 (.move (.const (I 6)))])
  .ret)
  .skip))
(.seq (reg [op 6 (.move (.const (I 0)))])
(.seq (.seq (reg [op 29 (.fieldAddr 2 (.tmp 2) 1) 1,
  op 30 (.lookup 0 (.tmp 2) (.global 29) false),
  op 31 (bi .len #[(.tmp 30)] 1),
  op 32 (.move (.const (I 0)))])
(.block 0
  (.loop
    (.seq (reg [op 33 (.binOp .lss 0 (.tmp 32) (.tmp 31) 0)])
    (.seq (.cond (.tmp 33)
      .skip
      (.exit 0))
    (.seq (.block 1
      (.seq (reg [op 34 (.move (.tmp 32)) 1,
        op 35 (.indexAddr 3 (.tmp 30) (.tmp 32)) 1,
        op 36 (.load 0 (.global 35)) 1,
        op 7 (.move (.global 34)),
        op 8 (.move (.global 36))])
      (.seq (reg [op 37 (.move (.tmp 8)) 1,
        op 38 (.fieldAddr 2 (.tmp 3) 1) 1,
        op 39 (.lookup 0 (.tmp 3) (.global 38) false) 1,
        op 40 (.move (.tmp 7)) 1,
        op 41 (.indexAddr 3 (.global 39) (.global 40)) 1,
        op 42 (.load 0 (.global 41)) 1,
        op 43 (.binOp .neq 0 (.global 37) (.global 42) 0)])
      (.cond (.tmp 43)
        (reg [op 44 (.move (.tmp 6)) 1,
          op 45 (.binOp .add 0 (.global 44) (.const (I 1)) 0) 1,
          op 6 (.move (.global 45))])
        .skip))))
    (reg [op 46 (.binOp .add 0 (.tmp 32) (.const (I 1)) 0) 1,
      op 32 (.move (.global 46))])))))))
(.seq (reg [op 47 (.move (.tmp 6)) 1,
  op 4 (.move (.global 47)),
  op 5 (.move (.const (I 0)))])
.ret)))))), [(4, 0), (5, 0)]⟩

/-- spec.l02Bent -/
def fn443 : AFun := ⟨1,
(.seq (reg [op 2 (.move (.const (.agg #[(I 0), (I 0), (sl 0 0 0 0)])))])
(.seq (reg [op 4 (.move (.tmp 0)) 1,
  op 5 (call (.func 445) #[(.global 4), (.const (I 5))]) 1,
  op 3 (.move (.const (.agg #[(I 0), (I 0), (sl 0 0 0 0)]))),
  op 3 (.insert 3 (.tmp 3) (.tmp 3) (.global 5))])
(.seq (.seq (reg [op 6 (.move (.tmp 0)) 1,
  op 7 (call (.func 7) #[(.global 6), (.const (I 20))])])
(.block 0
  (.seq (reg [op 9 (.binOp .eql 0 (.tmp 7) (.const (I 0)) 0) 1,
    op 8 (.move (.global 9))])
  (.cond (.tmp 8)
    (reg [op 10 (.move (.tmp 0)) 1,
      op 11 (.buildSlice 1 4 #[(0, (.const (.agg #[(I 0), (I 0), (I 0), (I 0)]))), (1, (.const (I 0))), (1001, (.const (I 8))), (2001, (.const (I 9))), (3001, (.const (I (-9223372036854775808))))]) 1,
      op 12 (call (.func 4) #[(.global 10), (.global 11)]) 1,
      op 13 (.fieldAddr 0 (.tmp 3) 1) 1,
      op 3 (.insert 1 (.tmp 3) (.global 13) (.global 12))])
    (.seq (reg [op 15 (.binOp .eql 0 (.tmp 7) (.const (I 1)) 0) 1,
      op 14 (.move (.global 15))])
    (.cond (.tmp 14)
      (reg [op 16 (.fieldAddr 2 (.tmp 3) 1) 1,
        op 17 (.lookup 0 (.tmp 3) (.global 16) false) 1,
        op 18 (.buildSlice 1 1 #[(0, (.const (.agg #[(I 0)]))), (1, (.const (I 0)))]) 1,
        op 19 (bi .append #[(.global 17), (.global 18)] 1) 1,
        op 20 (.fieldAddr 2 (.tmp 3) 1) 1,
        op 3 (.insert 1 (.tmp 3) (.global 20) (.global 19))])
      (.seq (reg [op 22 (.binOp .eql 0 (.tmp 7) (.const (I 2)) 0) 1,
        op 21 (.move (.global 22))])
      (.cond (.tmp 21)
        (.seq (reg [op 23 (.fieldAddr 2 (.tmp 3) 1) 1,
          op 24 (.lookup 0 (.tmp 3) (.global 23) false) 1,
          op 25 (bi .len #[(.global 24)] 1) 1,
          op 26 (.binOp .gtr 0 (.global 25) (.const (I 0)) 0)])
        (.cond (.tmp 26)
          (reg [op 27 (.fieldAddr 2 (.tmp 3) 1) 1,
            op 28 (.lookup 0 (.tmp 3) (.global 27) false) 1,
            op 29 (.move (.tmp 0)) 1,
            op 30 (.fieldAddr 2 (.tmp 3) 1) 1,
            op 31 (.lookup 0 (.tmp 3) (.global 30) false) 1,
            op 32 (bi .len #[(.global 31)] 1) 1,
            op 33 (call (.func 7) #[(.global 29), (.global 32)]) 1,
            op 34 (.move (.tmp 0)) 1,
            op 35 (.buildSlice 1 3 #[(0, (.const (.agg #[(I 0), (I 0), (I 0)]))), (1, (.const (I (-1)))), (1001, (.const (I 2))), (2001, (.const (I 3)))]) 1,
            op 36 (call (.func 4) #[(.global 34), (.global 35)]) 1,
            op 37 (.indexAddr 3 (.global 28) (.global 33)) 1,
            opn (.store 1 (.global 37) (.global 36))])
          .skip))
        (.seq (reg [op 39 (.binOp .eql 0 (.tmp 7) (.const (I 3)) 0) 1,
          op 38 (.move (.global 39))])
        (.cond (.tmp 38)
          (reg [op 40 (call (.func 450) #[(.const (I 8)), (.const (I 8))]) 1,
            op 3 (.insert 3 (.tmp 3) (.tmp 3) (.global 40))])
          .skip))))))))))
(.seq (reg [op 41 (.lookup 4 (.tmp 3) (.tmp 3) false) 1,
  op 2 (.insert 3 (.tmp 2) (.tmp 2) (.global 41))])
.ret)))), [(2, 1000004)]⟩

/-- spec.l00From -/
def fn431 : AFun := ⟨1,
(.seq (reg [op 2 (.move (.const (.pointer none)))])
(.seq (reg [op 3 (.move (.tmp 0)) 1,
  op 4 (.build 0 #[(0, (.const (.agg #[(sl 0 0 0 0), (I 0), (.int .u64 0)]))), (1, (.global 3))]) 1,
  op 5 (.box 3 (.global 4)) 1,
  op 2 (.move (.global 5))])
.ret)), [(2, 0)]⟩

/-- impl.ValidPanel -/
def fn140 : AFun := ⟨1,
(.seq (reg [op 1 (.makeChan 3 (.tmp 0)),
  op 2 (.move (.const (B false)))])
(.seq (.seq (reg [op 5 (.fieldAddr 0 (.tmp 1) 1) 1,
  op 6 (.lookup 0 (.tmp 1) (.global 5) false) 1,
  op 7 (.fieldAddr 1 (.tmp 1) 1) 1,
  op 8 (.lookup 0 (.tmp 1) (.global 7) false) 1,
  op 9 (call (.func 198) #[(.global 6), (.global 8)]) 1,
  op 10 (.unOp .not 0 (.global 9)) 1,
  op 11 (.move (.global 10)) 1,
  op 12 (.fieldAddr 2 (.tmp 1) 1) 1 (some (45, false)),
  op 13 (.lookup 0 (.tmp 1) (.global 12) false) 1 (some (45, false)),
  op 14 (bi .len #[(.global 13)] 1) 1 (some (45, false)),
  op 15 (.fieldAddr 0 (.tmp 1) 1) 1 (some (45, false)),
  op 16 (.lookup 0 (.tmp 1) (.global 15) false) 1 (some (45, false)),
  op 17 (.fieldAddr 1 (.tmp 1) 1) 1 (some (45, false)),
  op 18 (.lookup 0 (.tmp 1) (.global 17) false) 1 (some (45, false)),
  op 19 (call (.func 166) #[(.global 16), (.global 18)]) 1 (some (45, false)),
  op 20 (.binOp .neq 0 (.global 14) (.global 19) 0) 1 (some (45, false)),
  op 21 (.pick (.global 11) (.const (B true)) (.global 20))])
(.cond (.tmp 21)
  (.seq (reg [op 2 (.move (.const (B false)))])
  .ret)
  .skip))
(.seq (.seq (reg [op 22 (.fieldAddr 2 (.tmp 1) 1) 1,
  op 23 (.lookup 0 (.tmp 1) (.global 22) false),
  op 24 (bi .len #[(.tmp 23)] 1),
  op 25 (.move (.const (I 0)))])
(.block 0
  (.loop
    (.seq (reg [op 26 (.binOp .lss 0 (.tmp 25) (.tmp 24) 0)])
    (.seq (.cond (.tmp 26)
      .skip
      (.exit 0))
    (.seq (.block 1
      (.seq (reg [op 27 (.indexAddr 3 (.tmp 23) (.tmp 25)) 1,
        op 28 (.load 0 (.global 27)) 1,
        op 4 (.move (.global 28))])
      (.seq (reg [op 29 (.move (.tmp 4)) 1,
        op 30 (call (.func 196) #[(.global 29)]) 1,
        op 31 (.unOp .not 0 (.global 30))])
      (.cond (.tmp 31)
        (.seq (reg [op 2 (.move (.const (B false)))])
        .ret)
        .skip))))
    (reg [op 32 (.binOp .add 0 (.tmp 25) (.const (I 1)) 0) 1,
      op 25 (.move (.global 32))])))))))
(.seq (reg [op 2 (.move (.const (B true)))])
.ret)))), [(2, 0)]⟩

/-- spec.l02Ok -/
def fn452 : AFun := ⟨1,
(.seq (reg [op 2 (.move (.const (B false)))])
(.seq (.seq (reg [op 4 (.move (.tmp 0)) 1,
  op 5 (.nilCheck (.global 4)) 1,
  op 6 (.fieldAddr 0 (.global 5) 0) 1,
  op 7 (.load 0 (.global 6)) 1,
  op 8 (call (.func 457) #[(.global 7)]) 1,
  op 9 (.unOp .not 0 (.global 8)) 1,
  op 10 (.move (.global 9)) 1,
  op 11 (.move (.tmp 0)) 1 (some (41, false)),
  op 12 (.nilCheck (.global 11)) 1 (some (41, false)),
  op 13 (.fieldAddr 1 (.global 12) 0) 1 (some (41, false)),
  op 14 (.load 0 (.global 13)) 1 (some (41, false)),
  op 15 (call (.func 457) #[(.global 14)]) 1 (some (41, false)),
  op 16 (.unOp .not 0 (.global 15)) 1 (some (41, false)),
  op 17 (.pick (.global 10) (.const (B true)) (.global 16)) 1,
  op 18 (.move (.global 17)) 1,
  op 19 (.move (.tmp 0)) 1 (some (73, false)),
  op 20 (.nilCheck (.global 19)) 1 (some (73, false)),
  op 21 (.fieldAddr 2 (.global 20) 0) 1 (some (73, false)),
  op 22 (.load 0 (.global 21)) 1 (some (73, false)),
  op 23 (bi .len #[(.global 22)] 1) 1 (some (73, false)),
  op 24 (.move (.tmp 0)) 1 (some (73, false)),
  op 25 (.nilCheck (.global 24)) 1 (some (73, false)),
  op 26 (.fieldAddr 0 (.global 25) 0) 1 (some (73, false)),
  op 27 (.load 0 (.global 26)) 1 (some (73, false)),
  op 28 (.move (.tmp 0)) 1 (some (73, false)),
  op 29 (.nilCheck (.global 28)) 1 (some (73, false)),
  op 30 (.fieldAddr 1 (.global 29) 0) 1 (some (73, false)),
  op 31 (.load 0 (.global 30)) 1 (some (73, false)),
  op 32 (call (.func 448) #[(.global 27), (.global 31)]) 3 (some (73, false)),
  op 33 (.binOp .neq 0 (.global 23) (.global 32) 0) 1 (some (73, false)),
  op 34 (.pick (.global 18) (.const (B true)) (.global 33))])
(.cond (.tmp 34)
  (.seq (reg [op 2 (.move (.const (B false)))])
  .ret)
  .skip))
(.seq (.seq (reg [op 3 (.move (.const (I 0)))])
(.block 0
  (.loop
    (.seq (.seq (reg [op 35 (.move (.tmp 3)) 1,
      op 36 (.move (.tmp 0)) 1,
      op 37 (.nilCheck (.global 36)) 1,
      op 38 (.fieldAddr 2 (.global 37) 0) 1,
      op 39 (.load 0 (.global 38)) 1,
      op 40 (bi .len #[(.global 39)] 1) 1,
      op 41 (.binOp .lss 0 (.global 35) (.global 40) 0)])
    (.cond (.tmp 41)
      .skip
      (.exit 0)))
    (.seq (.block 1
      (.seq (reg [op 44 (.move (.tmp 0)) 1,
        op 45 (.nilCheck (.global 44)) 1,
        op 46 (.fieldAddr 2 (.global 45) 0) 1,
        op 47 (.load 0 (.global 46)) 1,
        op 48 (.move (.tmp 3)) 1,
        op 49 (.indexAddr 3 (.global 47) (.global 48)) 1,
        op 50 (.load 0 (.global 49)) 1,
        op 51 (call (.func 432) #[(.global 50), (.const (I 0)), (.const (I 2))]) 1,
        op 52 (.unOp .not 0 (.global 51))])
      (.cond (.tmp 52)
        (.seq (reg [op 2 (.move (.const (B false)))])
        .ret)
        .skip)))
    (reg [op 42 (.move (.tmp 3)) 1,
      op 43 (.binOp .add 0 (.global 42) (.const (I 1)) 0) 1,
      op 3 (.move (.global 43))]))))))
(.seq (reg [op 2 (.move (.const (B true)))])
.ret)))), [(2, 0)]⟩

/-- impl.validSize -/
def fn198 : AFun := ⟨2,
(.seq (reg [op 4 (.move (.const (B false)))])
(.seq (reg [op 5 (.move (.tmp 0)) 1,
  op 6 (call (.func 164) #[(.global 5), (.const (I 1)), (.const (I 8))]) 1,
  op 7 (.move (.global 6)) 1,
  op 8 (.move (.tmp 1)) 1 (some (29, true)),
  op 9 (call (.func 164) #[(.global 8), (.const (I 1)), (.const (I 8))]) 1 (some (29, true)),
  op 10 (.pick (.global 7) (.global 9) (.const (B false))) 1,
  op 4 (.move (.global 10))])
.ret)), [(4, 0)]⟩

/-- (*spec.l00Src).pick -/
def fn7 : AFun := ⟨2,
(.seq (reg [op 4 (.move (.const (I 0)))])
(.seq (.seq (reg [op 6 (.move (.tmp 1)) 1,
  op 7 (.binOp .leq 0 (.global 6) (.const (I 1)) 0)])
(.cond (.tmp 7)
  (.seq (reg [op 4 (.move (.const (I 0)))])
  .ret)
  .skip))
(.seq (reg [op 8 (.move (.tmp 0)) 1,
  op 9 (call (.func 5) #[(.global 8)]) 1,
  op 5 (.move (.global 9))])
(.seq (.seq (reg [op 10 (.move (.tmp 1)) 1,
  op 11 (.binOp .gtr 0 (.global 10) (.const (I 200)) 0)])
(.cond (.tmp 11)
  (reg [op 12 (.move (.tmp 5)) 1,
    op 13 (.binOp .mul 0 (.global 12) (.const (I 256)) 0) 1,
    op 14 (.move (.tmp 0)) 1,
    op 15 (call (.func 5) #[(.global 14)]) 1,
    op 16 (.binOp .add 0 (.global 13) (.global 15) 0) 1,
    op 5 (.move (.global 16))])
  .skip))
(.seq (reg [op 17 (.move (.tmp 5)) 1,
  op 18 (.move (.tmp 1)) 1,
  op 19 (.binOp .rem 0 (.global 17) (.global 18) 0) 1,
  op 4 (.move (.global 19))])
.ret))))), [(4, 0)]⟩

/-- spec.l02Side -/
def fn457 : AFun := ⟨1,
(.seq (reg [op 2 (.move (.const (B false)))])
(.seq (reg [op 3 (.move (.tmp 0)) 1,
  op 4 (call (.func 432) #[(.global 3), (.const (I 1)), (.const (I 8))]) 1,
  op 2 (.move (.global 4))])
.ret)), [(2, 0)]⟩

/-- (*spec.l00Src).one -/
def fn6 : AFun := ⟨2,
(.seq (reg [op 4 (.move (.const (B false)))])
(.seq (reg [op 5 (.move (.tmp 0)) 1,
  op 6 (.move (.tmp 1)) 1,
  op 7 (call (.func 7) #[(.global 5), (.global 6)]) 1,
  op 8 (.binOp .eql 0 (.global 7) (.const (I 0)) 0) 1,
  op 4 (.move (.global 8))])
.ret)), [(4, 0)]⟩

/-- spec.l01Spoil -/
def fn442 : AFun := ⟨2,
(.seq (reg [op 4 (.move (.const (S [])))])
(.seq (.seq (reg [op 7 (.move (.tmp 0)) 1,
  op 8 (call (.func 7) #[(.global 7), (.const (I 5))])])
(.block 0
  (.seq (reg [op 10 (.binOp .eql 0 (.tmp 8) (.const (I 0)) 0) 1,
    op 9 (.move (.global 10))])
  (.cond (.tmp 9)
    (.seq (reg [op 11 (.move (.tmp 0)) 1,
      op 12 (.move (.tmp 1)) 1,
      op 13 (bi .len #[(.global 12)] 0) 1,
      op 14 (.binOp .add 0 (.global 13) (.const (I 1)) 0) 1,
      op 15 (call (.func 7) #[(.global 11), (.global 14)]) 1,
      op 5 (.move (.global 15))])
    (reg [op 16 (.move (.tmp 1)) 1,
      op 17 (.move (.tmp 5)) 1,
      op 18 (.slice 0 (.global 16) none (some (.global 17)) none) 1,
      op 19 (.move (.tmp 0)) 1,
      op 20 (.buildSlice 1 7 #[(0, (.const (.agg #[(S []), (S []), (S []), (S []), (S []), (S []), (S [])]))), (1, (.const (S [32]))), (1001, (.const (S [48]))), (2001, (.const (S [45]))), (3001, (.const (S [120]))), (4001, (.const (S [49]))), (5001, (.const (S [57]))), (6001, (.const (S [46])))]) 1,
      op 21 (call (.func 8) #[(.global 19), (.global 20)]) 1,
      op 22 (.binOp .add 0 (.global 18) (.global 21) 0) 1,
      op 23 (.move (.tmp 1)) 1,
      op 24 (.move (.tmp 5)) 1,
      op 25 (.slice 0 (.global 23) (some (.global 24)) none none) 1,
      op 26 (.binOp .add 0 (.global 22) (.global 25) 0) 1,
      op 1 (.move (.global 26))]))
    (.seq (reg [op 28 (.binOp .eql 0 (.tmp 8) (.const (I 1)) 0) 1,
      op 27 (.move (.global 28))])
    (.cond (.tmp 27)
      (.seq (reg [op 29 (.move (.tmp 1)) 1,
        op 30 (.binOp .neq 0 (.global 29) (.const (S [])) 0)])
      (.cond (.tmp 30)
        (.seq (reg [op 31 (.move (.tmp 0)) 1,
          op 32 (.move (.tmp 1)) 1,
          op 33 (bi .len #[(.global 32)] 0) 1,
          op 34 (call (.func 7) #[(.global 31), (.global 33)]) 1,
          op 6 (.move (.global 34))])
        (reg [op 35 (.move (.tmp 1)) 1,
          op 36 (.move (.tmp 6)) 1,
          op 37 (.slice 0 (.global 35) none (some (.global 36)) none) 1,
          op 38 (.move (.tmp 1)) 1,
          op 39 (.move (.tmp 6)) 1,
          op 40 (.binOp .add 0 (.global 39) (.const (I 1)) 0) 1,
          op 41 (.slice 0 (.global 38) (some (.global 40)) none none) 1,
          op 42 (.binOp .add 0 (.global 37) (.global 41) 0) 1,
          op 1 (.move (.global 42))]))
        .skip))
      .skip))))))
(.seq (reg [op 43 (.move (.tmp 1)) 1,
  op 4 (.move (.global 43))])
.ret))), [(4, 0)]⟩

/-- spec.l02Same -/
def fn456 : AFun := ⟨2,
(.seq (reg [op 4 (.move (.const (B false)))])
(.seq (reg [op 5 (.move (.tmp 0)) 1,
  op 6 (.nilCheck (.global 5)) 1,
  op 7 (.fieldAddr 0 (.global 6) 0) 1,
  op 8 (.load 0 (.global 7)) 1,
  op 9 (.move (.tmp 1)) 1,
  op 10 (.nilCheck (.global 9)) 1,
  op 11 (.fieldAddr 0 (.global 10) 0) 1,
  op 12 (.load 0 (.global 11)) 1,
  op 13 (.binOp .eql 0 (.global 8) (.global 12) 0) 1,
  op 14 (.move (.global 13)) 1,
  op 15 (.move (.tmp 0)) 1 (some (57, true)),
  op 16 (.nilCheck (.global 15)) 1 (some (57, true)),
  op 17 (.fieldAddr 1 (.global 16) 0) 1 (some (57, true)),
  op 18 (.load 0 (.global 17)) 1 (some (57, true)),
  op 19 (.move (.tmp 1)) 1 (some (57, true)),
  op 20 (.nilCheck (.global 19)) 1 (some (57, true)),
  op 21 (.fieldAddr 1 (.global 20) 0) 1 (some (57, true)),
  op 22 (.load 0 (.global 21)) 1 (some (57, true)),
  op 23 (.binOp .eql 0 (.global 18) (.global 22) 0) 1 (some (57, true)),
  op 24 (.pick (.global 14) (.global 23) (.const (B false))) 1,
  op 25 (.move (.global 24)) 1,
  op 26 (.move (.tmp 0)) 1 (some (101, true)),
  op 27 (.nilCheck (.global 26)) 1 (some (101, true)),
  op 28 (.fieldAddr 2 (.global 27) 0) 1 (some (101, true)),
  op 29 (.load 0 (.global 28)) 1 (some (101, true)),
  op 30 (.move (.tmp 1)) 1 (some (101, true)),
  op 31 (.nilCheck (.global 30)) 1 (some (101, true)),
  op 32 (.fieldAddr 2 (.global 31) 0) 1 (some (101, true)),
  op 33 (.load 0 (.global 32)) 1 (some (101, true)),
  op 34 (call (.func 436) #[(.global 29), (.global 33)]) 1 (some (101, true)),
  op 35 (.pick (.global 25) (.global 34) (.const (B false))) 1,
  op 4 (.move (.global 35))])
.ret)), [(4, 0)]⟩

/-- impl.clonePanel -/
def fn150 : AFun := ⟨1,
(.seq (reg [op 1 (.makeChan 3 (.tmp 0)),
  op 2 (.move (.const (.agg #[(I 0), (I 0), (sl 0 0 0 0)])))])
(.seq (reg [op 3 (.fieldAddr 2 (.tmp 1) 1) 1,
  op 4 (.lookup 0 (.tmp 1) (.global 3) false) 1,
  op 5 (call (.func 308) #[(.global 4)]) 1,
  op 6 (.fieldAddr 2 (.tmp 1) 1) 1,
  op 1 (.insert 1 (.tmp 1) (.global 6) (.global 5))])
(.seq (reg [op 7 (.lookup 4 (.tmp 1) (.tmp 1) false) 1,
  op 2 (.insert 3 (.tmp 2) (.tmp 2) (.global 7))])
.ret))), [(2, 1000004)]⟩

/-- impl.hasIndex -/
def fn163 : AFun := ⟨2,
(.seq (reg [op 4 (.move (.const (B false)))])
(.seq (reg [op 5 (.move (.tmp 0)) 1,
  op 6 (.move (.tmp 1)) 1,
  op 7 (.binOp .sub 0 (.global 6) (.const (I 1)) 0) 1,
  op 8 (call (.func 164) #[(.global 5), (.const (I 0)), (.global 7)]) 1,
  op 4 (.move (.global 8))])
.ret)), [(4, 0)]⟩

/-- impl.validBreak -/
def fn196 : AFun := ⟨1,
(.seq (reg [op 2 (.move (.const (B false)))])
(.seq (reg [op 3 (.move (.tmp 0)) 1,
  op 4 (call (.func 164) #[(.global 3), (.const (I 0)), (.const (I 2))]) 1,
  op 2 (.move (.global 4))])
.ret)), [(2, 0)]⟩

/-- impl.inRange -/
def fn164 : AFun := ⟨3,
(.seq (reg [op 6 (.move (.const (B false)))])
(.seq (reg [op 7 (.move (.tmp 0)) 1,
  op 8 (.move (.tmp 1)) 1,
  op 9 (.binOp .geq 0 (.global 7) (.global 8) 0) 1,
  op 10 (.move (.global 9)) 1,
  op 11 (.move (.tmp 0)) 1 (some (41, true)),
  op 12 (.move (.tmp 2)) 1 (some (41, true)),
  op 13 (.binOp .leq 0 (.global 11) (.global 12) 0) 1 (some (41, true)),
  op 14 (.pick (.global 10) (.global 13) (.const (B false))) 1,
  op 6 (.move (.global 14))])
.ret)), [(6, 0)]⟩

/-- spec.l25Vary -/
def fn555 : AFun := ⟨2,
(.seq (reg [op 4 (.move (.const (.agg #[(I 0), (I 0), (sl 0 0 0 0)])))])
(.seq (reg [op 7 (.move (.tmp 1)) 1,
  op 8 (call (.func 453) #[(.global 7)]) 1,
  op 5 (.move (.const (.agg #[(I 0), (I 0), (sl 0 0 0 0)]))),
  op 5 (.insert 3 (.tmp 5) (.tmp 5) (.global 8))])
(.seq (.seq (reg [op 9 (.move (.tmp 0)) 1,
  op 10 (call (.func 7) #[(.global 9), (.const (I 5))]) 1,
  op 6 (.move (.global 10))])
(.block 0
  (.loop
    (.seq (.seq (reg [op 11 (.move (.tmp 6)) 1,
      op 12 (.binOp .gtr 0 (.global 11) (.const (I 0)) 0) 1,
      op 13 (.move (.global 12)) 1,
      op 14 (.fieldAddr 2 (.tmp 5) 1) 1 (some (53, true)),
      op 15 (.lookup 0 (.tmp 5) (.global 14) false) 1 (some (53, true)),
      op 16 (bi .len #[(.global 15)] 1) 1 (some (53, true)),
      op 17 (.binOp .gtr 0 (.global 16) (.const (I 0)) 0) 1 (some (53, true)),
      op 18 (.pick (.global 13) (.global 17) (.const (B false)))])
    (.cond (.tmp 18)
      .skip
      (.exit 0)))
    (.seq (.block 1
      (reg [op 21 (.fieldAddr 2 (.tmp 5) 1) 1,
        op 22 (.lookup 0 (.tmp 5) (.global 21) false) 1,
        op 23 (.move (.tmp 0)) 1,
        op 24 (.fieldAddr 2 (.tmp 5) 1) 1,
        op 25 (.lookup 0 (.tmp 5) (.global 24) false) 1,
        op 26 (bi .len #[(.global 25)] 1) 1,
        op 27 (call (.func 7) #[(.global 23), (.global 26)]) 1,
        op 28 (.move (.tmp 0)) 1,
        op 29 (call (.func 7) #[(.global 28), (.const (I 3))]) 1,
        op 30 (.indexAddr 3 (.global 22) (.global 27)) 1,
        opn (.store 1 (.global 30) (.global 29))]))
    (reg [op 19 (.move (.tmp 6)) 1,
      op 20 (.binOp .sub 0 (.global 19) (.const (I 1)) 0) 1,
      op 6 (.move (.global 20))]))))))
(.seq (reg [op 31 (.lookup 4 (.tmp 5) (.tmp 5) false) 1,
  op 4 (.insert 3 (.tmp 4) (.tmp 4) (.global 31))])
.ret)))), [(4, 1000004)]⟩

/-- impl.sameSize -/
def fn186 : AFun := ⟨2,
(.seq (reg [op 2 (.makeChan 3 (.tmp 0)),
  op 3 (.makeChan 3 (.tmp 1)),
  op 4 (.move (.const (B false)))])
(.seq (reg [op 5 (.fieldAddr 0 (.tmp 2) 1) 1,
  op 6 (.lookup 0 (.tmp 2) (.global 5) false) 1,
  op 7 (.fieldAddr 0 (.tmp 3) 1) 1,
  op 8 (.lookup 0 (.tmp 3) (.global 7) false) 1,
  op 9 (.binOp .eql 0 (.global 6) (.global 8) 0) 1,
  op 10 (.move (.global 9)) 1,
  op 11 (.fieldAddr 1 (.tmp 2) 1) 1 (some (41, true)),
  op 12 (.lookup 0 (.tmp 2) (.global 11) false) 1 (some (41, true)),
  op 13 (.fieldAddr 1 (.tmp 3) 1) 1 (some (41, true)),
  op 14 (.lookup 0 (.tmp 3) (.global 13) false) 1 (some (41, true)),
  op 15 (.binOp .eql 0 (.global 12) (.global 14) 0) 1 (some (41, true)),
  op 16 (.pick (.global 10) (.global 15) (.const (B false))) 1,
  op 4 (.move (.global 16))])
.ret)), [(4, 0)]⟩

/-- spec.l25Sizes -/
def fn552 : AFun := ⟨1,
(.seq (reg [op 2 (.move (.const (I 0)))])
(.seq (.seq (reg [op 3 (.move (.const (I 0)))])
(.block 0
  (.loop
    (.seq (.seq (reg [op 5 (.move (.tmp 3)) 1,
      op 6 (.move (.tmp 0)) 1,
      op 7 (bi .len #[(.global 6)] 1) 1,
      op 8 (.binOp .lss 0 (.global 5) (.global 7) 0)])
    (.cond (.tmp 8)
      .skip
      (.exit 0)))
    (.seq (.block 1
      (.seq (reg [op 11 (.move (.tmp 0)) 1,
        op 12 (.move (.tmp 3)) 1,
        op 13 (.indexAddr 3 (.global 11) (.global 12)) 1,
        op 14 (.load 0 (.global 13)) 1,
        op 15 (call (.func 452) #[(.global 14)]) 1,
        op 16 (.unOp .not 0 (.global 15))])
      (.cond (.tmp 16)
        (.seq (reg [op 2 (.move (.const (I 1)))])
        .ret)
        .skip)))
    (reg [op 9 (.move (.tmp 3)) 1,
      op 10 (.binOp .add 0 (.global 9) (.const (I 1)) 0) 1,
      op 3 (.move (.global 10))]))))))
(.seq (.seq (reg [op 4 (.move (.const (I 1)))])
(.block 2
  (.loop
    (.seq (.seq (reg [op 17 (.move (.tmp 4)) 1,
      op 18 (.move (.tmp 0)) 1,
      op 19 (bi .len #[(.global 18)] 1) 1,
      op 20 (.binOp .lss 0 (.global 17) (.global 19) 0)])
    (.cond (.tmp 20)
      .skip
      (.exit 2)))
    (.seq (.block 3
      (.seq (reg [op 23 (.move (.tmp 0)) 1,
        op 24 (.move (.tmp 4)) 1,
        op 25 (.indexAddr 3 (.global 23) (.global 24)) 1,
        op 26 (.load 0 (.global 25)) 1,
        op 27 (.nilCheck (.global 26)) 1,
        op 28 (.fieldAddr 0 (.global 27) 0) 1,
        op 29 (.load 0 (.global 28)) 1,
        op 30 (.move (.tmp 0)) 1,
        op 31 (.indexAddr 3 (.global 30) (.const (I 0))) 1,
        op 32 (.load 0 (.global 31)) 1,
        op 33 (.nilCheck (.global 32)) 1,
        op 34 (.fieldAddr 0 (.global 33) 0) 1,
        op 35 (.load 0 (.global 34)) 1,
        op 36 (.binOp .neq 0 (.global 29) (.global 35) 0) 1,
        op 37 (.move (.global 36)) 1,
        op 38 (.move (.tmp 0)) 1 (some (149, false)),
        op 39 (.move (.tmp 4)) 1 (some (149, false)),
        op 40 (.indexAddr 3 (.global 38) (.global 39)) 1 (some (149, false)),
        op 41 (.load 0 (.global 40)) 1 (some (149, false)),
        op 42 (.nilCheck (.global 41)) 1 (some (149, false)),
        op 43 (.fieldAddr 1 (.global 42) 0) 1 (some (149, false)),
        op 44 (.load 0 (.global 43)) 1 (some (149, false)),
        op 45 (.move (.tmp 0)) 1 (some (149, false)),
        op 46 (.indexAddr 3 (.global 45) (.const (I 0))) 1 (some (149, false)),
        op 47 (.load 0 (.global 46)) 1 (some (149, false)),
        op 48 (.nilCheck (.global 47)) 1 (some (149, false)),
        op 49 (.fieldAddr 1 (.global 48) 0) 1 (some (149, false)),
        op 50 (.load 0 (.global 49)) 1 (some (149, false)),
        op 51 (.binOp .neq 0 (.global 44) (.global 50) 0) 1 (some (149, false)),
        op 52 (.pick (.global 37) (.const (B true)) (.global 51))])
      (.cond (.tmp 52)
        (.seq (reg [op 2 (.move (.const (I 6)))])
        .ret)
        .skip)))
    (reg [op 21 (.move (.tmp 4)) 1,
      op 22 (.binOp .add 0 (.global 21) (.const (I 1)) 0) 1,
      op 4 (.move (.global 22))]))))))
(.seq (reg [op 2 (.move (.const (I 0)))])
.ret)))), [(2, 0)]⟩

/-- spec.l25Bent -/
def fn547 : AFun := ⟨2,
(.seq (reg [op 4 (.move (.const (sl 0 0 0 0)))])
(.seq (.seq (reg [op 11 (.move (.tmp 1)) 1,
  op 12 (call (.func 452) #[(.global 11)]) 1,
  op 13 (.unOp .not 0 (.global 12))])
(.cond (.tmp 13)
  (.seq (reg [op 14 (.build 0 #[(0, (.const (.agg #[(I 0), (I 0), (I 0)]))), (2001, (.const (I 1)))]) 1,
    op 15 (.buildSlice 3 1 #[(0, (.const (.agg #[(I 0), (I 0), (I 0)]))), (3, (.global 14))]) 1,
    op 4 (.move (.global 15))])
  .ret)
  .skip))
(.seq (reg [op 16 (.move (.tmp 0)) 1,
  op 17 (.move (.tmp 1)) 1,
  op 18 (call (.func 555) #[(.global 16), (.global 17)]) 1,
  op 5 (.move (.const (.agg #[(I 0), (I 0), (sl 0 0 0 0)]))),
  op 5 (.insert 3 (.tmp 5) (.tmp 5) (.global 18))])
(.seq (reg [op 20 (.move (.tmp 1)) 1,
  op 21 (.nilCheck (.global 20)) 1,
  op 22 (.load 4 (.global 21)) 1,
  op 23 (.lookup 4 (.tmp 5) (.tmp 5) false) 1,
  op 24 (call (.func 346) #[(.global 22), (.global 23)]) 1,
  op 19 (.move (.global 24)) 1,
  op 25 (.extract (.global 19) 0) 1,
  op 26 (.extract (.global 19) 1) 1,
  op 6 (.move (.global 25)),
  op 7 (.move (.global 26)) 1])
(.seq (.seq (reg [op 27 (.move (.tmp 6)) 1,
  op 28 (bi .len #[(.global 27)] 1) 1,
  op 29 (.binOp .eql 0 (.global 28) (.const (I 0)) 0)])
(.cond (.tmp 29)
  (.seq (reg [op 30 (.move (.tmp 6)) 1,
    op 4 (.move (.global 30))])
  .ret)
  .skip))
(.seq (reg [op 31 (.move (.tmp 6)) 1,
  op 32 (.indexAddr 7 (.global 31) (.const (I 0))) 1,
  op 8 (.move (.global 32))])
(.seq (.seq (reg [op 33 (.move (.tmp 0)) 1,
  op 34 (call (.func 7) #[(.global 33), (.const (I 16))])])
(.block 0
  (.seq (reg [op 36 (.binOp .eql 0 (.tmp 34) (.const (I 0)) 0) 1,
    op 35 (.move (.global 36))])
  (.cond (.tmp 35)
    (reg [op 37 (.move (.tmp 8)) 1,
      op 38 (.move (.tmp 0)) 1,
      op 39 (.move (.tmp 1)) 1,
      op 40 (.nilCheck (.global 39)) 1,
      op 41 (.fieldAddr 2 (.global 40) 0) 1,
      op 42 (.load 0 (.global 41)) 1,
      op 43 (bi .len #[(.global 42)] 1) 1,
      op 44 (.buildSlice 1 4 #[(0, (.const (.agg #[(I 0), (I 0), (I 0), (I 0)]))), (1, (.const (I (-1)))), (1001, (.global 43)), (2001, (.const (I 111))), (3001, (.const (I 112)))]) 1,
      op 45 (call (.func 4) #[(.global 38), (.global 44)]) 1,
      op 46 (.nilCheck (.global 37)) 1,
      op 47 (.fieldAddr 0 (.global 46) 0) 1,
      opn (.store 1 (.global 47) (.global 45))])
    (.seq (reg [op 49 (.binOp .eql 0 (.tmp 34) (.const (I 1)) 0) 1,
      op 48 (.move (.global 49))])
    (.cond (.tmp 48)
      (reg [op 50 (.move (.tmp 8)) 1,
        op 51 (.move (.tmp 0)) 1,
        op 52 (.buildSlice 1 3 #[(0, (.const (.agg #[(I 0), (I 0), (I 0)]))), (1, (.const (I (-1)))), (1001, (.const (I 2))), (2001, (.const (I 3)))]) 1,
        op 53 (call (.func 4) #[(.global 51), (.global 52)]) 1,
        op 54 (.nilCheck (.global 50)) 1,
        op 55 (.fieldAddr 2 (.global 54) 0) 1,
        opn (.store 1 (.global 55) (.global 53))])
      (.seq (reg [op 57 (.binOp .eql 0 (.tmp 34) (.const (I 2)) 0) 1,
        op 56 (.move (.global 57))])
      (.cond (.tmp 56)
        (reg [op 58 (.move (.tmp 8)) 1,
          op 59 (.move (.tmp 0)) 1,
          op 60 (call (.func 7) #[(.global 59), (.const (I 4))]) 1,
          op 61 (.nilCheck (.global 58)) 1,
          op 62 (.fieldAddr 1 (.global 61) 0) 1,
          opn (.store 1 (.global 62) (.global 60))])
        .skip))))))))
(.seq (.seq (reg [op 63 (.move (.tmp 0)) 1,
  op 64 (call (.func 6) #[(.global 63), (.const (I 30))])])
(.cond (.tmp 64)
  (.seq (reg [op 65 (.move (.const (sl 0 0 0 3))) 1,
    op 9 (.move (.global 65))])
  (.seq (.seq (reg [op 66 (.move (.tmp 0)) 1,
    op 67 (call (.func 7) #[(.global 66), (.const (I 2))]) 1,
    op 68 (.binOp .add 0 (.const (I 112)) (.global 67) 0) 1,
    op 10 (.move (.global 68))])
  (.block 1
    (.loop
      (.seq (.seq (reg [op 69 (.move (.tmp 10)) 1,
        op 70 (.binOp .gtr 0 (.global 69) (.const (I 0)) 0)])
      (.cond (.tmp 70)
        .skip
        (.exit 1)))
      (.seq (.block 2
        (reg [op 73 (.move (.tmp 9)) 1,
          op 74 (.move (.tmp 1)) 1,
          op 75 (.nilCheck (.global 74)) 1,
          op 76 (.fieldAddr 2 (.global 75) 0) 1,
          op 77 (.load 0 (.global 76)) 1,
          op 78 (.indexAddr 3 (.global 77) (.const (I 0))) 1,
          op 79 (.load 0 (.global 78)) 1,
          op 80 (.move (.tmp 1)) 1,
          op 81 (.nilCheck (.global 80)) 1,
          op 82 (.fieldAddr 2 (.global 81) 0) 1,
          op 83 (.load 0 (.global 82)) 1,
          op 84 (.indexAddr 3 (.global 83) (.const (I 0))) 1,
          op 85 (.load 0 (.global 84)) 1,
          op 86 (.build 0 #[(0, (.const (.agg #[(I 0), (I 0), (I 0)]))), (1, (.const (I 0))), (1001, (.global 79)), (2001, (.global 85))]) 1,
          op 87 (.buildSlice 3 1 #[(0, (.const (.agg #[(I 0), (I 0), (I 0)]))), (3, (.global 86))]) 1,
          op 88 (bi .append #[(.global 73), (.global 87)] 3) 1,
          op 9 (.move (.global 88))]))
      (reg [op 71 (.move (.tmp 10)) 1,
        op 72 (.binOp .sub 0 (.global 71) (.const (I 1)) 0) 1,
        op 10 (.move (.global 72))]))))))
  (.seq (reg [op 89 (.move (.tmp 9)) 1,
    op 4 (.move (.global 89))])
  .ret)))
  .skip))
(.seq (reg [op 90 (.move (.tmp 6)) 1,
  op 4 (.move (.global 90))])
.ret))))))))), [(4, 0)]⟩

/-- spec.l02Own -/
def fn453 : AFun := ⟨1,
(.seq (reg [op 2 (.move (.const (.agg #[(I 0), (I 0), (sl 0 0 0 0)])))])
(.seq (reg [op 3 (.move (.tmp 0)) 1,
  op 4 (.nilCheck (.global 3)) 1,
  op 5 (.fieldAddr 0 (.global 4) 0) 1,
  op 6 (.load 0 (.global 5)) 1,
  op 7 (.move (.tmp 0)) 1,
  op 8 (.nilCheck (.global 7)) 1,
  op 9 (.fieldAddr 1 (.global 8) 0) 1,
  op 10 (.load 0 (.global 9)) 1,
  op 11 (.move (.tmp 0)) 1,
  op 12 (.nilCheck (.global 11)) 1,
  op 13 (.fieldAddr 2 (.global 12) 0) 1,
  op 14 (.load 0 (.global 13)) 1,
  op 15 (call (.func 435) #[(.global 14)]) 3,
  op 16 (.build 0 #[(0, (.const (.agg #[(I 0), (I 0), (sl 0 0 0 0)]))), (1, (.global 6)), (1001, (.global 10)), (2001, (.global 15))]) 1,
  op 2 (.insert 3 (.tmp 2) (.tmp 2) (.global 16))])
.ret)), [(2, 1000004)]⟩

/-- spec.l00In -/
def fn432 : AFun := ⟨3,
(.seq (reg [op 6 (.move (.const (B false)))])
(.seq (reg [op 7 (.move (.tmp 0)) 1,
  op 8 (.move (.tmp 1)) 1,
  op 9 (.binOp .geq 0 (.global 7) (.global 8) 0) 1,
  op 10 (.move (.global 9)) 1,
  op 11 (.move (.tmp 0)) 1 (some (41, true)),
  op 12 (.move (.tmp 2)) 1 (some (41, true)),
  op 13 (.binOp .leq 0 (.global 11) (.global 12) 0) 1 (some (41, true)),
  op 14 (.pick (.global 10) (.global 13) (.const (B false))) 1,
  op 6 (.move (.global 14))])
.ret)), [(6, 0)]⟩

/-- spec.l02Kind -/
def fn449 : AFun := ⟨1,
(.seq (reg [op 2 (.move (.const (B false)))])
(.seq (reg [op 3 (.move (.tmp 0)) 1,
  op 4 (call (.func 432) #[(.global 3), (.const (I 0)), (.const (I 2))]) 1,
  op 2 (.move (.global 4))])
.ret)), [(2, 0)]⟩

/-- spec.DrawInverseDiff -/
def fn354 : AFun := ⟨1,
(.seq (reg [op 2 (.move (.const (sl 0 0 0 0)))])
(.seq (reg [op 6 (.move (.tmp 0)) 1,
  op 7 (call (.func 350) #[(.global 6)]) 1,
  op 5 (.move (.global 7)) 1,
  op 8 (.extract (.global 5) 0) 1,
  op 9 (.extract (.global 5) 1) 1,
  op 3 (.move (.const (.agg #[(I 0), (I 0), (sl 0 0 0 0)]))),
  op 3 (.insert 3 (.tmp 3) (.tmp 3) (.global 8)),
  op 4 (.move (.global 9))])
(.seq (reg [op 10 (.move (.tmp 4)) 1,
  op 2 (.move (.global 10))])
.ret))), [(2, 0)]⟩

/-- impl.validDiff -/
def fn197 : AFun := ⟨1,
(.seq (reg [op 2 (.move (.const (B false)))])
(.seq (.seq (reg [op 5 (.move (.tmp 0)),
  op 6 (bi .len #[(.tmp 5)] 1),
  op 7 (.move (.const (I 0)))])
(.block 0
  (.loop
    (.seq (reg [op 8 (.binOp .lss 0 (.tmp 7) (.tmp 6) 0)])
    (.seq (.cond (.tmp 8)
      .skip
      (.exit 0))
    (.seq (.block 1
      (.seq (reg [op 9 (.indexAddr 7 (.tmp 5) (.tmp 7)) 1,
        op 10 (.load 4 (.global 9)) 1,
        op 4 (.move (.const (.agg #[(I 0), (I 0), (I 0)]))),
        op 4 (.insert 3 (.tmp 4) (.tmp 4) (.global 10))])
      (.seq (reg [op 11 (.fieldAddr 0 (.tmp 4) 1) 1,
        op 12 (.lookup 0 (.tmp 4) (.global 11) false) 1,
        op 13 (call (.func 164) #[(.global 12), (.const (I 0)), (.const (I 111))]) 1,
        op 14 (.unOp .not 0 (.global 13)) 1,
        op 15 (.move (.global 14)) 1,
        op 16 (.fieldAddr 1 (.tmp 4) 1) 1 (some (61, false)),
        op 17 (.lookup 0 (.tmp 4) (.global 16) false) 1 (some (61, false)),
        op 18 (call (.func 196) #[(.global 17)]) 1 (some (61, false)),
        op 19 (.unOp .not 0 (.global 18)) 1 (some (61, false)),
        op 20 (.pick (.global 15) (.const (B true)) (.global 19)) 1,
        op 21 (.move (.global 20)) 1,
        op 22 (.fieldAddr 2 (.tmp 4) 1) 1 (some (85, false)),
        op 23 (.lookup 0 (.tmp 4) (.global 22) false) 1 (some (85, false)),
        op 24 (call (.func 196) #[(.global 23)]) 1 (some (85, false)),
        op 25 (.unOp .not 0 (.global 24)) 1 (some (85, false)),
        op 26 (.pick (.global 21) (.const (B true)) (.global 25))])
      (.cond (.tmp 26)
        (.seq (reg [op 2 (.move (.const (B false)))])
        .ret)
        .skip))))
    (reg [op 27 (.binOp .add 0 (.tmp 7) (.const (I 1)) 0) 1,
      op 7 (.move (.global 27))])))))))
(.seq (reg [op 28 (.move (.tmp 0)) 1,
  op 29 (bi .len #[(.global 28)] 1) 1,
  op 30 (.binOp .leq 0 (.global 29) (.const (I 112)) 0) 1,
  op 2 (.move (.global 30))])
.ret))), [(2, 0)]⟩

/-- impl.Decimal -/
def fn75 : AFun := ⟨1,
(.seq (reg [op 2 (.move (.const (S [])))])
(.seq (.seq (reg [op 6 (.move (.tmp 0)) 1,
  op 7 (.binOp .eql 0 (.global 6) (.const (I 0)) 0)])
(.cond (.tmp 7)
  (.seq (reg [op 2 (.move (.const (S [48])))])
  .ret)
  .skip))
(.seq (reg [op 8 (.build 0 #[(0, (.const (.agg #[(U 0), (U 0), (U 0), (U 0), (U 0), (U 0), (U 0), (U 0), (U 0), (U 0), (U 0), (U 0), (U 0), (U 0), (U 0), (U 0), (U 0), (U 0), (U 0), (U 0)])))]) 1,
  op 3 (.box 20 (.const (.agg #[(U 0), (U 0), (U 0), (U 0), (U 0), (U 0), (U 0), (U 0), (U 0), (U 0), (U 0), (U 0), (U 0), (U 0), (U 0), (U 0), (U 0), (U 0), (U 0), (U 0)]))),
  opn (.store 20 (.tmp 3) (.global 8))])
(.seq (reg [op 4 (.move (.const (I 20)))])
(.seq (reg [op 9 (.move (.tmp 0)) 1,
  op 10 (.convert 0 7 (.global 9)) 1,
  op 5 (.move (.global 10))])
(.seq (.seq (reg [op 11 (.move (.tmp 0)) 1,
  op 12 (.binOp .lss 0 (.global 11) (.const (I 0)) 0)])
(.cond (.tmp 12)
  (reg [op 13 (.move (.tmp 5)) 1,
    op 14 (.unOp .neg 0 (.global 13)) 1,
    op 5 (.move (.global 14))])
  .skip))
(.seq (.block 0
  (.loop
    (.seq (.seq (reg [op 15 (.move (.tmp 5)) 1,
      op 16 (.binOp .gtr 0 (.global 15) (.const (.int .u64 0)) 0)])
    (.cond (.tmp 16)
      .skip
      (.exit 0)))
    (.block 1
      (.seq (reg [op 17 (.move (.tmp 4)) 1,
        op 18 (.binOp .sub 0 (.global 17) (.const (I 1)) 0) 1,
        op 4 (.move (.global 18))])
      (.seq (reg [op 19 (.move (.tmp 4)) 1,
        op 20 (.move (.tmp 5)) 1,
        op 21 (.binOp .rem 0 (.global 20) (.const (.int .u64 10)) 0) 1,
        op 22 (.binOp .add 0 (.const (.int .u64 48)) (.global 21) 0) 1,
        op 23 (.convert 0 4 (.global 22)) 1,
        op 24 (.indexAddr 1020001 (.tmp 3) (.global 19)) 1,
        opn (.store 1 (.global 24) (.global 23))])
      (reg [op 25 (.move (.tmp 5)) 1,
        op 26 (.binOp .quo 0 (.global 25) (.const (.int .u64 10)) 0) 1,
        op 5 (.move (.global 26))])))))))
(.seq (.seq (reg [op 27 (.move (.tmp 0)) 1,
  op 28 (.binOp .lss 0 (.global 27) (.const (I 0)) 0)])
(.cond (.tmp 28)
  (.seq (reg [op 29 (.move (.tmp 4)) 1,
    op 30 (.binOp .sub 0 (.global 29) (.const (I 1)) 0) 1,
    op 4 (.move (.global 30))])
  (reg [op 31 (.move (.tmp 4)) 1,
    op 32 (.indexAddr 1020001 (.tmp 3) (.global 31)) 1,
    opn (.store 1 (.global 32) (.const (U 45)))]))
  .skip))
(.seq (reg [op 33 (.move (.tmp 4)) 1,
  op 34 (.slice 1020001 (.tmp 3) (some (.global 33)) none none) 1,
  op 35 (.convert 0 21 (.global 34)) 1,
  op 2 (.move (.global 35))])
.ret))))))))), [(2, 0)]⟩

/-- impl.joined -/
def fn167 : AFun := ⟨2,
(.seq (reg [op 4 (.move (.const (S [])))])
(.seq (reg [op 5 (.move (.const (S [])))])
(.seq (.seq (reg [op 8 (.move (.tmp 0)),
  op 9 (bi .len #[(.tmp 8)] 1),
  op 10 (.move (.const (I 0)))])
(.block 0
  (.loop
    (.seq (reg [op 11 (.binOp .lss 0 (.tmp 10) (.tmp 9) 0)])
    (.seq (.cond (.tmp 11)
      .skip
      (.exit 0))
    (.seq (.block 1
      (.seq (reg [op 12 (.move (.tmp 10)) 1,
        op 13 (.indexAddr 3 (.tmp 8) (.tmp 10)) 1,
        op 14 (.load 0 (.global 13)) 1,
        op 6 (.move (.global 12)),
        op 7 (.move (.global 14))])
      (.seq (.seq (reg [op 15 (.move (.tmp 6)) 1,
        op 16 (.binOp .gtr 0 (.global 15) (.const (I 0)) 0)])
      (.cond (.tmp 16)
        (reg [op 17 (.move (.tmp 5)) 1,
          op 18 (.move (.tmp 1)) 1,
          op 19 (.binOp .add 0 (.global 17) (.global 18) 0) 1,
          op 5 (.move (.global 19))])
        .skip))
      (reg [op 20 (.move (.tmp 5)) 1,
        op 21 (.move (.tmp 7)) 1,
        op 22 (.binOp .add 0 (.global 20) (.global 21) 0) 1,
        op 5 (.move (.global 22))]))))
    (reg [op 23 (.binOp .add 0 (.tmp 10) (.const (I 1)) 0) 1,
      op 10 (.move (.global 23))])))))))
(.seq (reg [op 24 (.move (.tmp 5)) 1,
  op 4 (.move (.global 24))])
.ret)))), [(4, 0)]⟩

/-- impl.splitAt -/
def fn189 : AFun := ⟨2,
(.seq (reg [op 4 (.move (.const (sl 0 0 0 0)))])
(.seq (reg [op 8 (.move (.const (sl 0 0 0 1))) 1,
  op 5 (.move (.global 8))])
(.seq (reg [op 6 (.move (.const (I 0)))])
(.seq (.seq (reg [op 9 (.move (.tmp 0)) 1,
  op 10 (bi .len #[(.global 9)] 0),
  op 11 (.move (.const (I 0)))])
(.block 0
  (.loop
    (.seq (reg [op 12 (.binOp .lss 0 (.tmp 11) (.tmp 10) 0)])
    (.seq (.cond (.tmp 12)
      .skip
      (.exit 0))
    (.seq (.block 1
      (.seq (reg [op 13 (.move (.tmp 11)) 1,
        op 7 (.move (.global 13))])
      (.seq (reg [op 14 (.move (.tmp 0)) 1,
        op 15 (.move (.tmp 7)) 1,
        op 16 (.index 0 (.global 14) (.global 15)) 1,
        op 17 (.move (.tmp 1)) 1,
        op 18 (.binOp .eql 0 (.global 16) (.global 17) 0)])
      (.cond (.tmp 18)
        (.seq (reg [op 19 (.move (.tmp 5)) 1,
          op 20 (.move (.tmp 0)) 1,
          op 21 (.move (.tmp 6)) 1,
          op 22 (.move (.tmp 7)) 1,
          op 23 (.slice 0 (.global 20) (some (.global 21)) (some (.global 22)) none) 1,
          op 24 (.buildSlice 1 1 #[(0, (.const (.agg #[(S [])]))), (1, (.global 23))]) 1,
          op 25 (bi .append #[(.global 19), (.global 24)] 1) 1,
          op 5 (.move (.global 25))])
        (reg [op 26 (.move (.tmp 7)) 1,
          op 27 (.binOp .add 0 (.global 26) (.const (I 1)) 0) 1,
          op 6 (.move (.global 27))]))
        .skip))))
    (reg [op 28 (.binOp .add 0 (.tmp 11) (.const (I 1)) 0) 1,
      op 11 (.move (.global 28))])))))))
(.seq (reg [op 29 (.move (.tmp 5)) 1,
  op 30 (.move (.tmp 0)) 1,
  op 31 (.move (.tmp 6)) 1,
  op 32 (.slice 0 (.global 30) (some (.global 31)) none none) 1,
  op 33 (.buildSlice 1 1 #[(0, (.const (.agg #[(S [])]))), (1, (.global 32))]) 1,
  op 34 (bi .append #[(.global 29), (.global 33)] 1) 1,
  op 4 (.move (.global 34))])
.ret))))), [(4, 0)]⟩

/-- impl.ReadDecimal -/
def fn118 : AFun := ⟨1,
(.seq (reg [op 2 (.move (.const (I 0))),
  op 3 (.move (.const (B false)))])
(.seq (reg [op 7 (.move (.tmp 0)) 1,
  op 4 (.move (.global 7))])
(.seq (.seq (reg [op 8 (.move (.tmp 0)) 1,
  op 9 (bi .len #[(.global 8)] 0) 1,
  op 10 (.binOp .gtr 0 (.global 9) (.const (I 0)) 0) 1,
  op 11 (.move (.global 10)) 1,
  op 12 (.move (.tmp 0)) 1 (some (45, true)),
  op 13 (.index 0 (.global 12) (.const (I 0))) 1 (some (45, true)),
  op 14 (.binOp .eql 0 (.global 13) (.const (U 45)) 0) 1 (some (45, true)),
  op 15 (.pick (.global 11) (.global 14) (.const (B false)))])
(.cond (.tmp 15)
  (reg [op 16 (.move (.tmp 0)) 1,
    op 17 (.slice 0 (.global 16) (some (.const (I 1))) none none) 1,
    op 4 (.move (.global 17))])
  .skip))
(.seq (.seq (reg [op 18 (.move (.tmp 4)) 1,
  op 19 (bi .len #[(.global 18)] 0) 1,
  op 20 (.binOp .lss 0 (.global 19) (.const (I 1)) 0) 1,
  op 21 (.move (.global 20)) 1,
  op 22 (.move (.tmp 4)) 1 (some (85, false)),
  op 23 (bi .len #[(.global 22)] 0) 1 (some (85, false)),
  op 24 (.binOp .gtr 0 (.global 23) (.const (I 18)) 0) 1 (some (85, false)),
  op 25 (.pick (.global 21) (.const (B true)) (.global 24))])
(.cond (.tmp 25)
  (.seq (reg [op 2 (.move (.const (I 0))),
    op 3 (.move (.const (B false)))])
  .ret)
  .skip))
(.seq (reg [op 5 (.move (.const (I 0)))])
(.seq (.seq (reg [op 26 (.move (.tmp 4)) 1,
  op 27 (bi .len #[(.global 26)] 0),
  op 28 (.move (.const (I 0)))])
(.block 0
  (.loop
    (.seq (reg [op 29 (.binOp .lss 0 (.tmp 28) (.tmp 27) 0)])
    (.seq (.cond (.tmp 29)
      .skip
      (.exit 0))
    (.seq (.block 1
      (.seq (reg [op 30 (.move (.tmp 28)) 1,
        op 6 (.move (.global 30))])
      (.seq (.seq (reg [op 31 (.move (.tmp 4)) 1,
        op 32 (.move (.tmp 6)) 1,
        op 33 (.index 0 (.global 31) (.global 32)) 1,
        op 34 (.binOp .lss 0 (.global 33) (.const (U 48)) 0) 1,
        op 35 (.move (.global 34)) 1,
        op 36 (.move (.tmp 4)) 1 (some (141, false)),
        op 37 (.move (.tmp 6)) 1 (some (141, false)),
        op 38 (.index 0 (.global 36) (.global 37)) 1 (some (141, false)),
        op 39 (.binOp .gtr 0 (.global 38) (.const (U 57)) 0) 1 (some (141, false)),
        op 40 (.pick (.global 35) (.const (B true)) (.global 39))])
      (.cond (.tmp 40)
        (.seq (reg [op 2 (.move (.const (I 0))),
          op 3 (.move (.const (B false)))])
        .ret)
        .skip))
      (reg [op 41 (.move (.tmp 5)) 1,
        op 42 (.binOp .mul 0 (.const (I 10)) (.global 41) 0) 1,
        op 43 (.move (.tmp 4)) 1,
        op 44 (.move (.tmp 6)) 1,
        op 45 (.index 0 (.global 43) (.global 44)) 1,
        op 46 (.binOp .sub 0 (.global 45) (.const (U 48)) 0) 1,
        op 47 (.convert 0 3 (.global 46)) 1,
        op 48 (.binOp .add 0 (.global 42) (.global 47) 0) 1,
        op 5 (.move (.global 48))]))))
    (reg [op 49 (.binOp .add 0 (.tmp 28) (.const (I 1)) 0) 1,
      op 28 (.move (.global 49))])))))))
(.seq (.seq (reg [op 50 (.move (.tmp 4)) 1,
  op 51 (bi .len #[(.global 50)] 0) 1,
  op 52 (.move (.tmp 0)) 1,
  op 53 (bi .len #[(.global 52)] 0) 1,
  op 54 (.binOp .lss 0 (.global 51) (.global 53) 0)])
(.cond (.tmp 54)
  (reg [op 55 (.move (.tmp 5)) 1,
    op 56 (.unOp .neg 0 (.global 55)) 1,
    op 5 (.move (.global 56))])
  .skip))
(.seq (.seq (reg [op 57 (.move (.tmp 5)) 1,
  op 58 (call (.func 75) #[(.global 57)]) 1,
  op 59 (.move (.tmp 0)) 1,
  op 60 (.binOp .neq 0 (.global 58) (.global 59) 0)])
(.cond (.tmp 60)
  (.seq (reg [op 2 (.move (.const (I 0))),
    op 3 (.move (.const (B false)))])
  .ret)
  .skip))
(.seq (reg [op 61 (.move (.tmp 5)) 1,
  op 2 (.move (.global 61)),
  op 3 (.move (.const (B true)))])
.ret))))))))), [(2, 0), (3, 0)]⟩

/-- impl.markKind -/
def fn174 : AFun := ⟨1,
(.seq (reg [op 2 (.move (.const (I 0)))])
(.seq (.seq (reg [op 4 (.move (.const (I 0)))])
(.block 0
  (.loop
    (.seq (reg [op 5 (.binOp .lss 0 (.tmp 4) (.const (I 3)) 0)])
    (.seq (.cond (.tmp 5)
      .skip
      (.exit 0))
    (.seq (.block 1
      (.seq (reg [op 6 (.move (.tmp 4)) 1,
        op 3 (.move (.global 6))])
      (.seq (reg [op 7 (.move (.tmp 3)) 1,
        op 8 (.index 0 (.const (S [43, 124, 45])) (.global 7)) 1,
        op 9 (.move (.tmp 0)) 1,
        op 10 (.binOp .eql 0 (.global 8) (.global 9) 0)])
      (.cond (.tmp 10)
        (.seq (reg [op 11 (.move (.tmp 3)) 1,
          op 2 (.move (.global 11))])
        .ret)
        .skip))))
    (reg [op 12 (.binOp .add 0 (.tmp 4) (.const (I 1)) 0) 1,
      op 4 (.move (.global 12))])))))))
(.seq (reg [op 2 (.move (.const (I (-1))))])
.ret))), [(2, 0)]⟩

/-- spec.l25List -/
def fn550 : AFun := ⟨1,
(.seq (reg [op 2 (.move (.const (B false)))])
(.seq (.seq (reg [op 3 (.move (.const (I 0)))])
(.block 0
  (.loop
    (.seq (.seq (reg [op 4 (.move (.tmp 3)) 1,
      op 5 (.move (.tmp 0)) 1,
      op 6 (bi .len #[(.global 5)] 1) 1,
      op 7 (.binOp .lss 0 (.global 4) (.global 6) 0)])
    (.cond (.tmp 7)
      .skip
      (.exit 0)))
    (.seq (.block 1
      (.seq (reg [op 10 (.move (.tmp 0)) 1,
        op 11 (.move (.tmp 3)) 1,
        op 12 (.indexAddr 7 (.global 10) (.global 11)) 1,
        op 13 (.fieldAddr 0 (.global 12) 0) 1,
        op 14 (.load 0 (.global 13)) 1,
        op 15 (call (.func 432) #[(.global 14), (.const (I 0)), (.const (I 111))]) 1,
        op 16 (.unOp .not 0 (.global 15)) 1,
        op 17 (.move (.global 16)) 1,
        op 18 (.move (.tmp 0)) 1 (some (69, false)),
        op 19 (.move (.tmp 3)) 1 (some (69, false)),
        op 20 (.indexAddr 7 (.global 18) (.global 19)) 1 (some (69, false)),
        op 21 (.fieldAddr 1 (.global 20) 0) 1 (some (69, false)),
        op 22 (.load 0 (.global 21)) 1 (some (69, false)),
        op 23 (call (.func 449) #[(.global 22)]) 1 (some (69, false)),
        op 24 (.unOp .not 0 (.global 23)) 1 (some (69, false)),
        op 25 (.pick (.global 17) (.const (B true)) (.global 24)) 1,
        op 26 (.move (.global 25)) 1,
        op 27 (.move (.tmp 0)) 1 (some (105, false)),
        op 28 (.move (.tmp 3)) 1 (some (105, false)),
        op 29 (.indexAddr 7 (.global 27) (.global 28)) 1 (some (105, false)),
        op 30 (.fieldAddr 2 (.global 29) 0) 1 (some (105, false)),
        op 31 (.load 0 (.global 30)) 1 (some (105, false)),
        op 32 (call (.func 449) #[(.global 31)]) 1 (some (105, false)),
        op 33 (.unOp .not 0 (.global 32)) 1 (some (105, false)),
        op 34 (.pick (.global 26) (.const (B true)) (.global 33))])
      (.cond (.tmp 34)
        (.seq (reg [op 2 (.move (.const (B false)))])
        .ret)
        .skip)))
    (reg [op 8 (.move (.tmp 3)) 1,
      op 9 (.binOp .add 0 (.global 8) (.const (I 1)) 0) 1,
      op 3 (.move (.global 9))]))))))
(.seq (reg [op 35 (.move (.tmp 0)) 1,
  op 36 (bi .len #[(.global 35)] 1) 1,
  op 37 (.binOp .leq 0 (.global 36) (.const (I 112)) 0) 1,
  op 2 (.move (.global 37))])
.ret))), [(2, 0)]⟩

/-- (*spec.l00Src).text -/
def fn8 : AFun := ⟨2,
(.seq (reg [op 4 (.move (.const (S [])))])
(.seq (reg [op 5 (.move (.tmp 1)) 1,
  op 6 (.move (.tmp 0)) 1,
  op 7 (.move (.tmp 1)) 1,
  op 8 (bi .len #[(.global 7)] 1) 1,
  op 9 (call (.func 7) #[(.global 6), (.global 8)]) 1,
  op 10 (.indexAddr 3 (.global 5) (.global 9)) 1,
  op 11 (.load 0 (.global 10)) 1,
  op 4 (.move (.global 11))])
.ret)), [(4, 0)]⟩

/-- spec.l25Text -/
def fn553 : AFun := ⟨1,
(.seq (reg [op 2 (.move (.const (S [])))])
(.seq (reg [op 5 (.move (.const (sl 0 0 0 1))) 1,
  op 3 (.move (.global 5))])
(.seq (.seq (reg [op 4 (.move (.const (I 0)))])
(.block 0
  (.loop
    (.seq (.seq (reg [op 6 (.move (.tmp 4)) 1,
      op 7 (.move (.tmp 0)) 1,
      op 8 (bi .len #[(.global 7)] 1) 1,
      op 9 (.binOp .lss 0 (.global 6) (.global 8) 0)])
    (.cond (.tmp 9)
      .skip
      (.exit 0)))
    (.seq (.block 1
      (.seq (.seq (reg [op 12 (.move (.tmp 4)) 1,
        op 13 (.binOp .gtr 0 (.global 12) (.const (I 0)) 0)])
      (.cond (.tmp 13)
        (reg [op 14 (.move (.tmp 3)) 1,
          op 15 (.buildSlice 1 1 #[(0, (.const (.agg #[(U 0)]))), (1, (.const (U 32)))]) 1,
          op 16 (bi .append #[(.global 14), (.global 15)] 1) 1,
          op 3 (.move (.global 16))])
        .skip))
      (.seq (reg [op 17 (.move (.tmp 3)) 1,
        op 18 (.move (.tmp 0)) 1,
        op 19 (.move (.tmp 4)) 1,
        op 20 (.indexAddr 7 (.global 18) (.global 19)) 1,
        op 21 (.fieldAddr 0 (.global 20) 0) 1,
        op 22 (.load 0 (.global 21)) 1,
        op 23 (call (.func 437) #[(.global 22)]) 1,
        op 24 (bi .append #[(.global 17), (.global 23)] 1) 1,
        op 3 (.move (.global 24))])
      (reg [op 25 (.move (.tmp 3)) 1,
        op 26 (.move (.tmp 0)) 1,
        op 27 (.move (.tmp 4)) 1,
        op 28 (.indexAddr 7 (.global 26) (.global 27)) 1,
        op 29 (.fieldAddr 1 (.global 28) 0) 1,
        op 30 (.load 0 (.global 29)) 1,
        op 31 (call (.func 470) #[(.global 30)]) 3,
        op 32 (.move (.tmp 0)) 1,
        op 33 (.move (.tmp 4)) 1,
        op 34 (.indexAddr 7 (.global 32) (.global 33)) 1,
        op 35 (.fieldAddr 2 (.global 34) 0) 1,
        op 36 (.load 0 (.global 35)) 1,
        op 37 (call (.func 470) #[(.global 36)]) 1,
        op 38 (.buildSlice 1 2 #[(0, (.const (.agg #[(U 0), (U 0)]))), (1, (.global 31)), (1001, (.global 37))]) 1,
        op 39 (bi .append #[(.global 25), (.global 38)] 1) 1,
        op 3 (.move (.global 39))]))))
    (reg [op 10 (.move (.tmp 4)) 1,
      op 11 (.binOp .add 0 (.global 10) (.const (I 1)) 0) 1,
      op 4 (.move (.global 11))]))))))
(.seq (reg [op 40 (.move (.tmp 3)) 1,
  op 41 (.convert 0 21 (.global 40)) 1,
  op 2 (.move (.global 41))])
.ret)))), [(2, 0)]⟩

/-- spec.l01Split -/
def fn441 : AFun := ⟨2,
(.seq (reg [op 4 (.move (.const (sl 0 0 0 0)))])
(.seq (reg [op 8 (.move (.const (sl 0 0 0 1))) 1,
  op 5 (.move (.global 8))])
(.seq (reg [op 6 (.move (.const (I 0)))])
(.seq (.seq (reg [op 7 (.move (.const (I 0)))])
(.block 0
  (.loop
    (.seq (.seq (reg [op 9 (.move (.tmp 7)) 1,
      op 10 (.move (.tmp 0)) 1,
      op 11 (bi .len #[(.global 10)] 0) 1,
      op 12 (.binOp .lss 0 (.global 9) (.global 11) 0)])
    (.cond (.tmp 12)
      .skip
      (.exit 0)))
    (.seq (.block 1
      (.seq (reg [op 15 (.move (.tmp 0)) 1,
        op 16 (.move (.tmp 7)) 1,
        op 17 (.index 0 (.global 15) (.global 16)) 1,
        op 18 (.move (.tmp 1)) 1,
        op 19 (.binOp .eql 0 (.global 17) (.global 18) 0)])
      (.cond (.tmp 19)
        (.seq (reg [op 20 (.move (.tmp 5)) 1,
          op 21 (.move (.tmp 0)) 1,
          op 22 (.move (.tmp 6)) 1,
          op 23 (.move (.tmp 7)) 1,
          op 24 (.slice 0 (.global 21) (some (.global 22)) (some (.global 23)) none) 1,
          op 25 (.buildSlice 1 1 #[(0, (.const (.agg #[(S [])]))), (1, (.global 24))]) 1,
          op 26 (bi .append #[(.global 20), (.global 25)] 1) 1,
          op 5 (.move (.global 26))])
        (reg [op 27 (.move (.tmp 7)) 1,
          op 28 (.binOp .add 0 (.global 27) (.const (I 1)) 0) 1,
          op 6 (.move (.global 28))]))
        .skip)))
    (reg [op 13 (.move (.tmp 7)) 1,
      op 14 (.binOp .add 0 (.global 13) (.const (I 1)) 0) 1,
      op 7 (.move (.global 14))]))))))
(.seq (reg [op 29 (.move (.tmp 5)) 1,
  op 30 (.move (.tmp 0)) 1,
  op 31 (.move (.tmp 6)) 1,
  op 32 (.slice 0 (.global 30) (some (.global 31)) none none) 1,
  op 33 (.buildSlice 1 1 #[(0, (.const (.agg #[(S [])]))), (1, (.global 32))]) 1,
  op 34 (bi .append #[(.global 29), (.global 33)] 1) 1,
  op 4 (.move (.global 34))])
.ret))))), [(4, 0)]⟩

/-- spec.l01Number -/
def fn439 : AFun := ⟨1,
(.seq (reg [op 2 (.move (.const (I 0))),
  op 3 (.move (.const (B false)))])
(.seq (reg [op 7 (.move (.tmp 0)) 1,
  op 4 (.move (.global 7))])
(.seq (.seq (reg [op 8 (.move (.tmp 4)) 1,
  op 9 (.binOp .neq 0 (.global 8) (.const (S [])) 0) 1,
  op 10 (.move (.global 9)) 1,
  op 11 (.move (.tmp 4)) 1 (some (41, true)),
  op 12 (.index 0 (.global 11) (.const (I 0))) 1 (some (41, true)),
  op 13 (.binOp .eql 0 (.global 12) (.const (U 45)) 0) 1 (some (41, true)),
  op 14 (.pick (.global 10) (.global 13) (.const (B false)))])
(.cond (.tmp 14)
  (reg [op 15 (.move (.tmp 4)) 1,
    op 16 (.slice 0 (.global 15) (some (.const (I 1))) none none) 1,
    op 4 (.move (.global 16))])
  .skip))
(.seq (.seq (reg [op 17 (.move (.tmp 4)) 1,
  op 18 (bi .len #[(.global 17)] 0) 1,
  op 19 (.binOp .lss 0 (.global 18) (.const (I 1)) 0) 1,
  op 20 (.move (.global 19)) 1,
  op 21 (.move (.tmp 4)) 1 (some (81, false)),
  op 22 (bi .len #[(.global 21)] 0) 1 (some (81, false)),
  op 23 (.binOp .gtr 0 (.global 22) (.const (I 18)) 0) 1 (some (81, false)),
  op 24 (.pick (.global 20) (.const (B true)) (.global 23))])
(.cond (.tmp 24)
  (.seq (reg [op 2 (.move (.const (I 0))),
    op 3 (.move (.const (B false)))])
  .ret)
  .skip))
(.seq (reg [op 5 (.move (.const (I 0)))])
(.seq (.seq (reg [op 6 (.move (.const (I 0)))])
(.block 0
  (.loop
    (.seq (.seq (reg [op 25 (.move (.tmp 6)) 1,
      op 26 (.move (.tmp 4)) 1,
      op 27 (bi .len #[(.global 26)] 0) 1,
      op 28 (.binOp .lss 0 (.global 25) (.global 27) 0)])
    (.cond (.tmp 28)
      .skip
      (.exit 0)))
    (.seq (.block 1
      (.seq (.seq (reg [op 31 (.move (.tmp 4)) 1,
        op 32 (.move (.tmp 6)) 1,
        op 33 (.index 0 (.global 31) (.global 32)) 1,
        op 34 (call (.func 438) #[(.global 33)]) 1,
        op 35 (.unOp .not 0 (.global 34))])
      (.cond (.tmp 35)
        (.seq (reg [op 2 (.move (.const (I 0))),
          op 3 (.move (.const (B false)))])
        .ret)
        .skip))
      (reg [op 36 (.move (.tmp 5)) 1,
        op 37 (.binOp .mul 0 (.const (I 10)) (.global 36) 0) 1,
        op 38 (.move (.tmp 4)) 1,
        op 39 (.move (.tmp 6)) 1,
        op 40 (.index 0 (.global 38) (.global 39)) 1,
        op 41 (.binOp .sub 0 (.global 40) (.const (U 48)) 0) 1,
        op 42 (.convert 0 3 (.global 41)) 1,
        op 43 (.binOp .add 0 (.global 37) (.global 42) 0) 1,
        op 5 (.move (.global 43))])))
    (reg [op 29 (.move (.tmp 6)) 1,
      op 30 (.binOp .add 0 (.global 29) (.const (I 1)) 0) 1,
      op 6 (.move (.global 30))]))))))
(.seq (.seq (reg [op 44 (.move (.tmp 4)) 1,
  op 45 (bi .len #[(.global 44)] 0) 1,
  op 46 (.move (.tmp 0)) 1,
  op 47 (bi .len #[(.global 46)] 0) 1,
  op 48 (.binOp .lss 0 (.global 45) (.global 47) 0)])
(.cond (.tmp 48)
  (reg [op 49 (.move (.tmp 5)) 1,
    op 50 (.unOp .neg 0 (.global 49)) 1,
    op 5 (.move (.global 50))])
  .skip))
(.seq (.seq (reg [op 51 (.move (.tmp 5)) 1,
  op 52 (call (.func 437) #[(.global 51)]) 1,
  op 53 (.move (.tmp 0)) 1,
  op 54 (.binOp .neq 0 (.global 52) (.global 53) 0)])
(.cond (.tmp 54)
  (.seq (reg [op 2 (.move (.const (I 0))),
    op 3 (.move (.const (B false)))])
  .ret)
  .skip))
(.seq (reg [op 55 (.move (.tmp 5)) 1,
  op 2 (.move (.global 55)),
  op 3 (.move (.const (B true)))])
.ret))))))))), [(2, 0), (3, 0)]⟩

/-- spec.l05Kind -/
def fn467 : AFun := ⟨1,
(.seq (reg [op 2 (.move (.const (I 0)))])
(.seq (.seq (reg [op 3 (.move (.tmp 0))])
(.block 0
  (.seq (reg [op 5 (.binOp .eql 0 (.tmp 3) (.const (U 43)) 0) 1,
    op 4 (.move (.global 5))])
  (.cond (.tmp 4)
    (.seq (reg [op 2 (.move (.const (I 0)))])
    .ret)
    (.seq (reg [op 7 (.binOp .eql 0 (.tmp 3) (.const (U 124)) 0) 1,
      op 6 (.move (.global 7))])
    (.cond (.tmp 6)
      (.seq (reg [op 2 (.move (.const (I 1)))])
      .ret)
      (.seq (reg [op 9 (.binOp .eql 0 (.tmp 3) (.const (U 45)) 0) 1,
        op 8 (.move (.global 9))])
      (.cond (.tmp 8)
        (.seq (reg [op 2 (.move (.const (I 2)))])
        .ret)
        .skip))))))))
(.seq (reg [op 2 (.move (.const (I (-1))))])
.ret))), [(2, 0)]⟩

/-- spec.l02Draw -/
def fn445 : AFun := ⟨2,
(.seq (reg [op 4 (.move (.const (.agg #[(I 0), (I 0), (sl 0 0 0 0)])))])
(.seq (reg [op 9 (.move (.tmp 0)) 1,
  op 10 (.move (.tmp 1)) 1,
  op 11 (call (.func 7) #[(.global 9), (.global 10)]) 1,
  op 12 (.binOp .add 0 (.const (I 1)) (.global 11) 0) 1,
  op 5 (.move (.global 12))])
(.seq (reg [op 13 (.move (.tmp 5)) 1,
  op 14 (.move (.tmp 0)) 1,
  op 15 (.move (.tmp 1)) 1,
  op 16 (call (.func 7) #[(.global 14), (.global 15)]) 1,
  op 17 (.binOp .add 0 (.const (I 1)) (.global 16) 0) 1,
  op 18 (call (.func 450) #[(.global 13), (.global 17)]) 1,
  op 6 (.move (.const (.agg #[(I 0), (I 0), (sl 0 0 0 0)]))),
  op 6 (.insert 3 (.tmp 6) (.tmp 6) (.global 18))])
(.seq (reg [op 19 (.move (.tmp 0)) 1,
  op 20 (call (.func 7) #[(.global 19), (.const (I 4))]) 1,
  op 7 (.move (.global 20))])
(.seq (.seq (reg [op 8 (.move (.const (I 0)))])
(.block 0
  (.loop
    (.seq (.seq (reg [op 21 (.move (.tmp 8)) 1,
      op 22 (.fieldAddr 2 (.tmp 6) 1) 1,
      op 23 (.lookup 0 (.tmp 6) (.global 22) false) 1,
      op 24 (bi .len #[(.global 23)] 1) 1,
      op 25 (.binOp .lss 0 (.global 21) (.global 24) 0)])
    (.cond (.tmp 25)
      .skip
      (.exit 0)))
    (.seq (.block 1
      (.seq (reg [op 28 (.move (.tmp 0)) 1,
        op 29 (call (.func 7) #[(.global 28), (.const (I 4))]) 1,
        op 30 (.move (.tmp 7)) 1,
        op 31 (.binOp .lss 0 (.global 29) (.global 30) 0)])
      (.cond (.tmp 31)
        (reg [op 32 (.fieldAddr 2 (.tmp 6) 1) 1,
          op 33 (.lookup 0 (.tmp 6) (.global 32) false) 1,
          op 34 (.move (.tmp 8)) 1,
          op 35 (.move (.tmp 0)) 1,
          op 36 (call (.func 7) #[(.global 35), (.const (I 2))]) 1,
          op 37 (.binOp .add 0 (.const (I 1)) (.global 36) 0) 1,
          op 38 (.indexAddr 3 (.global 33) (.global 34)) 1,
          opn (.store 1 (.global 38) (.global 37))])
        .skip)))
    (reg [op 26 (.move (.tmp 8)) 1,
      op 27 (.binOp .add 0 (.global 26) (.const (I 1)) 0) 1,
      op 8 (.move (.global 27))]))))))
(.seq (reg [op 39 (.lookup 4 (.tmp 6) (.tmp 6) false) 1,
  op 4 (.insert 3 (.tmp 4) (.tmp 4) (.global 39))])
.ret)))))), [(4, 1000004)]⟩

/-- spec.l02New -/
def fn450 : AFun := ⟨2,
(.seq (reg [op 4 (.move (.const (.agg #[(I 0), (I 0), (sl 0 0 0 0)])))])
(.seq (reg [op 5 (.move (.tmp 0)) 1,
  op 6 (.move (.tmp 1)) 1,
  op 7 (.move (.tmp 0)) 1,
  op 8 (.move (.tmp 1)) 1,
  op 9 (call (.func 448) #[(.global 7), (.global 8)]) 1,
  op 10 (.mapUpdate 1 (.global 9) (.global 9) (.const (.agg #[(I 0)]))) 1,
  op 11 (.build 0 #[(0, (.const (.agg #[(I 0), (I 0), (sl 0 0 0 0)]))), (1, (.global 5)), (1001, (.global 6)), (2001, (.global 10))]) 1,
  op 4 (.insert 3 (.tmp 4) (.tmp 4) (.global 11))])
.ret)), [(4, 1000004)]⟩

/-- (*spec.l00Src).among -/
def fn4 : AFun := ⟨2,
(.seq (reg [op 4 (.move (.const (I 0)))])
(.seq (reg [op 5 (.move (.tmp 1)) 1,
  op 6 (.move (.tmp 0)) 1,
  op 7 (.move (.tmp 1)) 1,
  op 8 (bi .len #[(.global 7)] 1) 1,
  op 9 (call (.func 7) #[(.global 6), (.global 8)]) 1,
  op 10 (.indexAddr 3 (.global 5) (.global 9)) 1,
  op 11 (.load 0 (.global 10)) 1,
  op 4 (.move (.global 11))])
.ret)), [(4, 0)]⟩

/-- spec.l01Dec -/
def fn437 : AFun := ⟨1,
(.seq (reg [op 2 (.move (.const (S [])))])
(.seq (reg [op 6 (.move (.const (sl 0 0 0 1))) 1,
  op 3 (.move (.global 6))])
(.seq (.seq (reg [op 7 (.move (.tmp 0)) 1,
  op 4 (.move (.global 7))])
(.block 0
  (.loop
    (.seq (.seq (reg [op 8 (.move (.tmp 4)) 1,
      op 9 (.binOp .neq 0 (.global 8) (.const (I 0)) 0)])
    (.cond (.tmp 9)
      .skip
      (.exit 0)))
    (.seq (.block 1
      (.seq (reg [op 12 (.move (.tmp 4)) 1,
        op 13 (.binOp .rem 0 (.global 12) (.const (I 10)) 0) 1,
        op 5 (.move (.global 13))])
      (.seq (.seq (reg [op 14 (.move (.tmp 5)) 1,
        op 15 (.binOp .lss 0 (.global 14) (.const (I 0)) 0)])
      (.cond (.tmp 15)
        (reg [op 16 (.move (.tmp 5)) 1,
          op 17 (.unOp .neg 0 (.global 16)) 1,
          op 5 (.move (.global 17))])
        .skip))
      (reg [op 18 (.move (.tmp 5)) 1,
        op 19 (.binOp .add 0 (.const (I 48)) (.global 18) 0) 1,
        op 20 (.convert 0 4 (.global 19)) 1,
        op 21 (.buildSlice 1 1 #[(0, (.const (.agg #[(U 0)]))), (1, (.global 20))]) 1,
        op 22 (.move (.tmp 3)) 1,
        op 23 (bi .append #[(.global 21), (.global 22)] 1) 1,
        op 3 (.move (.global 23))]))))
    (reg [op 10 (.move (.tmp 4)) 1,
      op 11 (.binOp .quo 0 (.global 10) (.const (I 10)) 0) 1,
      op 4 (.move (.global 11))]))))))
(.seq (.seq (reg [op 24 (.move (.tmp 3)) 1,
  op 25 (bi .len #[(.global 24)] 1) 1,
  op 26 (.binOp .eql 0 (.global 25) (.const (I 0)) 0)])
(.cond (.tmp 26)
  (.seq (reg [op 2 (.move (.const (S [48])))])
  .ret)
  .skip))
(.seq (.seq (reg [op 27 (.move (.tmp 0)) 1,
  op 28 (.binOp .lss 0 (.global 27) (.const (I 0)) 0)])
(.cond (.tmp 28)
  (.seq (reg [op 29 (.move (.tmp 3)) 1,
    op 30 (.convert 0 21 (.global 29)) 1,
    op 31 (.binOp .add 0 (.const (S [45])) (.global 30) 0) 1,
    op 2 (.move (.global 31))])
  .ret)
  .skip))
(.seq (reg [op 32 (.move (.tmp 3)) 1,
  op 33 (.convert 0 21 (.global 32)) 1,
  op 2 (.move (.global 33))])
.ret)))))), [(2, 0)]⟩

/-- impl.innerPoints -/
def fn166 : AFun := ⟨2,
(.seq (reg [op 4 (.move (.const (I 0)))])
(.seq (reg [op 5 (.move (.tmp 0)) 1,
  op 6 (.move (.tmp 1)) 1,
  op 7 (.binOp .sub 0 (.global 6) (.const (I 1)) 0) 1,
  op 8 (.binOp .mul 0 (.global 5) (.global 7) 0) 1,
  op 9 (.move (.tmp 1)) 1,
  op 10 (.move (.tmp 0)) 1,
  op 11 (.binOp .sub 0 (.global 10) (.const (I 1)) 0) 1,
  op 12 (.binOp .mul 0 (.global 9) (.global 11) 0) 1,
  op 13 (.binOp .add 0 (.global 8) (.global 12) 0) 1,
  op 4 (.move (.global 13))])
.ret)), [(4, 0)]⟩

/-- spec.l02Inner -/
def fn448 : AFun := ⟨2,
(.seq (reg [op 4 (.move (.const (I 0)))])
(.seq (reg [op 5 (.move (.tmp 0)) 1,
  op 6 (.move (.tmp 1)) 1,
  op 7 (.binOp .sub 0 (.global 6) (.const (I 1)) 0) 1,
  op 8 (.binOp .mul 0 (.global 5) (.global 7) 0) 1,
  op 9 (.move (.tmp 1)) 1,
  op 10 (.move (.tmp 0)) 1,
  op 11 (.binOp .sub 0 (.global 10) (.const (I 1)) 0) 1,
  op 12 (.binOp .mul 0 (.global 9) (.global 11) 0) 1,
  op 13 (.binOp .add 0 (.global 8) (.global 12) 0) 1,
  op 4 (.move (.global 13))])
.ret)), [(4, 0)]⟩

/-- (*spec.l00Src).next -/
def fn5 : AFun := ⟨1,
(.seq (reg [op 2 (.move (.const (I 0)))])
(.seq (reg [op 3 (.move (.const (I 0)))])
(.seq (.seq (reg [op 4 (.move (.tmp 0)) 1,
  op 5 (.nilCheck (.global 4)) 1,
  op 6 (.fieldAddr 1 (.global 5) 0) 1,
  op 7 (.load 0 (.global 6)) 1,
  op 8 (.move (.tmp 0)) 1,
  op 9 (.nilCheck (.global 8)) 1,
  op 10 (.fieldAddr 0 (.global 9) 0) 1,
  op 11 (.load 0 (.global 10)) 1,
  op 12 (bi .len #[(.global 11)] 1) 1,
  op 13 (.binOp .lss 0 (.global 7) (.global 12) 0)])
(.cond (.tmp 13)
  (reg [op 14 (.move (.tmp 0)) 1,
    op 15 (.nilCheck (.global 14)) 1,
    op 16 (.fieldAddr 0 (.global 15) 0) 1,
    op 17 (.load 0 (.global 16)) 1,
    op 18 (.move (.tmp 0)) 1,
    op 19 (.nilCheck (.global 18)) 1,
    op 20 (.fieldAddr 1 (.global 19) 0) 1,
    op 21 (.load 0 (.global 20)) 1,
    op 22 (.indexAddr 3 (.global 17) (.global 21)) 1,
    op 23 (.load 0 (.global 22)) 1,
    op 24 (.convert 0 3 (.global 23)) 1,
    op 3 (.move (.global 24))])
  .skip))
(.seq (reg [op 25 (.move (.tmp 0)) 1,
  op 26 (.nilCheck (.global 25)) 1,
  op 27 (.fieldAddr 1 (.global 26) 0) 1,
  op 28 (.load 0 (.global 27)) 1,
  op 29 (.binOp .add 0 (.global 28) (.const (I 1)) 0) 1,
  op 30 (.nilCheck (.global 25)) 1,
  op 31 (.fieldAddr 1 (.global 30) 0) 1,
  opn (.store 1 (.global 31) (.global 29))])
(.seq (reg [op 32 (.move (.tmp 0)) 1,
  op 33 (.move (.tmp 0)) 1,
  op 34 (.nilCheck (.global 33)) 1,
  op 35 (.fieldAddr 2 (.global 34) 0) 1,
  op 36 (.load 0 (.global 35)) 1,
  op 37 (.binOp .mul 0 (.global 36) (.const (.int .u64 6364136223846793005)) 0) 1,
  op 38 (.move (.tmp 3)) 1,
  op 39 (.convert 0 7 (.global 38)) 1,
  op 40 (.binOp .add 0 (.global 37) (.global 39) 0) 1,
  op 41 (.binOp .add 0 (.global 40) (.const (.int .u64 1442695040888963407)) 0) 1,
  op 42 (.nilCheck (.global 32)) 1,
  op 43 (.fieldAddr 2 (.global 42) 0) 1,
  opn (.store 1 (.global 43) (.global 41))])
(.seq (.seq (reg [op 44 (.move (.tmp 0)) 1,
  op 45 (.nilCheck (.global 44)) 1,
  op 46 (.fieldAddr 1 (.global 45) 0) 1,
  op 47 (.load 0 (.global 46)) 1,
  op 48 (.move (.tmp 0)) 1,
  op 49 (.nilCheck (.global 48)) 1,
  op 50 (.fieldAddr 0 (.global 49) 0) 1,
  op 51 (.load 0 (.global 50)) 1,
  op 52 (bi .len #[(.global 51)] 1) 1,
  op 53 (.binOp .leq 0 (.global 47) (.global 52) 0)])
(.cond (.tmp 53)
  (.seq (reg [op 54 (.move (.tmp 3)) 1,
    op 2 (.move (.global 54))])
  .ret)
  .skip))
(.seq (reg [op 55 (.move (.tmp 0)) 1,
  op 56 (.nilCheck (.global 55)) 1,
  op 57 (.fieldAddr 2 (.global 56) 0) 1,
  op 58 (.load 0 (.global 57)) 1,
  op 59 (.binOp .shr 0 (.global 58) (.const (.int .u64 40)) 0) 1,
  op 60 (.binOp .and 0 (.global 59) (.const (.int .u64 255)) 0) 1,
  op 61 (.convert 0 3 (.global 60)) 1,
  op 2 (.move (.global 61))])
.ret))))))), [(2, 0)]⟩

/-- spec.l00Same -/
def fn436 : AFun := ⟨2,
(.seq (reg [op 4 (.move (.const (B false)))])
(.seq (.seq (reg [op 6 (.move (.tmp 0)) 1,
  op 7 (bi .len #[(.global 6)] 1) 1,
  op 8 (.move (.tmp 1)) 1,
  op 9 (bi .len #[(.global 8)] 1) 1,
  op 10 (.binOp .neq 0 (.global 7) (.global 9) 0)])
(.cond (.tmp 10)
  (.seq (reg [op 4 (.move (.const (B false)))])
  .ret)
  .skip))
(.seq (.seq (reg [op 5 (.move (.const (I 0)))])
(.block 0
  (.loop
    (.seq (.seq (reg [op 11 (.move (.tmp 5)) 1,
      op 12 (.move (.tmp 0)) 1,
      op 13 (bi .len #[(.global 12)] 1) 1,
      op 14 (.binOp .lss 0 (.global 11) (.global 13) 0)])
    (.cond (.tmp 14)
      .skip
      (.exit 0)))
    (.seq (.block 1
      (.seq (reg [op 17 (.move (.tmp 0)) 1,
        op 18 (.move (.tmp 5)) 1,
        op 19 (.indexAddr 3 (.global 17) (.global 18)) 1,
        op 20 (.load 0 (.global 19)) 1,
        op 21 (.move (.tmp 1)) 1,
        op 22 (.move (.tmp 5)) 1,
        op 23 (.indexAddr 3 (.global 21) (.global 22)) 1,
        op 24 (.load 0 (.global 23)) 1,
        op 25 (.binOp .neq 0 (.global 20) (.global 24) 0)])
      (.cond (.tmp 25)
        (.seq (reg [op 4 (.move (.const (B false)))])
        .ret)
        .skip)))
    (reg [op 15 (.move (.tmp 5)) 1,
      op 16 (.binOp .add 0 (.global 15) (.const (I 1)) 0) 1,
      op 5 (.move (.global 16))]))))))
(.seq (reg [op 4 (.move (.const (B true)))])
.ret)))), [(4, 0)]⟩

/-- slices.Clone[[]int64,int64] -/
def fn308 : AFun := ⟨1,
(.seq (reg [op 2 (.move (.const (sl 0 0 0 0)))])
(.seq (.seq (reg [op 3 (.move (.tmp 0)) 1,
  op 4 (.binOp .eql 0 (.global 3) (.const (sl 0 0 0 0)) 1)])
(.cond (.tmp 4)
  (.seq (reg [op 2 (.move (.const (sl 0 0 0 0)))])
  .ret)
  .skip))
(.seq (reg [op 5 (.move (.const (sl 0 0 0 1))) 1,
  op 6 (.move (.tmp 0)) 1,
  op 7 (bi .append #[(.global 5), (.global 6)] 1) 1,
  op 2 (.move (.global 7))])
.ret))), [(2, 0)]⟩

/-- spec.l00Own -/
def fn435 : AFun := ⟨1,
(.seq (reg [op 2 (.move (.const (sl 0 0 0 0)))])
(.seq (reg [op 3 (.move (.const (sl 0 0 0 1))) 1,
  op 4 (.move (.tmp 0)) 1,
  op 5 (bi .append #[(.global 3), (.global 4)] 1) 1,
  op 2 (.move (.global 5))])
.ret)), [(2, 0)]⟩

/-- spec.l05Sign -/
def fn470 : AFun := ⟨1,
(.seq (reg [op 2 (.move (.const (U 0)))])
(.seq (.seq (reg [op 3 (.move (.tmp 0))])
(.block 0
  (.seq (reg [op 5 (.binOp .eql 0 (.tmp 3) (.const (I 1)) 0) 1,
    op 4 (.move (.global 5))])
  (.cond (.tmp 4)
    (.seq (reg [op 2 (.move (.const (U 124)))])
    .ret)
    (.seq (reg [op 7 (.binOp .eql 0 (.tmp 3) (.const (I 2)) 0) 1,
      op 6 (.move (.global 7))])
    (.cond (.tmp 6)
      (.seq (reg [op 2 (.move (.const (U 45)))])
      .ret)
      .skip))))))
(.seq (reg [op 2 (.move (.const (U 43)))])
.ret))), [(2, 0)]⟩

/-- spec.l01Digit -/
def fn438 : AFun := ⟨1,
(.seq (reg [op 2 (.move (.const (B false)))])
(.seq (reg [op 3 (.move (.tmp 0)) 1,
  op 4 (.binOp .geq 0 (.global 3) (.const (U 48)) 0) 1,
  op 5 (.move (.global 4)) 1,
  op 6 (.move (.tmp 0)) 1 (some (21, true)),
  op 7 (.binOp .leq 0 (.global 6) (.const (U 57)) 0) 1 (some (21, true)),
  op 8 (.pick (.global 5) (.global 7) (.const (B false))) 1,
  op 2 (.move (.global 8))])
.ret)), [(2, 0)]⟩

def tab : Tab := [(204, fn204), (269, fn269), (420, fn420), (352, fn352), (79, fn79), (346, fn346), (350, fn350), (62, fn62), (331, fn331), (353, fn353), (80, fn80), (119, fn119), (368, fn368), (410, fn410), (270, fn270), (347, fn347), (89, fn89), (382, fn382), (81, fn81), (443, fn443), (431, fn431), (140, fn140), (452, fn452), (198, fn198), (7, fn7), (457, fn457), (6, fn6), (442, fn442), (456, fn456), (150, fn150), (163, fn163), (196, fn196), (164, fn164), (555, fn555), (186, fn186), (552, fn552), (547, fn547), (453, fn453), (432, fn432), (449, fn449), (354, fn354), (197, fn197), (75, fn75), (167, fn167), (189, fn189), (118, fn118), (174, fn174), (550, fn550), (8, fn8), (553, fn553), (441, fn441), (439, fn439), (467, fn467), (445, fn445), (450, fn450), (4, fn4), (437, fn437), (166, fn166), (448, fn448), (5, fn5), (436, fn436), (308, fn308), (435, fn435), (470, fn470), (438, fn438)]
def Gam : Nat → Option AFun := look tab
theorem g204 : Gam 204 = some fn204 := rfl
theorem g269 : Gam 269 = some fn269 := rfl
theorem g420 : Gam 420 = some fn420 := rfl
theorem g352 : Gam 352 = some fn352 := rfl
theorem g79 : Gam 79 = some fn79 := rfl
theorem g346 : Gam 346 = some fn346 := rfl
theorem g350 : Gam 350 = some fn350 := rfl
theorem g62 : Gam 62 = some fn62 := rfl
theorem g331 : Gam 331 = some fn331 := rfl
theorem g353 : Gam 353 = some fn353 := rfl
theorem g80 : Gam 80 = some fn80 := rfl
theorem g119 : Gam 119 = some fn119 := rfl
theorem g368 : Gam 368 = some fn368 := rfl
theorem g410 : Gam 410 = some fn410 := rfl
theorem g270 : Gam 270 = some fn270 := rfl
theorem g347 : Gam 347 = some fn347 := rfl
theorem g89 : Gam 89 = some fn89 := rfl
theorem g382 : Gam 382 = some fn382 := rfl
theorem g81 : Gam 81 = some fn81 := rfl
theorem g443 : Gam 443 = some fn443 := rfl
theorem g431 : Gam 431 = some fn431 := rfl
theorem g140 : Gam 140 = some fn140 := rfl
theorem g452 : Gam 452 = some fn452 := rfl
theorem g198 : Gam 198 = some fn198 := rfl
theorem g7 : Gam 7 = some fn7 := rfl
theorem g457 : Gam 457 = some fn457 := rfl
theorem g6 : Gam 6 = some fn6 := rfl
theorem g442 : Gam 442 = some fn442 := rfl
theorem g456 : Gam 456 = some fn456 := rfl
theorem g150 : Gam 150 = some fn150 := rfl
theorem g163 : Gam 163 = some fn163 := rfl
theorem g196 : Gam 196 = some fn196 := rfl
theorem g164 : Gam 164 = some fn164 := rfl
theorem g555 : Gam 555 = some fn555 := rfl
theorem g186 : Gam 186 = some fn186 := rfl
theorem g552 : Gam 552 = some fn552 := rfl
theorem g547 : Gam 547 = some fn547 := rfl
theorem g453 : Gam 453 = some fn453 := rfl
theorem g432 : Gam 432 = some fn432 := rfl
theorem g449 : Gam 449 = some fn449 := rfl
theorem g354 : Gam 354 = some fn354 := rfl
theorem g197 : Gam 197 = some fn197 := rfl
theorem g75 : Gam 75 = some fn75 := rfl
theorem g167 : Gam 167 = some fn167 := rfl
theorem g189 : Gam 189 = some fn189 := rfl
theorem g118 : Gam 118 = some fn118 := rfl
theorem g174 : Gam 174 = some fn174 := rfl
theorem g550 : Gam 550 = some fn550 := rfl
theorem g8 : Gam 8 = some fn8 := rfl
theorem g553 : Gam 553 = some fn553 := rfl
theorem g441 : Gam 441 = some fn441 := rfl
theorem g439 : Gam 439 = some fn439 := rfl
theorem g467 : Gam 467 = some fn467 := rfl
theorem g445 : Gam 445 = some fn445 := rfl
theorem g450 : Gam 450 = some fn450 := rfl
theorem g4 : Gam 4 = some fn4 := rfl
theorem g437 : Gam 437 = some fn437 := rfl
theorem g166 : Gam 166 = some fn166 := rfl
theorem g448 : Gam 448 = some fn448 := rfl
theorem g5 : Gam 5 = some fn5 := rfl
theorem g436 : Gam 436 = some fn436 := rfl
theorem g308 : Gam 308 = some fn308 := rfl
theorem g435 : Gam 435 = some fn435 := rfl
theorem g470 : Gam 470 = some fn470 := rfl
theorem g438 : Gam 438 = some fn438 := rfl
end Am
