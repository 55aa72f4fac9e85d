/- The functions that are reached, in their normal form; written by a program. -/
import Derived.Test.YtaeaaogpdipjfaaAmRules
set_option linter.unusedVariables false
set_option maxRecDepth 100000
namespace Am
open Go
/-- laws.FnSquashed -/
def fn256 : AFun := ⟨1,
(.seq (reg [op 2 (.move (.const (B false)))])
(.seq (.seq (reg [op 17 (.move (.tmp 0)) 1,
  op 18 (call (.func 258) #[(.global 17), (.const (sl 0 0 0 0))])])
(.cond (.tmp 18)
  (.seq (reg [op 2 (.move (.const (B true)))])
  .ret)
  .skip))
(.seq (reg [op 19 (.move (.tmp 0)) 1,
  op 20 (call (.func 327) #[(.global 19)]) 1,
  op 3 (.move (.const (.agg #[(I 0), (I 0), (sl 0 0 0 0), (sl 0 0 0 0), (sl 0 0 0 0)]))),
  op 3 (.insert 5 (.tmp 3) (.tmp 3) (.global 20))])
(.seq (reg [op 22 (.lookup 6 (.tmp 3) (.tmp 3) false) 1,
  op 23 (call (.func 131) #[(.global 22)]) 1,
  op 21 (.move (.global 23)) 1,
  op 24 (.extract (.global 21) 0) 1,
  op 25 (.extract (.global 21) 1) 1,
  op 4 (.move (.const (.agg #[(I 0), (I 0), (sl 0 0 0 0), (sl 0 0 0 0), (sl 0 0 0 0)]))),
  op 4 (.insert 5 (.tmp 4) (.tmp 4) (.global 24)),
  op 5 (.move (.global 25))])
(.seq (.seq (reg [op 26 (.move (.tmp 5)) 1,
  op 27 (.binOp .neq 0 (.global 26) (.const (I 0)) 0) 1,
  op 28 (.move (.global 27)) 1,
  op 29 (.lookup 6 (.tmp 4) (.tmp 4) false) 1 (some (113, false)),
  op 30 (call (.func 427) #[(.global 29)]) 1 (some (113, false)),
  op 31 (.unOp .not 0 (.global 30)) 1 (some (113, false)),
  op 32 (.pick (.global 28) (.const (B true)) (.global 31)) 1,
  op 33 (.move (.global 32)) 1,
  op 34 (.fieldAddr 3 (.tmp 4) 1) 1 (some (133, false)),
  op 35 (.lookup 0 (.tmp 4) (.global 34) false) 1 (some (133, false)),
  op 36 (bi .len #[(.global 35)] 1) 1 (some (133, false)),
  op 37 (.fieldAddr 3 (.tmp 3) 1) 1 (some (133, false)),
  op 38 (.lookup 0 (.tmp 3) (.global 37) false) 1 (some (133, false)),
  op 39 (bi .len #[(.global 38)] 1) 1 (some (133, false)),
  op 40 (.binOp .gtr 0 (.global 36) (.global 39) 0) 1 (some (133, false)),
  op 41 (.pick (.global 33) (.const (B true)) (.global 40)) 1,
  op 42 (.move (.global 41)) 1,
  op 43 (.fieldAddr 4 (.tmp 4) 1) 1 (some (169, false)),
  op 44 (.lookup 0 (.tmp 4) (.global 43) false) 1 (some (169, false)),
  op 45 (bi .len #[(.global 44)] 1) 1 (some (169, false)),
  op 46 (.binOp .neq 0 (.global 45) (.const (I 0)) 0) 1 (some (169, false)),
  op 47 (.pick (.global 42) (.const (B true)) (.global 46))])
(.cond (.tmp 47)
  (.seq (reg [op 2 (.move (.const (B false)))])
  .ret)
  .skip))
(.seq (reg [op 49 (.lookup 6 (.tmp 4) (.tmp 4) false) 1,
  op 50 (call (.func 423) #[(.global 49)]) 1,
  op 48 (.move (.global 50)) 1,
  op 51 (.extract (.global 48) 0) 1,
  op 52 (.extract (.global 48) 1) 1,
  op 6 (.move (.const (.agg #[(I 0), (I 0), (sl 0 0 0 0)]))),
  op 6 (.insert 3 (.tmp 6) (.tmp 6) (.global 51)),
  op 7 (.move (.global 52))])
(.seq (reg [op 54 (.lookup 6 (.tmp 3) (.tmp 3) false) 1,
  op 55 (call (.func 423) #[(.global 54)]) 1,
  op 53 (.move (.global 55)) 1,
  op 56 (.extract (.global 53) 0) 1,
  op 57 (.extract (.global 53) 1) 1,
  op 8 (.move (.const (.agg #[(I 0), (I 0), (sl 0 0 0 0)]))),
  op 8 (.insert 3 (.tmp 8) (.tmp 8) (.global 56)),
  op 9 (.move (.global 57))])
(.seq (reg [op 59 (.lookup 6 (.tmp 3) (.tmp 3) false) 1,
  op 60 (call (.func 74) #[(.global 59)]) 1,
  op 58 (.move (.global 60)) 1,
  op 61 (.extract (.global 58) 0) 1,
  op 62 (.extract (.global 58) 1) 1,
  op 10 (.move (.global 61)),
  op 11 (.move (.global 62))])
(.seq (.seq (reg [op 63 (.move (.tmp 7)) 1,
  op 64 (.binOp .neq 0 (.global 63) (.const (I 0)) 0) 1,
  op 65 (.move (.global 64)) 1,
  op 66 (.move (.tmp 9)) 1 (some (261, false)),
  op 67 (.binOp .neq 0 (.global 66) (.const (I 0)) 0) 1 (some (261, false)),
  op 68 (.pick (.global 65) (.const (B true)) (.global 67)) 1,
  op 69 (.move (.global 68)) 1,
  op 70 (.lookup 4 (.tmp 6) (.tmp 6) false) 1 (some (277, false)),
  op 71 (.lookup 4 (.tmp 8) (.tmp 8) false) 1 (some (277, false)),
  op 72 (call (.func 420) #[(.global 70), (.global 71)]) 1 (some (277, false)),
  op 73 (.unOp .not 0 (.global 72)) 1 (some (277, false)),
  op 74 (.pick (.global 69) (.const (B true)) (.global 73)) 1,
  op 75 (.move (.global 74)) 1,
  op 76 (.fieldAddr 0 (.tmp 4) 1) 1 (some (301, false)),
  op 77 (.lookup 4 (.tmp 4) (.global 76) false) 1 (some (301, false)),
  op 78 (.fieldAddr 0 (.tmp 3) 1) 1 (some (301, false)),
  op 79 (.lookup 4 (.tmp 3) (.global 78) false) 1 (some (301, false)),
  op 80 (call (.func 420) #[(.global 77), (.global 79)]) 1 (some (301, false)),
  op 81 (.unOp .not 0 (.global 80)) 1 (some (301, false)),
  op 82 (.pick (.global 75) (.const (B true)) (.global 81)) 1,
  op 83 (.move (.global 82)) 1,
  op 84 (.move (.tmp 11)) 1 (some (333, false)),
  op 85 (.binOp .neq 0 (.global 84) (.const (I 0)) 0) 1 (some (333, false)),
  op 86 (.pick (.global 83) (.const (B true)) (.global 85)) 1,
  op 87 (.move (.global 86)) 1,
  op 88 (.move (.tmp 10)) 1 (some (349, false)),
  op 89 (bi .len #[(.global 88)] 1) 1 (some (349, false)),
  op 90 (.fieldAddr 3 (.tmp 3) 1) 1 (some (349, false)),
  op 91 (.lookup 0 (.tmp 3) (.global 90) false) 1 (some (349, false)),
  op 92 (bi .len #[(.global 91)] 1) 1 (some (349, false)),
  op 93 (.binOp .add 0 (.global 92) (.const (I 1)) 0) 1 (some (349, false)),
  op 94 (.binOp .neq 0 (.global 89) (.global 93) 0) 1 (some (349, false)),
  op 95 (.pick (.global 87) (.const (B true)) (.global 94))])
(.cond (.tmp 95)
  (.seq (reg [op 2 (.move (.const (B false)))])
  .ret)
  .skip))
(.seq (reg [op 97 (.lookup 4 (.tmp 8) (.tmp 8) false) 1,
  op 98 (call (.func 340) #[(.global 97)]) 1,
  op 96 (.move (.global 98)) 1,
  op 99 (.extract (.global 96) 0) 1,
  op 100 (.extract (.global 96) 1) 1,
  op 12 (.move (.global 99)),
  op 13 (.move (.global 100))])
(.seq (reg [op 102 (.fieldAddr 0 (.tmp 3) 1) 1,
  op 103 (.lookup 4 (.tmp 3) (.global 102) false) 1,
  op 104 (call (.func 340) #[(.global 103)]) 1,
  op 101 (.move (.global 104)) 1,
  op 105 (.extract (.global 101) 0) 1,
  op 106 (.extract (.global 101) 1) 1,
  op 14 (.move (.global 105)),
  op 15 (.move (.global 106))])
(.seq (.seq (reg [op 107 (.move (.tmp 13)) 1,
  op 108 (.binOp .neq 0 (.global 107) (.const (I 0)) 0) 1,
  op 109 (.move (.global 108)) 1,
  op 110 (.move (.tmp 15)) 1 (some (437, false)),
  op 111 (.binOp .neq 0 (.global 110) (.const (I 0)) 0) 1 (some (437, false)),
  op 112 (.pick (.global 109) (.const (B true)) (.global 111)) 1,
  op 113 (.move (.global 112)) 1,
  op 114 (.move (.tmp 10)) 1 (some (453, false)),
  op 115 (.indexAddr 3 (.global 114) (.const (I 0))) 1 (some (453, false)),
  op 116 (.load 0 (.global 115)) 1 (some (453, false)),
  op 117 (.move (.tmp 12)) 1 (some (453, false)),
  op 118 (.binOp .neq 0 (.global 116) (.global 117) 0) 1 (some (453, false)),
  op 119 (.pick (.global 113) (.const (B true)) (.global 118)) 1,
  op 120 (.move (.global 119)) 1,
  op 121 (.move (.tmp 10)) 1 (some (481, false)),
  op 122 (.move (.tmp 10)) 1 (some (481, false)),
  op 123 (bi .len #[(.global 122)] 1) 1 (some (481, false)),
  op 124 (.binOp .sub 0 (.global 123) (.const (I 1)) 0) 1 (some (481, false)),
  op 125 (.indexAddr 3 (.global 121) (.global 124)) 1 (some (481, false)),
  op 126 (.load 0 (.global 125)) 1 (some (481, false)),
  op 127 (.move (.tmp 14)) 1 (some (481, false)),
  op 128 (.binOp .neq 0 (.global 126) (.global 127) 0) 1 (some (481, false)),
  op 129 (.pick (.global 120) (.const (B true)) (.global 128))])
(.cond (.tmp 129)
  (.seq (reg [op 2 (.move (.const (B false)))])
  .ret)
  .skip))
(.seq (.seq (reg [op 16 (.move (.const (I 1)))])
(.block 0
  (.loop
    (.seq (.seq (reg [op 130 (.move (.tmp 16)) 1,
      op 131 (.move (.tmp 10)) 1,
      op 132 (bi .len #[(.global 131)] 1) 1,
      op 133 (.binOp .lss 0 (.global 130) (.global 132) 0)])
    (.cond (.tmp 133)
      .skip
      (.exit 0)))
    (.seq (.block 1
      (.seq (reg [op 136 (.move (.tmp 10)) 1,
        op 137 (.move (.tmp 16)) 1,
        op 138 (.indexAddr 3 (.global 136) (.global 137)) 1,
        op 139 (.load 0 (.global 138)) 1,
        op 140 (.move (.tmp 10)) 1,
        op 141 (.move (.tmp 16)) 1,
        op 142 (.binOp .sub 0 (.global 141) (.const (I 1)) 0) 1,
        op 143 (.indexAddr 3 (.global 140) (.global 142)) 1,
        op 144 (.load 0 (.global 143)) 1,
        op 145 (.binOp .add 0 (.global 144) (.const (I 1)) 0) 1,
        op 146 (.binOp .gtr 0 (.global 139) (.global 145) 0) 1,
        op 147 (.move (.global 146)) 1,
        op 148 (.move (.tmp 10)) 1 (some (589, false)),
        op 149 (.move (.tmp 16)) 1 (some (589, false)),
        op 150 (.indexAddr 3 (.global 148) (.global 149)) 1 (some (589, false)),
        op 151 (.load 0 (.global 150)) 1 (some (589, false)),
        op 152 (.move (.tmp 10)) 1 (some (589, false)),
        op 153 (.move (.tmp 16)) 1 (some (589, false)),
        op 154 (.binOp .sub 0 (.global 153) (.const (I 1)) 0) 1 (some (589, false)),
        op 155 (.indexAddr 3 (.global 152) (.global 154)) 1 (some (589, false)),
        op 156 (.load 0 (.global 155)) 1 (some (589, false)),
        op 157 (.binOp .sub 0 (.global 156) (.const (I 1)) 0) 1 (some (589, false)),
        op 158 (.binOp .lss 0 (.global 151) (.global 157) 0) 1 (some (589, false)),
        op 159 (.pick (.global 147) (.const (B true)) (.global 158))])
      (.cond (.tmp 159)
        (.seq (reg [op 2 (.move (.const (B false)))])
        .ret)
        .skip)))
    (reg [op 134 (.move (.tmp 16)) 1,
      op 135 (.binOp .add 0 (.global 134) (.const (I 1)) 0) 1,
      op 16 (.move (.global 135))]))))))
(.seq (reg [op 2 (.move (.const (B true)))])
.ret)))))))))))))), [(2, 0)]⟩

/-- spec.SamePanel -/
def fn420 : AFun := ⟨2,
(.seq (reg [op 2 (.box 3 (.tmp 0)),
  op 3 (.box 3 (.tmp 1)),
  op 4 (.move (.const (B false)))])
(.seq (reg [op 5 (call (.func 456) #[(.tmp 2), (.tmp 3)]) 1,
  op 4 (.move (.global 5))])
.ret)), [(4, 0)]⟩

/-- laws.a2Long -/
def fn258 : AFun := ⟨2,
(.seq (reg [op 4 (.move (.const (B false)))])
(.seq (reg [op 5 (.move (.tmp 0)) 1,
  op 6 (bi .len #[(.global 5)] 1) 1,
  op 7 (.binOp .gtr 0 (.global 6) (.const (I 3000)) 0) 1,
  op 8 (.move (.global 7)) 1,
  op 9 (.move (.tmp 1)) 1 (some (33, false)),
  op 10 (bi .len #[(.global 9)] 1) 1 (some (33, false)),
  op 11 (.binOp .gtr 0 (.global 10) (.const (I 3000)) 0) 1 (some (33, false)),
  op 12 (.pick (.global 8) (.const (B true)) (.global 11)) 1,
  op 4 (.move (.global 12))])
.ret)), [(4, 0)]⟩

/-- spec.A2Journal -/
def fn327 : AFun := ⟨1,
(.seq (reg [op 2 (.move (.const (.agg #[(I 0), (I 0), (sl 0 0 0 0), (sl 0 0 0 0), (sl 0 0 0 0)])))])
(.seq (reg [op 3 (.move (.tmp 0)) 1,
  op 4 (call (.func 431) #[(.global 3)]) 1,
  op 5 (call (.func 557) #[(.global 4), (.const (I 9))]) 1,
  op 2 (.insert 5 (.tmp 2) (.tmp 2) (.global 5))])
.ret)), [(2, 1000006)]⟩

/-- impl.SquashJournal -/
def fn131 : AFun := ⟨1,
(.seq (reg [op 1 (.makeChan 5 (.tmp 0)),
  op 2 (.move (.const (.agg #[(I 0), (I 0), (sl 0 0 0 0), (sl 0 0 0 0), (sl 0 0 0 0)]))),
  op 3 (.move (.const (I 0)))])
(.seq (.seq (reg [op 8 (.lookup 6 (.tmp 1) (.tmp 1) false) 1,
  op 9 (call (.func 138) #[(.global 8)]) 1,
  op 10 (.unOp .not 0 (.global 9))])
(.cond (.tmp 10)
  (.seq (reg [op 11 (.build 0 #[(0, (.const (.agg #[(I 0), (I 0), (sl 0 0 0 0), (sl 0 0 0 0), (sl 0 0 0 0)])))]) 1,
    op 2 (.insert 5 (.tmp 2) (.tmp 2) (.global 11)),
    op 3 (.move (.const (I 1)))])
  .ret)
  .skip))
(.seq (reg [op 12 (.fieldAddr 0 (.tmp 1) 1) 1,
  op 13 (.lookup 4 (.tmp 1) (.global 12) false) 1,
  op 14 (call (.func 150) #[(.global 13)]) 1,
  op 15 (.build 0 #[(0, (.const (.agg #[(I 0), (I 0), (sl 0 0 0 0), (sl 0 0 0 0), (sl 0 0 0 0)]))), (3, (.global 14))]) 1,
  op 4 (.move (.const (.agg #[(I 0), (I 0), (sl 0 0 0 0), (sl 0 0 0 0), (sl 0 0 0 0)]))),
  op 4 (.insert 5 (.tmp 4) (.tmp 4) (.global 15))])
(.seq (.seq (reg [op 16 (.lookup 6 (.tmp 1) (.tmp 1) false) 1,
  op 17 (call (.func 22) #[(.global 16)]) 1,
  op 18 (.field 0 (.global 17) 2),
  op 19 (bi .len #[(.tmp 18)] 1),
  op 20 (.move (.const (I 0)))])
(.block 0
  (.loop
    (.seq (reg [op 21 (.binOp .lss 0 (.tmp 20) (.tmp 19) 0)])
    (.seq (.cond (.tmp 21)
      .skip
      (.exit 0))
    (.seq (.block 1
      (.seq (reg [op 22 (.move (.tmp 20)) 1,
        op 23 (.indexAddr 3 (.tmp 18) (.tmp 20)) 1,
        op 24 (.load 0 (.global 23)) 1,
        op 5 (.move (.global 22)),
        op 6 (.move (.global 24))])
      (.seq (reg [op 25 (.fieldAddr 0 (.tmp 4) 1) 1,
        op 26 (.fieldAddr 2 (.global 25) 1) 1,
        op 27 (.lookup 0 (.tmp 4) (.global 26) false) 1,
        op 28 (.move (.tmp 5)) 1,
        op 29 (.indexAddr 3 (.global 27) (.global 28)) 1,
        op 30 (.load 0 (.global 29)) 1,
        op 7 (.move (.global 30))])
      (.seq (reg [op 31 (.move (.tmp 7)) 1,
        op 32 (.move (.tmp 6)) 1,
        op 33 (.binOp .neq 0 (.global 31) (.global 32) 0)])
      (.cond (.tmp 33)
        (reg [op 34 (.fieldAddr 3 (.tmp 4) 1) 1,
          op 35 (.lookup 0 (.tmp 4) (.global 34) false) 1,
          op 36 (.move (.tmp 5)) 1,
          op 37 (.move (.tmp 6)) 1,
          op 38 (.move (.tmp 7)) 1,
          op 39 (.build 0 #[(0, (.const (.agg #[(I 0), (I 0), (I 0)]))), (1, (.global 36)), (1001, (.global 37)), (2001, (.global 38))]) 1,
          op 40 (.buildSlice 3 1 #[(0, (.const (.agg #[(I 0), (I 0), (I 0)]))), (3, (.global 39))]) 1,
          op 41 (bi .append #[(.global 35), (.global 40)] 3) 1,
          op 42 (.fieldAddr 3 (.tmp 4) 1) 1,
          op 4 (.insert 1 (.tmp 4) (.global 42) (.global 41))])
        .skip)))))
    (reg [op 43 (.binOp .add 0 (.tmp 20) (.const (I 1)) 0) 1,
      op 20 (.move (.global 43))])))))))
(.seq (reg [op 44 (.lookup 6 (.tmp 4) (.tmp 4) false) 1,
  op 2 (.insert 5 (.tmp 2) (.tmp 2) (.global 44)),
  op 3 (.move (.const (I 0)))])
.ret))))), [(2, 1000006), (3, 0)]⟩

/-- spec.ValidJournal -/
def fn427 : AFun := ⟨1,
(.seq (reg [op 1 (.box 5 (.tmp 0)),
  op 2 (.move (.const (B false)))])
(.seq (reg [op 3 (call (.func 558) #[(.tmp 1)]) 1,
  op 2 (.move (.global 3))])
.ret)), [(2, 0)]⟩

/-- spec.StartOf -/
def fn423 : AFun := ⟨1,
(.seq (reg [op 1 (.box 5 (.tmp 0)),
  op 2 (.move (.const (.agg #[(I 0), (I 0), (sl 0 0 0 0)]))),
  op 3 (.move (.const (I 0)))])
(.seq (.seq (reg [op 4 (call (.func 558) #[(.tmp 1)]) 1,
  op 5 (.unOp .not 0 (.global 4))])
(.cond (.tmp 5)
  (.seq (reg [op 6 (.build 0 #[(0, (.const (.agg #[(I 0), (I 0), (sl 0 0 0 0)])))]) 1,
    op 2 (.insert 3 (.tmp 2) (.tmp 2) (.global 6)),
    op 3 (.move (.const (I 1)))])
  .ret)
  .skip))
(.seq (reg [op 7 (call (.func 561) #[(.tmp 1)]) 1,
  op 2 (.insert 3 (.tmp 2) (.tmp 2) (.global 7)),
  op 3 (.move (.const (I 0)))])
.ret))), [(2, 1000004), (3, 0)]⟩

/-- impl.CurvesAlong -/
def fn74 : AFun := ⟨1,
(.seq (reg [op 1 (.makeChan 5 (.tmp 0)),
  op 2 (.move (.const (sl 0 0 0 0))),
  op 3 (.move (.const (I 0)))])
(.seq (.seq (reg [op 8 (.lookup 6 (.tmp 1) (.tmp 1) false) 1,
  op 9 (call (.func 138) #[(.global 8)]) 1,
  op 10 (.unOp .not 0 (.global 9))])
(.cond (.tmp 10)
  (.seq (reg [op 2 (.move (.const (sl 0 0 0 0))),
    op 3 (.move (.const (I 1)))])
  .ret)
  .skip))
(.seq (reg [op 11 (.lookup 6 (.tmp 1) (.tmp 1) false) 1,
  op 12 (call (.func 22) #[(.global 11)]) 1,
  op 4 (.move (.const (.agg #[(I 0), (I 0), (sl 0 0 0 0)]))),
  op 4 (.insert 3 (.tmp 4) (.tmp 4) (.global 12))])
(.seq (reg [op 13 (.lookup 4 (.tmp 4) (.tmp 4) false) 1,
  op 14 (call (.func 154) #[(.global 13)]) 1,
  op 15 (.buildSlice 1 1 #[(0, (.const (.agg #[(I 0)]))), (1, (.global 14))]) 1,
  op 5 (.move (.global 15))])
(.seq (.seq (reg [op 16 (.fieldAddr 3 (.tmp 1) 1) 1,
  op 17 (.lookup 0 (.tmp 1) (.global 16) false),
  op 18 (bi .len #[(.tmp 17)] 1),
  op 19 (.move (.const (I 0)))])
(.block 0
  (.loop
    (.seq (reg [op 20 (.binOp .lss 0 (.tmp 19) (.tmp 18) 0)])
    (.seq (.cond (.tmp 20)
      .skip
      (.exit 0))
    (.seq (.block 1
      (.seq (reg [op 21 (.indexAddr 7 (.tmp 17) (.tmp 19)) 1,
        op 22 (.load 4 (.global 21)) 1,
        op 7 (.move (.const (.agg #[(I 0), (I 0), (I 0)]))),
        op 7 (.insert 3 (.tmp 7) (.tmp 7) (.global 22))])
      (.seq (reg [op 23 (.fieldAddr 2 (.tmp 4) 1) 1,
        op 24 (.lookup 0 (.tmp 4) (.global 23) false) 1,
        op 25 (.fieldAddr 0 (.tmp 7) 1) 1,
        op 26 (.lookup 0 (.tmp 7) (.global 25) false) 1,
        op 27 (.fieldAddr 2 (.tmp 7) 1) 1,
        op 28 (.lookup 0 (.tmp 7) (.global 27) false) 1,
        op 29 (.indexAddr 3 (.global 24) (.global 26)) 1,
        opn (.store 1 (.global 29) (.global 28))])
      (reg [op 30 (.move (.tmp 5)) 1,
        op 31 (.lookup 4 (.tmp 4) (.tmp 4) false) 1,
        op 32 (call (.func 154) #[(.global 31)]) 1,
        op 33 (.buildSlice 1 1 #[(0, (.const (.agg #[(I 0)]))), (1, (.global 32))]) 1,
        op 34 (bi .append #[(.global 30), (.global 33)] 1) 1,
        op 5 (.move (.global 34))]))))
    (reg [op 35 (.binOp .add 0 (.tmp 19) (.const (I 1)) 0) 1,
      op 19 (.move (.global 35))])))))))
(.seq (reg [op 36 (.move (.tmp 5)) 1,
  op 2 (.move (.global 36)),
  op 3 (.move (.const (I 0)))])
.ret)))))), [(2, 0), (3, 0)]⟩

/-- spec.CountCurves -/
def fn340 : AFun := ⟨1,
(.seq (reg [op 1 (.box 3 (.tmp 0)),
  op 2 (.move (.const (I 0))),
  op 3 (.move (.const (I 0)))])
(.seq (.seq (reg [op 4 (call (.func 452) #[(.tmp 1)]) 1,
  op 5 (.unOp .not 0 (.global 4))])
(.cond (.tmp 5)
  (.seq (reg [op 2 (.move (.const (I 0))),
    op 3 (.move (.const (I 1)))])
  .ret)
  .skip))
(.seq (reg [op 6 (call (.func 465) #[(.tmp 1)]) 1,
  op 2 (.move (.global 6)),
  op 3 (.move (.const (I 0)))])
.ret))), [(2, 0), (3, 0)]⟩

/-- spec.l00From -/
def fn431 : AFun := ⟨1,
(.seq (reg [op 2 (.move (.const (.pointer none)))])
(.seq (reg [op 3 (.move (.tmp 0)) 1,
  op 4 (.build 0 #[(0, (.const (.agg #[(sl 0 0 0 0), (I 0), (.int .u64 0)]))), (1, (.global 3))]) 1,
  op 5 (.box 3 (.global 4)) 1,
  op 2 (.move (.global 5))])
.ret)), [(2, 0)]⟩

/-- impl.ValidPanel -/
def fn140 : AFun := ⟨1,
(.seq (reg [op 1 (.makeChan 3 (.tmp 0)),
  op 2 (.move (.const (B false)))])
(.seq (.seq (reg [op 5 (.fieldAddr 0 (.tmp 1) 1) 1,
  op 6 (.lookup 0 (.tmp 1) (.global 5) false) 1,
  op 7 (.fieldAddr 1 (.tmp 1) 1) 1,
  op 8 (.lookup 0 (.tmp 1) (.global 7) false) 1,
  op 9 (call (.func 198) #[(.global 6), (.global 8)]) 1,
  op 10 (.unOp .not 0 (.global 9)) 1,
  op 11 (.move (.global 10)) 1,
  op 12 (.fieldAddr 2 (.tmp 1) 1) 1 (some (45, false)),
  op 13 (.lookup 0 (.tmp 1) (.global 12) false) 1 (some (45, false)),
  op 14 (bi .len #[(.global 13)] 1) 1 (some (45, false)),
  op 15 (.fieldAddr 0 (.tmp 1) 1) 1 (some (45, false)),
  op 16 (.lookup 0 (.tmp 1) (.global 15) false) 1 (some (45, false)),
  op 17 (.fieldAddr 1 (.tmp 1) 1) 1 (some (45, false)),
  op 18 (.lookup 0 (.tmp 1) (.global 17) false) 1 (some (45, false)),
  op 19 (call (.func 166) #[(.global 16), (.global 18)]) 1 (some (45, false)),
  op 20 (.binOp .neq 0 (.global 14) (.global 19) 0) 1 (some (45, false)),
  op 21 (.pick (.global 11) (.const (B true)) (.global 20))])
(.cond (.tmp 21)
  (.seq (reg [op 2 (.move (.const (B false)))])
  .ret)
  .skip))
(.seq (.seq (reg [op 22 (.fieldAddr 2 (.tmp 1) 1) 1,
  op 23 (.lookup 0 (.tmp 1) (.global 22) false),
  op 24 (bi .len #[(.tmp 23)] 1),
  op 25 (.move (.const (I 0)))])
(.block 0
  (.loop
    (.seq (reg [op 26 (.binOp .lss 0 (.tmp 25) (.tmp 24) 0)])
    (.seq (.cond (.tmp 26)
      .skip
      (.exit 0))
    (.seq (.block 1
      (.seq (reg [op 27 (.indexAddr 3 (.tmp 23) (.tmp 25)) 1,
        op 28 (.load 0 (.global 27)) 1,
        op 4 (.move (.global 28))])
      (.seq (reg [op 29 (.move (.tmp 4)) 1,
        op 30 (call (.func 196) #[(.global 29)]) 1,
        op 31 (.unOp .not 0 (.global 30))])
      (.cond (.tmp 31)
        (.seq (reg [op 2 (.move (.const (B false)))])
        .ret)
        .skip))))
    (reg [op 32 (.binOp .add 0 (.tmp 25) (.const (I 1)) 0) 1,
      op 25 (.move (.global 32))])))))))
(.seq (reg [op 2 (.move (.const (B true)))])
.ret)))), [(2, 0)]⟩

/-- spec.l02Ok -/
def fn452 : AFun := ⟨1,
(.seq (reg [op 2 (.move (.const (B false)))])
(.seq (.seq (reg [op 4 (.move (.tmp 0)) 1,
  op 5 (.nilCheck (.global 4)) 1,
  op 6 (.fieldAddr 0 (.global 5) 0) 1,
  op 7 (.load 0 (.global 6)) 1,
  op 8 (call (.func 457) #[(.global 7)]) 1,
  op 9 (.unOp .not 0 (.global 8)) 1,
  op 10 (.move (.global 9)) 1,
  op 11 (.move (.tmp 0)) 1 (some (41, false)),
  op 12 (.nilCheck (.global 11)) 1 (some (41, false)),
  op 13 (.fieldAddr 1 (.global 12) 0) 1 (some (41, false)),
  op 14 (.load 0 (.global 13)) 1 (some (41, false)),
  op 15 (call (.func 457) #[(.global 14)]) 1 (some (41, false)),
  op 16 (.unOp .not 0 (.global 15)) 1 (some (41, false)),
  op 17 (.pick (.global 10) (.const (B true)) (.global 16)) 1,
  op 18 (.move (.global 17)) 1,
  op 19 (.move (.tmp 0)) 1 (some (73, false)),
  op 20 (.nilCheck (.global 19)) 1 (some (73, false)),
  op 21 (.fieldAddr 2 (.global 20) 0) 1 (some (73, false)),
  op 22 (.load 0 (.global 21)) 1 (some (73, false)),
  op 23 (bi .len #[(.global 22)] 1) 1 (some (73, false)),
  op 24 (.move (.tmp 0)) 1 (some (73, false)),
  op 25 (.nilCheck (.global 24)) 1 (some (73, false)),
  op 26 (.fieldAddr 0 (.global 25) 0) 1 (some (73, false)),
  op 27 (.load 0 (.global 26)) 1 (some (73, false)),
  op 28 (.move (.tmp 0)) 1 (some (73, false)),
  op 29 (.nilCheck (.global 28)) 1 (some (73, false)),
  op 30 (.fieldAddr 1 (.global 29) 0) 1 (some (73, false)),
  op 31 (.load 0 (.global 30)) 1 (some (73, false)),
  op 32 (call (.func 448) #[(.global 27), (.global 31)]) 3 (some (73, false)),
  op 33 (.binOp .neq 0 (.global 23) (.global 32) 0) 1 (some (73, false)),
  op 34 (.pick (.global 18) (.const (B true)) (.global 33))])
(.cond (.tmp 34)
  (.seq (reg [op 2 (.move (.const (B false)))])
  .ret)
  .skip))
(.seq (.seq (reg [op 3 (.move (.const (I 0)))])
(.block 0
  (.loop
    (.seq (.seq (reg [op 35 (.move (.tmp 3)) 1,
      op 36 (.move (.tmp 0)) 1,
      op 37 (.nilCheck (.global 36)) 1,
      op 38 (.fieldAddr 2 (.global 37) 0) 1,
      op 39 (.load 0 (.global 38)) 1,
      op 40 (bi .len #[(.global 39)] 1) 1,
      op 41 (.binOp .lss 0 (.global 35) (.global 40) 0)])
    (.cond (.tmp 41)
      .skip
      (.exit 0)))
    (.seq (.block 1
      (.seq (reg [op 44 (.move (.tmp 0)) 1,
        op 45 (.nilCheck (.global 44)) 1,
        op 46 (.fieldAddr 2 (.global 45) 0) 1,
        op 47 (.load 0 (.global 46)) 1,
        op 48 (.move (.tmp 3)) 1,
        op 49 (.indexAddr 3 (.global 47) (.global 48)) 1,
        op 50 (.load 0 (.global 49)) 1,
        op 51 (call (.func 432) #[(.global 50), (.const (I 0)), (.const (I 2))]) 1,
        op 52 (.unOp .not 0 (.global 51))])
      (.cond (.tmp 52)
        (.seq (reg [op 2 (.move (.const (B false)))])
        .ret)
        .skip)))
    (reg [op 42 (.move (.tmp 3)) 1,
      op 43 (.binOp .add 0 (.global 42) (.const (I 1)) 0) 1,
      op 3 (.move (.global 43))]))))))
(.seq (reg [op 2 (.move (.const (B true)))])
.ret)))), [(2, 0)]⟩

/-- impl.validSize -/
def fn198 : AFun := ⟨2,
(.seq (reg [op 4 (.move (.const (B false)))])
(.seq (reg [op 5 (.move (.tmp 0)) 1,
  op 6 (call (.func 164) #[(.global 5), (.const (I 1)), (.const (I 8))]) 1,
  op 7 (.move (.global 6)) 1,
  op 8 (.move (.tmp 1)) 1 (some (29, true)),
  op 9 (call (.func 164) #[(.global 8), (.const (I 1)), (.const (I 8))]) 1 (some (29, true)),
  op 10 (.pick (.global 7) (.global 9) (.const (B false))) 1,
  op 4 (.move (.global 10))])
.ret)), [(4, 0)]⟩

/-- (*spec.l00Src).pick -/
def fn7 : AFun := ⟨2,
(.seq (reg [op 4 (.move (.const (I 0)))])
(.seq (.seq (reg [op 6 (.move (.tmp 1)) 1,
  op 7 (.binOp .leq 0 (.global 6) (.const (I 1)) 0)])
(.cond (.tmp 7)
  (.seq (reg [op 4 (.move (.const (I 0)))])
  .ret)
  .skip))
(.seq (reg [op 8 (.move (.tmp 0)) 1,
  op 9 (call (.func 5) #[(.global 8)]) 1,
  op 5 (.move (.global 9))])
(.seq (.seq (reg [op 10 (.move (.tmp 1)) 1,
  op 11 (.binOp .gtr 0 (.global 10) (.const (I 200)) 0)])
(.cond (.tmp 11)
  (reg [op 12 (.move (.tmp 5)) 1,
    op 13 (.binOp .mul 0 (.global 12) (.const (I 256)) 0) 1,
    op 14 (.move (.tmp 0)) 1,
    op 15 (call (.func 5) #[(.global 14)]) 1,
    op 16 (.binOp .add 0 (.global 13) (.global 15) 0) 1,
    op 5 (.move (.global 16))])
  .skip))
(.seq (reg [op 17 (.move (.tmp 5)) 1,
  op 18 (.move (.tmp 1)) 1,
  op 19 (.binOp .rem 0 (.global 17) (.global 18) 0) 1,
  op 4 (.move (.global 19))])
.ret))))), [(4, 0)]⟩

/-- spec.l02Side -/
def fn457 : AFun := ⟨1,
(.seq (reg [op 2 (.move (.const (B false)))])
(.seq (reg [op 3 (.move (.tmp 0)) 1,
  op 4 (call (.func 432) #[(.global 3), (.const (I 1)), (.const (I 8))]) 1,
  op 2 (.move (.global 4))])
.ret)), [(2, 0)]⟩

/-- (*spec.l00Src).one -/
def fn6 : AFun := ⟨2,
(.seq (reg [op 4 (.move (.const (B false)))])
(.seq (reg [op 5 (.move (.tmp 0)) 1,
  op 6 (.move (.tmp 1)) 1,
  op 7 (call (.func 7) #[(.global 5), (.global 6)]) 1,
  op 8 (.binOp .eql 0 (.global 7) (.const (I 0)) 0) 1,
  op 4 (.move (.global 8))])
.ret)), [(4, 0)]⟩

/-- spec.l02Same -/
def fn456 : AFun := ⟨2,
(.seq (reg [op 4 (.move (.const (B false)))])
(.seq (reg [op 5 (.move (.tmp 0)) 1,
  op 6 (.nilCheck (.global 5)) 1,
  op 7 (.fieldAddr 0 (.global 6) 0) 1,
  op 8 (.load 0 (.global 7)) 1,
  op 9 (.move (.tmp 1)) 1,
  op 10 (.nilCheck (.global 9)) 1,
  op 11 (.fieldAddr 0 (.global 10) 0) 1,
  op 12 (.load 0 (.global 11)) 1,
  op 13 (.binOp .eql 0 (.global 8) (.global 12) 0) 1,
  op 14 (.move (.global 13)) 1,
  op 15 (.move (.tmp 0)) 1 (some (57, true)),
  op 16 (.nilCheck (.global 15)) 1 (some (57, true)),
  op 17 (.fieldAddr 1 (.global 16) 0) 1 (some (57, true)),
  op 18 (.load 0 (.global 17)) 1 (some (57, true)),
  op 19 (.move (.tmp 1)) 1 (some (57, true)),
  op 20 (.nilCheck (.global 19)) 1 (some (57, true)),
  op 21 (.fieldAddr 1 (.global 20) 0) 1 (some (57, true)),
  op 22 (.load 0 (.global 21)) 1 (some (57, true)),
  op 23 (.binOp .eql 0 (.global 18) (.global 22) 0) 1 (some (57, true)),
  op 24 (.pick (.global 14) (.global 23) (.const (B false))) 1,
  op 25 (.move (.global 24)) 1,
  op 26 (.move (.tmp 0)) 1 (some (101, true)),
  op 27 (.nilCheck (.global 26)) 1 (some (101, true)),
  op 28 (.fieldAddr 2 (.global 27) 0) 1 (some (101, true)),
  op 29 (.load 0 (.global 28)) 1 (some (101, true)),
  op 30 (.move (.tmp 1)) 1 (some (101, true)),
  op 31 (.nilCheck (.global 30)) 1 (some (101, true)),
  op 32 (.fieldAddr 2 (.global 31) 0) 1 (some (101, true)),
  op 33 (.load 0 (.global 32)) 1 (some (101, true)),
  op 34 (call (.func 436) #[(.global 29), (.global 33)]) 1 (some (101, true)),
  op 35 (.pick (.global 25) (.global 34) (.const (B false))) 1,
  op 4 (.move (.global 35))])
.ret)), [(4, 0)]⟩

/-- spec.l26Draw -/
def fn557 : AFun := ⟨2,
(.seq (reg [op 4 (.move (.const (.agg #[(I 0), (I 0), (sl 0 0 0 0), (sl 0 0 0 0), (sl 0 0 0 0)])))])
(.seq (reg [op 8 (.move (.tmp 0)) 1,
  op 9 (call (.func 445) #[(.global 8), (.const (I 4))]) 1,
  op 10 (.build 0 #[(0, (.const (.agg #[(I 0), (I 0), (sl 0 0 0 0), (sl 0 0 0 0), (sl 0 0 0 0)]))), (3, (.global 9))]) 1,
  op 5 (.box 5 (.const (.agg #[(I 0), (I 0), (sl 0 0 0 0), (sl 0 0 0 0), (sl 0 0 0 0)]))),
  opn (.store 5 (.tmp 5) (.global 10))])
(.seq (.seq (reg [op 11 (.move (.tmp 0)) 1,
  op 12 (.move (.tmp 1)) 1,
  op 13 (.binOp .add 0 (.global 12) (.const (I 1)) 0) 1,
  op 14 (call (.func 7) #[(.global 11), (.global 13)]) 1,
  op 6 (.move (.global 14))])
(.block 0
  (.loop
    (.seq (.seq (reg [op 15 (.move (.tmp 6)) 1,
      op 16 (.binOp .gtr 0 (.global 15) (.const (I 0)) 0)])
    (.cond (.tmp 16)
      .skip
      (.exit 0)))
    (.seq (.block 1
      (.seq (reg [op 19 (.move (.tmp 0)) 1,
        op 20 (.fieldAddr 0 (.tmp 5) 0) 1,
        op 21 (.fieldAddr 2 (.global 20) 0) 1,
        op 22 (.load 0 (.global 21)) 1,
        op 23 (bi .len #[(.global 22)] 1) 1,
        op 24 (call (.func 433) #[(.const (I 1)), (.global 23)]) 1,
        op 25 (call (.func 7) #[(.global 19), (.global 24)]) 1,
        op 7 (.move (.global 25))])
      (.seq (reg [op 26 (.move (.tmp 7)) 1,
        op 27 (.move (.tmp 0)) 1,
        op 28 (call (.func 7) #[(.global 27), (.const (I 3))]) 1,
        op 29 (call (.func 556) #[(.tmp 5), (.global 26), (.global 28)]) 1])
      (.seq (reg [op 30 (.fieldAddr 3 (.tmp 5) 0) 1,
        op 31 (.load 0 (.global 30)) 1,
        op 32 (bi .len #[(.global 31)] 1) 1,
        op 33 (.binOp .gtr 0 (.global 32) (.const (I 0)) 0) 1,
        op 34 (.move (.global 33)) 1,
        op 35 (.move (.tmp 0)) 1 (some (137, true)),
        op 36 (call (.func 6) #[(.global 35), (.const (I 4))]) 1 (some (137, true)),
        op 37 (.pick (.global 34) (.global 36) (.const (B false)))])
      (.cond (.tmp 37)
        (reg [op 38 (call (.func 564) #[(.tmp 5)]) 1])
        .skip)))))
    (reg [op 17 (.move (.tmp 6)) 1,
      op 18 (.binOp .sub 0 (.global 17) (.const (I 1)) 0) 1,
      op 6 (.move (.global 18))]))))))
(.seq (reg [op 39 (.load 6 (.tmp 5)) 1,
  op 4 (.insert 5 (.tmp 4) (.tmp 4) (.global 39))])
.ret)))), [(4, 1000006)]⟩

/-- impl.ValidJournal -/
def fn138 : AFun := ⟨1,
(.seq (reg [op 1 (.makeChan 5 (.tmp 0)),
  op 2 (.move (.const (B false)))])
(.seq (.seq (reg [op 8 (.fieldAddr 0 (.tmp 1) 1) 1,
  op 9 (.lookup 4 (.tmp 1) (.global 8) false) 1,
  op 10 (call (.func 140) #[(.global 9)]) 1,
  op 11 (.unOp .not 0 (.global 10)) 1,
  op 12 (.move (.global 11)) 1,
  op 13 (.fieldAddr 3 (.tmp 1) 1) 1 (some (49, false)),
  op 14 (.lookup 0 (.tmp 1) (.global 13) false) 1 (some (49, false)),
  op 15 (bi .len #[(.global 14)] 1) 1 (some (49, false)),
  op 16 (.fieldAddr 4 (.tmp 1) 1) 1 (some (49, false)),
  op 17 (.lookup 0 (.tmp 1) (.global 16) false) 1 (some (49, false)),
  op 18 (bi .len #[(.global 17)] 1) 1 (some (49, false)),
  op 19 (.binOp .add 0 (.global 15) (.global 18) 0) 1 (some (49, false)),
  op 20 (.binOp .gtr 0 (.global 19) (.const (I 50)) 0) 1 (some (49, false)),
  op 21 (.pick (.global 12) (.const (B true)) (.global 20))])
(.cond (.tmp 21)
  (.seq (reg [op 2 (.move (.const (B false)))])
  .ret)
  .skip))
(.seq (reg [op 22 (.fieldAddr 0 (.tmp 1) 1) 1,
  op 23 (.lookup 4 (.tmp 1) (.global 22) false) 1,
  op 24 (call (.func 150) #[(.global 23)]) 1,
  op 3 (.move (.const (.agg #[(I 0), (I 0), (sl 0 0 0 0)]))),
  op 3 (.insert 3 (.tmp 3) (.tmp 3) (.global 24))])
(.seq (.seq (reg [op 25 (.fieldAddr 3 (.tmp 1) 1) 1,
  op 26 (.lookup 0 (.tmp 1) (.global 25) false) 1,
  op 27 (bi .len #[(.global 26)] 1) 1,
  op 28 (.binOp .sub 0 (.global 27) (.const (I 1)) 0) 1,
  op 4 (.move (.global 28))])
(.block 0
  (.loop
    (.seq (.seq (reg [op 29 (.move (.tmp 4)) 1,
      op 30 (.binOp .geq 0 (.global 29) (.const (I 0)) 0)])
    (.cond (.tmp 30)
      .skip
      (.exit 0)))
    (.seq (.block 1
      (.seq (reg [op 33 (.fieldAddr 3 (.tmp 1) 1) 1,
        op 34 (.lookup 0 (.tmp 1) (.global 33) false) 1,
        op 35 (.move (.tmp 4)) 1,
        op 36 (.indexAddr 7 (.global 34) (.global 35)) 1,
        op 37 (.load 4 (.global 36)) 1,
        op 5 (.move (.const (.agg #[(I 0), (I 0), (I 0)]))),
        op 5 (.insert 3 (.tmp 5) (.tmp 5) (.global 37))])
      (.seq (.seq (reg [op 38 (.lookup 4 (.tmp 3) (.tmp 3) false) 1,
        op 39 (.lookup 4 (.tmp 5) (.tmp 5) false) 1,
        op 40 (call (.func 199) #[(.global 38), (.global 39)]) 1,
        op 41 (.unOp .not 0 (.global 40)) 1,
        op 42 (.move (.global 41)) 1,
        op 43 (.fieldAddr 2 (.tmp 3) 1) 1 (some (169, false)),
        op 44 (.lookup 0 (.tmp 3) (.global 43) false) 1 (some (169, false)),
        op 45 (.fieldAddr 0 (.tmp 5) 1) 1 (some (169, false)),
        op 46 (.lookup 0 (.tmp 5) (.global 45) false) 1 (some (169, false)),
        op 47 (.indexAddr 3 (.global 44) (.global 46)) 1 (some (169, false)),
        op 48 (.load 0 (.global 47)) 1 (some (169, false)),
        op 49 (.fieldAddr 2 (.tmp 5) 1) 1 (some (169, false)),
        op 50 (.lookup 0 (.tmp 5) (.global 49) false) 1 (some (169, false)),
        op 51 (.binOp .neq 0 (.global 48) (.global 50) 0) 1 (some (169, false)),
        op 52 (.pick (.global 42) (.const (B true)) (.global 51))])
      (.cond (.tmp 52)
        (.seq (reg [op 2 (.move (.const (B false)))])
        .ret)
        .skip))
      (reg [op 53 (.fieldAddr 2 (.tmp 3) 1) 1,
        op 54 (.lookup 0 (.tmp 3) (.global 53) false) 1,
        op 55 (.fieldAddr 0 (.tmp 5) 1) 1,
        op 56 (.lookup 0 (.tmp 5) (.global 55) false) 1,
        op 57 (.fieldAddr 1 (.tmp 5) 1) 1,
        op 58 (.lookup 0 (.tmp 5) (.global 57) false) 1,
        op 59 (.indexAddr 3 (.global 54) (.global 56)) 1,
        opn (.store 1 (.global 59) (.global 58))]))))
    (reg [op 31 (.move (.tmp 4)) 1,
      op 32 (.binOp .sub 0 (.global 31) (.const (I 1)) 0) 1,
      op 4 (.move (.global 32))]))))))
(.seq (reg [op 60 (.fieldAddr 0 (.tmp 1) 1) 1,
  op 61 (.lookup 4 (.tmp 1) (.global 60) false) 1,
  op 62 (call (.func 150) #[(.global 61)]) 1,
  op 3 (.insert 3 (.tmp 3) (.tmp 3) (.global 62))])
(.seq (.seq (reg [op 63 (.fieldAddr 4 (.tmp 1) 1) 1,
  op 64 (.lookup 0 (.tmp 1) (.global 63) false),
  op 65 (bi .len #[(.tmp 64)] 1),
  op 66 (.move (.const (I 0)))])
(.block 2
  (.loop
    (.seq (reg [op 67 (.binOp .lss 0 (.tmp 66) (.tmp 65) 0)])
    (.seq (.cond (.tmp 67)
      .skip
      (.exit 2))
    (.seq (.block 3
      (.seq (reg [op 68 (.indexAddr 7 (.tmp 64) (.tmp 66)) 1,
        op 69 (.load 4 (.global 68)) 1,
        op 7 (.move (.const (.agg #[(I 0), (I 0), (I 0)]))),
        op 7 (.insert 3 (.tmp 7) (.tmp 7) (.global 69))])
      (.seq (.seq (reg [op 70 (.lookup 4 (.tmp 3) (.tmp 3) false) 1,
        op 71 (.lookup 4 (.tmp 7) (.tmp 7) false) 1,
        op 72 (call (.func 199) #[(.global 70), (.global 71)]) 1,
        op 73 (.unOp .not 0 (.global 72)) 1,
        op 74 (.move (.global 73)) 1,
        op 75 (.fieldAddr 2 (.tmp 3) 1) 1 (some (297, false)),
        op 76 (.lookup 0 (.tmp 3) (.global 75) false) 1 (some (297, false)),
        op 77 (.fieldAddr 0 (.tmp 7) 1) 1 (some (297, false)),
        op 78 (.lookup 0 (.tmp 7) (.global 77) false) 1 (some (297, false)),
        op 79 (.indexAddr 3 (.global 76) (.global 78)) 1 (some (297, false)),
        op 80 (.load 0 (.global 79)) 1 (some (297, false)),
        op 81 (.fieldAddr 1 (.tmp 7) 1) 1 (some (297, false)),
        op 82 (.lookup 0 (.tmp 7) (.global 81) false) 1 (some (297, false)),
        op 83 (.binOp .neq 0 (.global 80) (.global 82) 0) 1 (some (297, false)),
        op 84 (.pick (.global 74) (.const (B true)) (.global 83))])
      (.cond (.tmp 84)
        (.seq (reg [op 2 (.move (.const (B false)))])
        .ret)
        .skip))
      (reg [op 85 (.fieldAddr 2 (.tmp 3) 1) 1,
        op 86 (.lookup 0 (.tmp 3) (.global 85) false) 1,
        op 87 (.fieldAddr 0 (.tmp 7) 1) 1,
        op 88 (.lookup 0 (.tmp 7) (.global 87) false) 1,
        op 89 (.fieldAddr 2 (.tmp 7) 1) 1,
        op 90 (.lookup 0 (.tmp 7) (.global 89) false) 1,
        op 91 (.indexAddr 3 (.global 86) (.global 88)) 1,
        opn (.store 1 (.global 91) (.global 90))]))))
    (reg [op 92 (.binOp .add 0 (.tmp 66) (.const (I 1)) 0) 1,
      op 66 (.move (.global 92))])))))))
(.seq (reg [op 2 (.move (.const (B true)))])
.ret))))))), [(2, 0)]⟩

/-- impl.clonePanel -/
def fn150 : AFun := ⟨1,
(.seq (reg [op 1 (.makeChan 3 (.tmp 0)),
  op 2 (.move (.const (.agg #[(I 0), (I 0), (sl 0 0 0 0)])))])
(.seq (reg [op 3 (.fieldAddr 2 (.tmp 1) 1) 1,
  op 4 (.lookup 0 (.tmp 1) (.global 3) false) 1,
  op 5 (call (.func 308) #[(.global 4)]) 1,
  op 6 (.fieldAddr 2 (.tmp 1) 1) 1,
  op 1 (.insert 1 (.tmp 1) (.global 6) (.global 5))])
(.seq (reg [op 7 (.lookup 4 (.tmp 1) (.tmp 1) false) 1,
  op 2 (.insert 3 (.tmp 2) (.tmp 2) (.global 7))])
.ret))), [(2, 1000004)]⟩

/-- (impl.Journal).start -/
def fn22 : AFun := ⟨1,
(.seq (reg [op 1 (.makeChan 5 (.tmp 0)),
  op 2 (.move (.const (.agg #[(I 0), (I 0), (sl 0 0 0 0)])))])
(.seq (reg [op 5 (.fieldAddr 0 (.tmp 1) 1) 1,
  op 6 (.lookup 4 (.tmp 1) (.global 5) false) 1,
  op 7 (call (.func 150) #[(.global 6)]) 1,
  op 3 (.move (.const (.agg #[(I 0), (I 0), (sl 0 0 0 0)]))),
  op 3 (.insert 3 (.tmp 3) (.tmp 3) (.global 7))])
(.seq (.seq (reg [op 8 (.fieldAddr 3 (.tmp 1) 1) 1,
  op 9 (.lookup 0 (.tmp 1) (.global 8) false) 1,
  op 10 (bi .len #[(.global 9)] 1) 1,
  op 11 (.binOp .sub 0 (.global 10) (.const (I 1)) 0) 1,
  op 4 (.move (.global 11))])
(.block 0
  (.loop
    (.seq (.seq (reg [op 12 (.move (.tmp 4)) 1,
      op 13 (.binOp .geq 0 (.global 12) (.const (I 0)) 0)])
    (.cond (.tmp 13)
      .skip
      (.exit 0)))
    (.seq (.block 1
      (reg [op 16 (.fieldAddr 2 (.tmp 3) 1) 1,
        op 17 (.lookup 0 (.tmp 3) (.global 16) false) 1,
        op 18 (.fieldAddr 3 (.tmp 1) 1) 1,
        op 19 (.lookup 0 (.tmp 1) (.global 18) false) 1,
        op 20 (.move (.tmp 4)) 1,
        op 21 (.indexAddr 7 (.global 19) (.global 20)) 1,
        op 22 (.fieldAddr 0 (.global 21) 0) 1,
        op 23 (.load 0 (.global 22)) 1,
        op 24 (.fieldAddr 3 (.tmp 1) 1) 1,
        op 25 (.lookup 0 (.tmp 1) (.global 24) false) 1,
        op 26 (.move (.tmp 4)) 1,
        op 27 (.indexAddr 7 (.global 25) (.global 26)) 1,
        op 28 (.fieldAddr 1 (.global 27) 0) 1,
        op 29 (.load 0 (.global 28)) 1,
        op 30 (.indexAddr 3 (.global 17) (.global 23)) 1,
        opn (.store 1 (.global 30) (.global 29))]))
    (reg [op 14 (.move (.tmp 4)) 1,
      op 15 (.binOp .sub 0 (.global 14) (.const (I 1)) 0) 1,
      op 4 (.move (.global 15))]))))))
(.seq (reg [op 31 (.lookup 4 (.tmp 3) (.tmp 3) false) 1,
  op 2 (.insert 3 (.tmp 2) (.tmp 2) (.global 31))])
.ret)))), [(2, 1000004)]⟩

/-- spec.l26Ok -/
def fn558 : AFun := ⟨1,
(.seq (reg [op 2 (.move (.const (B false)))])
(.seq (.seq (reg [op 8 (.move (.tmp 0)) 1,
  op 9 (.nilCheck (.global 8)) 1,
  op 10 (.fieldAddr 0 (.global 9) 0) 1,
  op 11 (call (.func 452) #[(.global 10)]) 1,
  op 12 (.unOp .not 0 (.global 11)) 1,
  op 13 (.move (.global 12)) 1,
  op 14 (.move (.tmp 0)) 1 (some (53, false)),
  op 15 (.nilCheck (.global 14)) 1 (some (53, false)),
  op 16 (.fieldAddr 3 (.global 15) 0) 1 (some (53, false)),
  op 17 (.load 0 (.global 16)) 1 (some (53, false)),
  op 18 (bi .len #[(.global 17)] 1) 1 (some (53, false)),
  op 19 (.move (.tmp 0)) 1 (some (53, false)),
  op 20 (.nilCheck (.global 19)) 1 (some (53, false)),
  op 21 (.fieldAddr 4 (.global 20) 0) 1 (some (53, false)),
  op 22 (.load 0 (.global 21)) 1 (some (53, false)),
  op 23 (bi .len #[(.global 22)] 1) 1 (some (53, false)),
  op 24 (.binOp .add 0 (.global 18) (.global 23) 0) 1 (some (53, false)),
  op 25 (.binOp .gtr 0 (.global 24) (.const (I 50)) 0) 1 (some (53, false)),
  op 26 (.pick (.global 13) (.const (B true)) (.global 25))])
(.cond (.tmp 26)
  (.seq (reg [op 2 (.move (.const (B false)))])
  .ret)
  .skip))
(.seq (reg [op 27 (.move (.tmp 0)) 1,
  op 28 (.nilCheck (.global 27)) 1,
  op 29 (.fieldAddr 0 (.global 28) 0) 1,
  op 30 (call (.func 453) #[(.global 29)]) 1,
  op 3 (.box 3 (.const (.agg #[(I 0), (I 0), (sl 0 0 0 0)]))),
  opn (.store 3 (.tmp 3) (.global 30))])
(.seq (.seq (reg [op 31 (.move (.tmp 0)) 1,
  op 32 (.nilCheck (.global 31)) 1,
  op 33 (.fieldAddr 3 (.global 32) 0) 1,
  op 34 (.load 0 (.global 33)) 1,
  op 35 (bi .len #[(.global 34)] 1) 1,
  op 36 (.binOp .sub 0 (.global 35) (.const (I 1)) 0) 1,
  op 4 (.move (.global 36))])
(.block 0
  (.loop
    (.seq (.seq (reg [op 37 (.move (.tmp 4)) 1,
      op 38 (.binOp .geq 0 (.global 37) (.const (I 0)) 0)])
    (.cond (.tmp 38)
      .skip
      (.exit 0)))
    (.seq (.block 1
      (.seq (reg [op 41 (.move (.tmp 0)) 1,
        op 42 (.nilCheck (.global 41)) 1,
        op 43 (.fieldAddr 3 (.global 42) 0) 1,
        op 44 (.load 0 (.global 43)) 1,
        op 45 (.move (.tmp 4)) 1,
        op 46 (.indexAddr 7 (.global 44) (.global 45)) 1,
        op 47 (.load 4 (.global 46)) 1,
        op 5 (.move (.const (.agg #[(I 0), (I 0), (I 0)]))),
        op 5 (.insert 3 (.tmp 5) (.tmp 5) (.global 47))])
      (.seq (.seq (reg [op 48 (.lookup 4 (.tmp 5) (.tmp 5) false) 1,
        op 49 (call (.func 562) #[(.tmp 3), (.global 48)]) 1,
        op 50 (.unOp .not 0 (.global 49)) 1,
        op 51 (.move (.global 50)) 1,
        op 52 (.fieldAddr 2 (.tmp 3) 0) 1 (some (205, false)),
        op 53 (.load 0 (.global 52)) 1 (some (205, false)),
        op 54 (.fieldAddr 0 (.tmp 5) 1) 1 (some (205, false)),
        op 55 (.lookup 0 (.tmp 5) (.global 54) false) 1 (some (205, false)),
        op 56 (.indexAddr 3 (.global 53) (.global 55)) 1 (some (205, false)),
        op 57 (.load 0 (.global 56)) 1 (some (205, false)),
        op 58 (.fieldAddr 2 (.tmp 5) 1) 1 (some (205, false)),
        op 59 (.lookup 0 (.tmp 5) (.global 58) false) 1 (some (205, false)),
        op 60 (.binOp .neq 0 (.global 57) (.global 59) 0) 1 (some (205, false)),
        op 61 (.pick (.global 51) (.const (B true)) (.global 60))])
      (.cond (.tmp 61)
        (.seq (reg [op 2 (.move (.const (B false)))])
        .ret)
        .skip))
      (reg [op 62 (.fieldAddr 2 (.tmp 3) 0) 1,
        op 63 (.load 0 (.global 62)) 1,
        op 64 (.fieldAddr 0 (.tmp 5) 1) 1,
        op 65 (.lookup 0 (.tmp 5) (.global 64) false) 1,
        op 66 (.fieldAddr 1 (.tmp 5) 1) 1,
        op 67 (.lookup 0 (.tmp 5) (.global 66) false) 1,
        op 68 (.indexAddr 3 (.global 63) (.global 65)) 1,
        opn (.store 1 (.global 68) (.global 67))]))))
    (reg [op 39 (.move (.tmp 4)) 1,
      op 40 (.binOp .sub 0 (.global 39) (.const (I 1)) 0) 1,
      op 4 (.move (.global 40))]))))))
(.seq (reg [op 69 (.move (.tmp 0)) 1,
  op 70 (.nilCheck (.global 69)) 1,
  op 71 (.fieldAddr 0 (.global 70) 0) 1,
  op 72 (call (.func 453) #[(.global 71)]) 1,
  opn (.store 3 (.tmp 3) (.global 72))])
(.seq (.seq (reg [op 6 (.move (.const (I 0)))])
(.block 2
  (.loop
    (.seq (.seq (reg [op 73 (.move (.tmp 6)) 1,
      op 74 (.move (.tmp 0)) 1,
      op 75 (.nilCheck (.global 74)) 1,
      op 76 (.fieldAddr 4 (.global 75) 0) 1,
      op 77 (.load 0 (.global 76)) 1,
      op 78 (bi .len #[(.global 77)] 1) 1,
      op 79 (.binOp .lss 0 (.global 73) (.global 78) 0)])
    (.cond (.tmp 79)
      .skip
      (.exit 2)))
    (.seq (.block 3
      (.seq (reg [op 82 (.move (.tmp 0)) 1,
        op 83 (.nilCheck (.global 82)) 1,
        op 84 (.fieldAddr 4 (.global 83) 0) 1,
        op 85 (.load 0 (.global 84)) 1,
        op 86 (.move (.tmp 6)) 1,
        op 87 (.indexAddr 7 (.global 85) (.global 86)) 1,
        op 88 (.load 4 (.global 87)) 1,
        op 7 (.move (.const (.agg #[(I 0), (I 0), (I 0)]))),
        op 7 (.insert 3 (.tmp 7) (.tmp 7) (.global 88))])
      (.seq (.seq (reg [op 89 (.lookup 4 (.tmp 7) (.tmp 7) false) 1,
        op 90 (call (.func 562) #[(.tmp 3), (.global 89)]) 1,
        op 91 (.unOp .not 0 (.global 90)) 1,
        op 92 (.move (.global 91)) 1,
        op 93 (.fieldAddr 2 (.tmp 3) 0) 1 (some (369, false)),
        op 94 (.load 0 (.global 93)) 1 (some (369, false)),
        op 95 (.fieldAddr 0 (.tmp 7) 1) 1 (some (369, false)),
        op 96 (.lookup 0 (.tmp 7) (.global 95) false) 1 (some (369, false)),
        op 97 (.indexAddr 3 (.global 94) (.global 96)) 1 (some (369, false)),
        op 98 (.load 0 (.global 97)) 1 (some (369, false)),
        op 99 (.fieldAddr 1 (.tmp 7) 1) 1 (some (369, false)),
        op 100 (.lookup 0 (.tmp 7) (.global 99) false) 1 (some (369, false)),
        op 101 (.binOp .neq 0 (.global 98) (.global 100) 0) 1 (some (369, false)),
        op 102 (.pick (.global 92) (.const (B true)) (.global 101))])
      (.cond (.tmp 102)
        (.seq (reg [op 2 (.move (.const (B false)))])
        .ret)
        .skip))
      (reg [op 103 (.fieldAddr 2 (.tmp 3) 0) 1,
        op 104 (.load 0 (.global 103)) 1,
        op 105 (.fieldAddr 0 (.tmp 7) 1) 1,
        op 106 (.lookup 0 (.tmp 7) (.global 105) false) 1,
        op 107 (.fieldAddr 2 (.tmp 7) 1) 1,
        op 108 (.lookup 0 (.tmp 7) (.global 107) false) 1,
        op 109 (.indexAddr 3 (.global 104) (.global 106)) 1,
        opn (.store 1 (.global 109) (.global 108))]))))
    (reg [op 80 (.move (.tmp 6)) 1,
      op 81 (.binOp .add 0 (.global 80) (.const (I 1)) 0) 1,
      op 6 (.move (.global 81))]))))))
(.seq (reg [op 2 (.move (.const (B true)))])
.ret))))))), [(2, 0)]⟩

/-- spec.l26Start -/
def fn561 : AFun := ⟨1,
(.seq (reg [op 2 (.move (.const (.agg #[(I 0), (I 0), (sl 0 0 0 0)])))])
(.seq (reg [op 5 (.move (.tmp 0)) 1,
  op 6 (.nilCheck (.global 5)) 1,
  op 7 (.fieldAddr 0 (.global 6) 0) 1,
  op 8 (call (.func 453) #[(.global 7)]) 1,
  op 3 (.move (.const (.agg #[(I 0), (I 0), (sl 0 0 0 0)]))),
  op 3 (.insert 3 (.tmp 3) (.tmp 3) (.global 8))])
(.seq (.seq (reg [op 9 (.move (.tmp 0)) 1,
  op 10 (.nilCheck (.global 9)) 1,
  op 11 (.fieldAddr 3 (.global 10) 0) 1,
  op 12 (.load 0 (.global 11)) 1,
  op 13 (bi .len #[(.global 12)] 1) 1,
  op 14 (.binOp .sub 0 (.global 13) (.const (I 1)) 0) 1,
  op 4 (.move (.global 14))])
(.block 0
  (.loop
    (.seq (.seq (reg [op 15 (.move (.tmp 4)) 1,
      op 16 (.binOp .geq 0 (.global 15) (.const (I 0)) 0)])
    (.cond (.tmp 16)
      .skip
      (.exit 0)))
    (.seq (.block 1
      (reg [op 19 (.fieldAddr 2 (.tmp 3) 1) 1,
        op 20 (.lookup 0 (.tmp 3) (.global 19) false) 1,
        op 21 (.move (.tmp 0)) 1,
        op 22 (.nilCheck (.global 21)) 1,
        op 23 (.fieldAddr 3 (.global 22) 0) 1,
        op 24 (.load 0 (.global 23)) 1,
        op 25 (.move (.tmp 4)) 1,
        op 26 (.indexAddr 7 (.global 24) (.global 25)) 1,
        op 27 (.fieldAddr 0 (.global 26) 0) 1,
        op 28 (.load 0 (.global 27)) 1,
        op 29 (.move (.tmp 0)) 1,
        op 30 (.nilCheck (.global 29)) 1,
        op 31 (.fieldAddr 3 (.global 30) 0) 1,
        op 32 (.load 0 (.global 31)) 1,
        op 33 (.move (.tmp 4)) 1,
        op 34 (.indexAddr 7 (.global 32) (.global 33)) 1,
        op 35 (.fieldAddr 1 (.global 34) 0) 1,
        op 36 (.load 0 (.global 35)) 1,
        op 37 (.indexAddr 3 (.global 20) (.global 28)) 1,
        opn (.store 1 (.global 37) (.global 36))]))
    (reg [op 17 (.move (.tmp 4)) 1,
      op 18 (.binOp .sub 0 (.global 17) (.const (I 1)) 0) 1,
      op 4 (.move (.global 18))]))))))
(.seq (reg [op 38 (.lookup 4 (.tmp 3) (.tmp 3) false) 1,
  op 2 (.insert 3 (.tmp 2) (.tmp 2) (.global 38))])
.ret)))), [(2, 1000004)]⟩

/-- impl.countCurves -/
def fn154 : AFun := ⟨1,
(.seq (reg [op 1 (.makeChan 3 (.tmp 0)),
  op 2 (.move (.const (I 0)))])
(.seq (reg [op 6 (.lookup 4 (.tmp 1) (.tmp 1) false) 1,
  op 7 (call (.func 55) #[(.global 6)]) 1,
  op 5 (.move (.global 7)) 1,
  op 8 (.extract (.global 5) 0) 1,
  op 9 (.extract (.global 5) 1) 1,
  op 3 (.move (.global 8)),
  op 4 (.move (.global 9)) 1])
(.seq (reg [op 10 (.move (.tmp 3)) 1,
  op 11 (bi .len #[(.global 10)] 1) 1,
  op 2 (.move (.global 11))])
.ret))), [(2, 0)]⟩

/-- spec.l04Count -/
def fn465 : AFun := ⟨1,
(.seq (reg [op 2 (.move (.const (I 0)))])
(.seq (reg [op 6 (.move (.tmp 0)) 1,
  op 7 (call (.func 463) #[(.global 6)]) 1,
  op 5 (.move (.global 7)) 1,
  op 8 (.extract (.global 5) 0) 1,
  op 9 (.extract (.global 5) 1) 1,
  op 3 (.move (.global 8)),
  op 4 (.move (.global 9)) 1])
(.seq (reg [op 10 (.move (.tmp 3)) 1,
  op 11 (bi .len #[(.global 10)] 1) 1,
  op 2 (.move (.global 11))])
.ret))), [(2, 0)]⟩

/-- impl.hasIndex -/
def fn163 : AFun := ⟨2,
(.seq (reg [op 4 (.move (.const (B false)))])
(.seq (reg [op 5 (.move (.tmp 0)) 1,
  op 6 (.move (.tmp 1)) 1,
  op 7 (.binOp .sub 0 (.global 6) (.const (I 1)) 0) 1,
  op 8 (call (.func 164) #[(.global 5), (.const (I 0)), (.global 7)]) 1,
  op 4 (.move (.global 8))])
.ret)), [(4, 0)]⟩

/-- impl.validBreak -/
def fn196 : AFun := ⟨1,
(.seq (reg [op 2 (.move (.const (B false)))])
(.seq (reg [op 3 (.move (.tmp 0)) 1,
  op 4 (call (.func 164) #[(.global 3), (.const (I 0)), (.const (I 2))]) 1,
  op 2 (.move (.global 4))])
.ret)), [(2, 0)]⟩

/-- impl.inRange -/
def fn164 : AFun := ⟨3,
(.seq (reg [op 6 (.move (.const (B false)))])
(.seq (reg [op 7 (.move (.tmp 0)) 1,
  op 8 (.move (.tmp 1)) 1,
  op 9 (.binOp .geq 0 (.global 7) (.global 8) 0) 1,
  op 10 (.move (.global 9)) 1,
  op 11 (.move (.tmp 0)) 1 (some (41, true)),
  op 12 (.move (.tmp 2)) 1 (some (41, true)),
  op 13 (.binOp .leq 0 (.global 11) (.global 12) 0) 1 (some (41, true)),
  op 14 (.pick (.global 10) (.global 13) (.const (B false))) 1,
  op 6 (.move (.global 14))])
.ret)), [(6, 0)]⟩

/-- spec.l02Own -/
def fn453 : AFun := ⟨1,
(.seq (reg [op 2 (.move (.const (.agg #[(I 0), (I 0), (sl 0 0 0 0)])))])
(.seq (reg [op 3 (.move (.tmp 0)) 1,
  op 4 (.nilCheck (.global 3)) 1,
  op 5 (.fieldAddr 0 (.global 4) 0) 1,
  op 6 (.load 0 (.global 5)) 1,
  op 7 (.move (.tmp 0)) 1,
  op 8 (.nilCheck (.global 7)) 1,
  op 9 (.fieldAddr 1 (.global 8) 0) 1,
  op 10 (.load 0 (.global 9)) 1,
  op 11 (.move (.tmp 0)) 1,
  op 12 (.nilCheck (.global 11)) 1,
  op 13 (.fieldAddr 2 (.global 12) 0) 1,
  op 14 (.load 0 (.global 13)) 1,
  op 15 (call (.func 435) #[(.global 14)]) 3,
  op 16 (.build 0 #[(0, (.const (.agg #[(I 0), (I 0), (sl 0 0 0 0)]))), (1, (.global 6)), (1001, (.global 10)), (2001, (.global 15))]) 1,
  op 2 (.insert 3 (.tmp 2) (.tmp 2) (.global 16))])
.ret)), [(2, 1000004)]⟩

/-- spec.l00In -/
def fn432 : AFun := ⟨3,
(.seq (reg [op 6 (.move (.const (B false)))])
(.seq (reg [op 7 (.move (.tmp 0)) 1,
  op 8 (.move (.tmp 1)) 1,
  op 9 (.binOp .geq 0 (.global 7) (.global 8) 0) 1,
  op 10 (.move (.global 9)) 1,
  op 11 (.move (.tmp 0)) 1 (some (41, true)),
  op 12 (.move (.tmp 2)) 1 (some (41, true)),
  op 13 (.binOp .leq 0 (.global 11) (.global 12) 0) 1 (some (41, true)),
  op 14 (.pick (.global 10) (.global 13) (.const (B false))) 1,
  op 6 (.move (.global 14))])
.ret)), [(6, 0)]⟩

/-- spec.l02Kind -/
def fn449 : AFun := ⟨1,
(.seq (reg [op 2 (.move (.const (B false)))])
(.seq (reg [op 3 (.move (.tmp 0)) 1,
  op 4 (call (.func 432) #[(.global 3), (.const (I 0)), (.const (I 2))]) 1,
  op 2 (.move (.global 4))])
.ret)), [(2, 0)]⟩

/-- spec.l02Draw -/
def fn445 : AFun := ⟨2,
(.seq (reg [op 4 (.move (.const (.agg #[(I 0), (I 0), (sl 0 0 0 0)])))])
(.seq (reg [op 9 (.move (.tmp 0)) 1,
  op 10 (.move (.tmp 1)) 1,
  op 11 (call (.func 7) #[(.global 9), (.global 10)]) 1,
  op 12 (.binOp .add 0 (.const (I 1)) (.global 11) 0) 1,
  op 5 (.move (.global 12))])
(.seq (reg [op 13 (.move (.tmp 5)) 1,
  op 14 (.move (.tmp 0)) 1,
  op 15 (.move (.tmp 1)) 1,
  op 16 (call (.func 7) #[(.global 14), (.global 15)]) 1,
  op 17 (.binOp .add 0 (.const (I 1)) (.global 16) 0) 1,
  op 18 (call (.func 450) #[(.global 13), (.global 17)]) 1,
  op 6 (.move (.const (.agg #[(I 0), (I 0), (sl 0 0 0 0)]))),
  op 6 (.insert 3 (.tmp 6) (.tmp 6) (.global 18))])
(.seq (reg [op 19 (.move (.tmp 0)) 1,
  op 20 (call (.func 7) #[(.global 19), (.const (I 4))]) 1,
  op 7 (.move (.global 20))])
(.seq (.seq (reg [op 8 (.move (.const (I 0)))])
(.block 0
  (.loop
    (.seq (.seq (reg [op 21 (.move (.tmp 8)) 1,
      op 22 (.fieldAddr 2 (.tmp 6) 1) 1,
      op 23 (.lookup 0 (.tmp 6) (.global 22) false) 1,
      op 24 (bi .len #[(.global 23)] 1) 1,
      op 25 (.binOp .lss 0 (.global 21) (.global 24) 0)])
    (.cond (.tmp 25)
      .skip
      (.exit 0)))
    (.seq (.block 1
      (.seq (reg [op 28 (.move (.tmp 0)) 1,
        op 29 (call (.func 7) #[(.global 28), (.const (I 4))]) 1,
        op 30 (.move (.tmp 7)) 1,
        op 31 (.binOp .lss 0 (.global 29) (.global 30) 0)])
      (.cond (.tmp 31)
        (reg [op 32 (.fieldAddr 2 (.tmp 6) 1) 1,
          op 33 (.lookup 0 (.tmp 6) (.global 32) false) 1,
          op 34 (.move (.tmp 8)) 1,
          op 35 (.move (.tmp 0)) 1,
          op 36 (call (.func 7) #[(.global 35), (.const (I 2))]) 1,
          op 37 (.binOp .add 0 (.const (I 1)) (.global 36) 0) 1,
          op 38 (.indexAddr 3 (.global 33) (.global 34)) 1,
          opn (.store 1 (.global 38) (.global 37))])
        .skip)))
    (reg [op 26 (.move (.tmp 8)) 1,
      op 27 (.binOp .add 0 (.global 26) (.const (I 1)) 0) 1,
      op 8 (.move (.global 27))]))))))
(.seq (reg [op 39 (.lookup 4 (.tmp 6) (.tmp 6) false) 1,
  op 4 (.insert 3 (.tmp 4) (.tmp 4) (.global 39))])
.ret)))))), [(4, 1000004)]⟩

/-- (impl.Panel).number -/
def fn40 : AFun := ⟨2,
(.seq (reg [op 2 (.makeChan 3 (.tmp 0)),
  op 3 (.makeChan 2 (.tmp 1)),
  op 4 (.move (.const (I 0)))])
(.seq (reg [op 6 (.fieldAddr 1 (.tmp 3) 1) 1,
  op 7 (.lookup 0 (.tmp 3) (.global 6) false) 1,
  op 8 (.binOp .quo 0 (.global 7) (.const (I 2)) 0) 1,
  op 9 (.fieldAddr 0 (.tmp 2) 1) 1,
  op 10 (.lookup 0 (.tmp 2) (.global 9) false) 1,
  op 11 (.binOp .sub 0 (.global 10) (.const (I 1)) 0) 1,
  op 12 (.binOp .mul 0 (.global 8) (.global 11) 0) 1,
  op 13 (.fieldAddr 1 (.tmp 3) 1) 1,
  op 14 (.lookup 0 (.tmp 3) (.global 13) false) 1,
  op 15 (.binOp .sub 0 (.global 14) (.const (I 1)) 0) 1,
  op 16 (.binOp .quo 0 (.global 15) (.const (I 2)) 0) 1,
  op 17 (.fieldAddr 0 (.tmp 2) 1) 1,
  op 18 (.lookup 0 (.tmp 2) (.global 17) false) 1,
  op 19 (.binOp .mul 0 (.global 16) (.global 18) 0) 1,
  op 20 (.binOp .add 0 (.global 12) (.global 19) 0) 1,
  op 5 (.move (.global 20))])
(.seq (.seq (reg [op 21 (.fieldAddr 1 (.tmp 3) 1) 1,
  op 22 (.lookup 0 (.tmp 3) (.global 21) false) 1,
  op 23 (.binOp .rem 0 (.global 22) (.const (I 2)) 0) 1,
  op 24 (.binOp .eql 0 (.global 23) (.const (I 1)) 0)])
(.cond (.tmp 24)
  (.seq (reg [op 25 (.move (.tmp 5)) 1,
    op 26 (.fieldAddr 0 (.tmp 3) 1) 1,
    op 27 (.lookup 0 (.tmp 3) (.global 26) false) 1,
    op 28 (.binOp .quo 0 (.global 27) (.const (I 2)) 0) 1,
    op 29 (.binOp .add 0 (.global 25) (.global 28) 0) 1,
    op 30 (.binOp .sub 0 (.global 29) (.const (I 1)) 0) 1,
    op 4 (.move (.global 30))])
  .ret)
  .skip))
(.seq (reg [op 31 (.move (.tmp 5)) 1,
  op 32 (.fieldAddr 0 (.tmp 3) 1) 1,
  op 33 (.lookup 0 (.tmp 3) (.global 32) false) 1,
  op 34 (.binOp .quo 0 (.global 33) (.const (I 2)) 0) 1,
  op 35 (.binOp .add 0 (.global 31) (.global 34) 0) 1,
  op 4 (.move (.global 35))])
.ret)))), [(4, 0)]⟩

/-- spec.l02New -/
def fn450 : AFun := ⟨2,
(.seq (reg [op 4 (.move (.const (.agg #[(I 0), (I 0), (sl 0 0 0 0)])))])
(.seq (reg [op 5 (.move (.tmp 0)) 1,
  op 6 (.move (.tmp 1)) 1,
  op 7 (.move (.tmp 0)) 1,
  op 8 (.move (.tmp 1)) 1,
  op 9 (call (.func 448) #[(.global 7), (.global 8)]) 1,
  op 10 (.mapUpdate 1 (.global 9) (.global 9) (.const (.agg #[(I 0)]))) 1,
  op 11 (.build 0 #[(0, (.const (.agg #[(I 0), (I 0), (sl 0 0 0 0)]))), (1, (.global 5)), (1001, (.global 6)), (2001, (.global 10))]) 1,
  op 4 (.insert 3 (.tmp 4) (.tmp 4) (.global 11))])
.ret)), [(4, 1000004)]⟩

/-- spec.l02Number -/
def fn451 : AFun := ⟨2,
(.seq (reg [op 3 (.makeChan 2 (.tmp 1)),
  op 4 (.move (.const (I 0)))])
(.seq (reg [op 5 (.move (.tmp 0)) 1,
  op 6 (.fieldAddr 1 (.tmp 3) 1) 1,
  op 7 (.lookup 0 (.tmp 3) (.global 6) false) 1,
  op 8 (call (.func 455) #[(.global 5), (.global 7)]) 1,
  op 9 (.fieldAddr 0 (.tmp 3) 1) 1,
  op 10 (.lookup 0 (.tmp 3) (.global 9) false) 1,
  op 11 (.binOp .sub 0 (.global 10) (.const (I 1)) 0) 1,
  op 12 (.binOp .quo 0 (.global 11) (.const (I 2)) 0) 1,
  op 13 (.binOp .add 0 (.global 8) (.global 12) 0) 1,
  op 4 (.move (.global 13))])
.ret)), [(4, 0)]⟩

/-- spec.l00Max -/
def fn433 : AFun := ⟨2,
(.seq (reg [op 4 (.move (.const (I 0)))])
(.seq (.seq (reg [op 5 (.move (.tmp 0)) 1,
  op 6 (.move (.tmp 1)) 1,
  op 7 (.binOp .gtr 0 (.global 5) (.global 6) 0)])
(.cond (.tmp 7)
  (.seq (reg [op 8 (.move (.tmp 0)) 1,
    op 4 (.move (.global 8))])
  .ret)
  .skip))
(.seq (reg [op 9 (.move (.tmp 1)) 1,
  op 4 (.move (.global 9))])
.ret))), [(4, 0)]⟩

/-- impl.innerPoints -/
def fn166 : AFun := ⟨2,
(.seq (reg [op 4 (.move (.const (I 0)))])
(.seq (reg [op 5 (.move (.tmp 0)) 1,
  op 6 (.move (.tmp 1)) 1,
  op 7 (.binOp .sub 0 (.global 6) (.const (I 1)) 0) 1,
  op 8 (.binOp .mul 0 (.global 5) (.global 7) 0) 1,
  op 9 (.move (.tmp 1)) 1,
  op 10 (.move (.tmp 0)) 1,
  op 11 (.binOp .sub 0 (.global 10) (.const (I 1)) 0) 1,
  op 12 (.binOp .mul 0 (.global 9) (.global 11) 0) 1,
  op 13 (.binOp .add 0 (.global 8) (.global 12) 0) 1,
  op 4 (.move (.global 13))])
.ret)), [(4, 0)]⟩

/-- spec.l02Inner -/
def fn448 : AFun := ⟨2,
(.seq (reg [op 4 (.move (.const (I 0)))])
(.seq (reg [op 5 (.move (.tmp 0)) 1,
  op 6 (.move (.tmp 1)) 1,
  op 7 (.binOp .sub 0 (.global 6) (.const (I 1)) 0) 1,
  op 8 (.binOp .mul 0 (.global 5) (.global 7) 0) 1,
  op 9 (.move (.tmp 1)) 1,
  op 10 (.move (.tmp 0)) 1,
  op 11 (.binOp .sub 0 (.global 10) (.const (I 1)) 0) 1,
  op 12 (.binOp .mul 0 (.global 9) (.global 11) 0) 1,
  op 13 (.binOp .add 0 (.global 8) (.global 12) 0) 1,
  op 4 (.move (.global 13))])
.ret)), [(4, 0)]⟩

/-- (*spec.l00Src).next -/
def fn5 : AFun := ⟨1,
(.seq (reg [op 2 (.move (.const (I 0)))])
(.seq (reg [op 3 (.move (.const (I 0)))])
(.seq (.seq (reg [op 4 (.move (.tmp 0)) 1,
  op 5 (.nilCheck (.global 4)) 1,
  op 6 (.fieldAddr 1 (.global 5) 0) 1,
  op 7 (.load 0 (.global 6)) 1,
  op 8 (.move (.tmp 0)) 1,
  op 9 (.nilCheck (.global 8)) 1,
  op 10 (.fieldAddr 0 (.global 9) 0) 1,
  op 11 (.load 0 (.global 10)) 1,
  op 12 (bi .len #[(.global 11)] 1) 1,
  op 13 (.binOp .lss 0 (.global 7) (.global 12) 0)])
(.cond (.tmp 13)
  (reg [op 14 (.move (.tmp 0)) 1,
    op 15 (.nilCheck (.global 14)) 1,
    op 16 (.fieldAddr 0 (.global 15) 0) 1,
    op 17 (.load 0 (.global 16)) 1,
    op 18 (.move (.tmp 0)) 1,
    op 19 (.nilCheck (.global 18)) 1,
    op 20 (.fieldAddr 1 (.global 19) 0) 1,
    op 21 (.load 0 (.global 20)) 1,
    op 22 (.indexAddr 3 (.global 17) (.global 21)) 1,
    op 23 (.load 0 (.global 22)) 1,
    op 24 (.convert 0 3 (.global 23)) 1,
    op 3 (.move (.global 24))])
  .skip))
(.seq (reg [op 25 (.move (.tmp 0)) 1,
  op 26 (.nilCheck (.global 25)) 1,
  op 27 (.fieldAddr 1 (.global 26) 0) 1,
  op 28 (.load 0 (.global 27)) 1,
  op 29 (.binOp .add 0 (.global 28) (.const (I 1)) 0) 1,
  op 30 (.nilCheck (.global 25)) 1,
  op 31 (.fieldAddr 1 (.global 30) 0) 1,
  opn (.store 1 (.global 31) (.global 29))])
(.seq (reg [op 32 (.move (.tmp 0)) 1,
  op 33 (.move (.tmp 0)) 1,
  op 34 (.nilCheck (.global 33)) 1,
  op 35 (.fieldAddr 2 (.global 34) 0) 1,
  op 36 (.load 0 (.global 35)) 1,
  op 37 (.binOp .mul 0 (.global 36) (.const (.int .u64 6364136223846793005)) 0) 1,
  op 38 (.move (.tmp 3)) 1,
  op 39 (.convert 0 7 (.global 38)) 1,
  op 40 (.binOp .add 0 (.global 37) (.global 39) 0) 1,
  op 41 (.binOp .add 0 (.global 40) (.const (.int .u64 1442695040888963407)) 0) 1,
  op 42 (.nilCheck (.global 32)) 1,
  op 43 (.fieldAddr 2 (.global 42) 0) 1,
  opn (.store 1 (.global 43) (.global 41))])
(.seq (.seq (reg [op 44 (.move (.tmp 0)) 1,
  op 45 (.nilCheck (.global 44)) 1,
  op 46 (.fieldAddr 1 (.global 45) 0) 1,
  op 47 (.load 0 (.global 46)) 1,
  op 48 (.move (.tmp 0)) 1,
  op 49 (.nilCheck (.global 48)) 1,
  op 50 (.fieldAddr 0 (.global 49) 0) 1,
  op 51 (.load 0 (.global 50)) 1,
  op 52 (bi .len #[(.global 51)] 1) 1,
  op 53 (.binOp .leq 0 (.global 47) (.global 52) 0)])
(.cond (.tmp 53)
  (.seq (reg [op 54 (.move (.tmp 3)) 1,
    op 2 (.move (.global 54))])
  .ret)
  .skip))
(.seq (reg [op 55 (.move (.tmp 0)) 1,
  op 56 (.nilCheck (.global 55)) 1,
  op 57 (.fieldAddr 2 (.global 56) 0) 1,
  op 58 (.load 0 (.global 57)) 1,
  op 59 (.binOp .shr 0 (.global 58) (.const (.int .u64 40)) 0) 1,
  op 60 (.binOp .and 0 (.global 59) (.const (.int .u64 255)) 0) 1,
  op 61 (.convert 0 3 (.global 60)) 1,
  op 2 (.move (.global 61))])
.ret))))))), [(2, 0)]⟩

/-- spec.l00Same -/
def fn436 : AFun := ⟨2,
(.seq (reg [op 4 (.move (.const (B false)))])
(.seq (.seq (reg [op 6 (.move (.tmp 0)) 1,
  op 7 (bi .len #[(.global 6)] 1) 1,
  op 8 (.move (.tmp 1)) 1,
  op 9 (bi .len #[(.global 8)] 1) 1,
  op 10 (.binOp .neq 0 (.global 7) (.global 9) 0)])
(.cond (.tmp 10)
  (.seq (reg [op 4 (.move (.const (B false)))])
  .ret)
  .skip))
(.seq (.seq (reg [op 5 (.move (.const (I 0)))])
(.block 0
  (.loop
    (.seq (.seq (reg [op 11 (.move (.tmp 5)) 1,
      op 12 (.move (.tmp 0)) 1,
      op 13 (bi .len #[(.global 12)] 1) 1,
      op 14 (.binOp .lss 0 (.global 11) (.global 13) 0)])
    (.cond (.tmp 14)
      .skip
      (.exit 0)))
    (.seq (.block 1
      (.seq (reg [op 17 (.move (.tmp 0)) 1,
        op 18 (.move (.tmp 5)) 1,
        op 19 (.indexAddr 3 (.global 17) (.global 18)) 1,
        op 20 (.load 0 (.global 19)) 1,
        op 21 (.move (.tmp 1)) 1,
        op 22 (.move (.tmp 5)) 1,
        op 23 (.indexAddr 3 (.global 21) (.global 22)) 1,
        op 24 (.load 0 (.global 23)) 1,
        op 25 (.binOp .neq 0 (.global 20) (.global 24) 0)])
      (.cond (.tmp 25)
        (.seq (reg [op 4 (.move (.const (B false)))])
        .ret)
        .skip)))
    (reg [op 15 (.move (.tmp 5)) 1,
      op 16 (.binOp .add 0 (.global 15) (.const (I 1)) 0) 1,
      op 5 (.move (.global 16))]))))))
(.seq (reg [op 4 (.move (.const (B true)))])
.ret)))), [(4, 0)]⟩

/-- spec.l26Do -/
def fn556 : AFun := ⟨3,
(.seq (reg [op 6 (.move (.const (I 0)))])
(.seq (.seq (reg [op 8 (.move (.tmp 1)) 1,
  op 9 (.move (.tmp 0)) 1,
  op 10 (.nilCheck (.global 9)) 1,
  op 11 (.fieldAddr 0 (.global 10) 0) 1,
  op 12 (.fieldAddr 2 (.global 11) 0) 1,
  op 13 (.load 0 (.global 12)) 1,
  op 14 (bi .len #[(.global 13)] 1) 1,
  op 15 (.binOp .sub 0 (.global 14) (.const (I 1)) 0) 1,
  op 16 (call (.func 432) #[(.global 8), (.const (I 0)), (.global 15)]) 1,
  op 17 (.unOp .not 0 (.global 16)) 1,
  op 18 (.move (.global 17)) 1,
  op 19 (.move (.tmp 2)) 1 (some (73, false)),
  op 20 (call (.func 449) #[(.global 19)]) 1 (some (73, false)),
  op 21 (.unOp .not 0 (.global 20)) 1 (some (73, false)),
  op 22 (.pick (.global 18) (.const (B true)) (.global 21))])
(.cond (.tmp 22)
  (.seq (reg [op 6 (.move (.const (I 2)))])
  .ret)
  .skip))
(.seq (reg [op 23 (.move (.tmp 0)) 1,
  op 24 (.nilCheck (.global 23)) 1,
  op 25 (.fieldAddr 0 (.global 24) 0) 1,
  op 26 (.fieldAddr 2 (.global 25) 0) 1,
  op 27 (.load 0 (.global 26)) 1,
  op 28 (.move (.tmp 1)) 1,
  op 29 (.indexAddr 3 (.global 27) (.global 28)) 1,
  op 30 (.load 0 (.global 29)) 1,
  op 7 (.move (.global 30))])
(.seq (.seq (reg [op 31 (.move (.tmp 7)) 1,
  op 32 (.move (.tmp 2)) 1,
  op 33 (.binOp .eql 0 (.global 31) (.global 32) 0)])
(.cond (.tmp 33)
  (.seq (reg [op 6 (.move (.const (I 6)))])
  .ret)
  .skip))
(.seq (.seq (reg [op 34 (.move (.tmp 0)) 1,
  op 35 (.nilCheck (.global 34)) 1,
  op 36 (.fieldAddr 3 (.global 35) 0) 1,
  op 37 (.load 0 (.global 36)) 1,
  op 38 (bi .len #[(.global 37)] 1) 1,
  op 39 (.binOp .geq 0 (.global 38) (.const (I 50)) 0)])
(.cond (.tmp 39)
  (.seq (reg [op 6 (.move (.const (I 5)))])
  .ret)
  .skip))
(.seq (reg [op 40 (.move (.tmp 0)) 1,
  op 41 (.nilCheck (.global 40)) 1,
  op 42 (.fieldAddr 0 (.global 41) 0) 1,
  op 43 (.fieldAddr 2 (.global 42) 0) 1,
  op 44 (.load 0 (.global 43)) 1,
  op 45 (.move (.tmp 1)) 1,
  op 46 (.move (.tmp 2)) 1,
  op 47 (.indexAddr 3 (.global 44) (.global 45)) 1,
  opn (.store 1 (.global 47) (.global 46))])
(.seq (reg [op 48 (.move (.tmp 0)) 1,
  op 49 (.move (.tmp 0)) 1,
  op 50 (.nilCheck (.global 49)) 1,
  op 51 (.fieldAddr 3 (.global 50) 0) 1,
  op 52 (.load 0 (.global 51)) 1,
  op 53 (.move (.tmp 1)) 1,
  op 54 (.move (.tmp 7)) 1,
  op 55 (.move (.tmp 2)) 1,
  op 56 (.build 0 #[(0, (.const (.agg #[(I 0), (I 0), (I 0)]))), (1, (.global 53)), (1001, (.global 54)), (2001, (.global 55))]) 1,
  op 57 (.buildSlice 3 1 #[(0, (.const (.agg #[(I 0), (I 0), (I 0)]))), (3, (.global 56))]) 1,
  op 58 (bi .append #[(.global 52), (.global 57)] 3) 1,
  op 59 (.nilCheck (.global 48)) 1,
  op 60 (.fieldAddr 3 (.global 59) 0) 1,
  opn (.store 1 (.global 60) (.global 58))])
(.seq (reg [op 61 (.move (.tmp 0)) 1,
  op 62 (.nilCheck (.global 61)) 1,
  op 63 (.fieldAddr 4 (.global 62) 0) 1,
  opn (.store 1 (.global 63) (.const (sl 0 0 0 0)))])
(.seq (reg [op 6 (.move (.const (I 0)))])
.ret))))))))), [(6, 0)]⟩

/-- spec.l26Undo -/
def fn564 : AFun := ⟨1,
(.seq (reg [op 4 (.move (.tmp 0)) 1,
  op 5 (.nilCheck (.global 4)) 1,
  op 6 (.fieldAddr 3 (.global 5) 0) 1,
  op 7 (.load 0 (.global 6)) 1,
  op 8 (bi .len #[(.global 7)] 1) 1,
  op 2 (.move (.global 8))])
(.seq (reg [op 9 (.move (.tmp 0)) 1,
  op 10 (.nilCheck (.global 9)) 1,
  op 11 (.fieldAddr 3 (.global 10) 0) 1,
  op 12 (.load 0 (.global 11)) 1,
  op 13 (.move (.tmp 2)) 1,
  op 14 (.binOp .sub 0 (.global 13) (.const (I 1)) 0) 1,
  op 15 (.indexAddr 7 (.global 12) (.global 14)) 1,
  op 16 (.load 4 (.global 15)) 1,
  op 3 (.move (.const (.agg #[(I 0), (I 0), (I 0)]))),
  op 3 (.insert 3 (.tmp 3) (.tmp 3) (.global 16))])
(.seq (reg [op 17 (.move (.tmp 0)) 1,
  op 18 (.nilCheck (.global 17)) 1,
  op 19 (.fieldAddr 0 (.global 18) 0) 1,
  op 20 (.fieldAddr 2 (.global 19) 0) 1,
  op 21 (.load 0 (.global 20)) 1,
  op 22 (.fieldAddr 0 (.tmp 3) 1) 1,
  op 23 (.lookup 0 (.tmp 3) (.global 22) false) 1,
  op 24 (.fieldAddr 1 (.tmp 3) 1) 1,
  op 25 (.lookup 0 (.tmp 3) (.global 24) false) 1,
  op 26 (.indexAddr 3 (.global 21) (.global 23)) 1,
  opn (.store 1 (.global 26) (.global 25))])
(.seq (reg [op 27 (.move (.tmp 0)) 1,
  op 28 (.move (.tmp 0)) 1,
  op 29 (.nilCheck (.global 28)) 1,
  op 30 (.fieldAddr 3 (.global 29) 0) 1,
  op 31 (.load 0 (.global 30)) 1,
  op 32 (.move (.tmp 2)) 1,
  op 33 (.binOp .sub 0 (.global 32) (.const (I 1)) 0) 1,
  op 34 (.slice 7 (.global 31) none (some (.global 33)) none) 1,
  op 35 (.nilCheck (.global 27)) 1,
  op 36 (.fieldAddr 3 (.global 35) 0) 1,
  opn (.store 1 (.global 36) (.global 34))])
(reg [op 37 (.move (.tmp 0)) 1,
  op 38 (.lookup 4 (.tmp 3) (.tmp 3) false) 1,
  op 39 (.buildSlice 3 1 #[(0, (.const (.agg #[(I 0), (I 0), (I 0)]))), (3, (.global 38))]) 1,
  op 40 (.move (.tmp 0)) 1,
  op 41 (.nilCheck (.global 40)) 1,
  op 42 (.fieldAddr 4 (.global 41) 0) 1,
  op 43 (.load 0 (.global 42)) 1,
  op 44 (bi .append #[(.global 39), (.global 43)] 3) 1,
  op 45 (.nilCheck (.global 37)) 1,
  op 46 (.fieldAddr 4 (.global 45) 0) 1,
  opn (.store 1 (.global 46) (.global 44))]))))), []⟩

/-- impl.validStep -/
def fn199 : AFun := ⟨2,
(.seq (reg [op 2 (.makeChan 3 (.tmp 0)),
  op 3 (.makeChan 3 (.tmp 1)),
  op 4 (.move (.const (B false)))])
(.seq (reg [op 5 (.fieldAddr 0 (.tmp 3) 1) 1,
  op 6 (.lookup 0 (.tmp 3) (.global 5) false) 1,
  op 7 (.fieldAddr 2 (.tmp 2) 1) 1,
  op 8 (.lookup 0 (.tmp 2) (.global 7) false) 1,
  op 9 (bi .len #[(.global 8)] 1) 1,
  op 10 (call (.func 163) #[(.global 6), (.global 9)]) 1,
  op 11 (.move (.global 10)) 1,
  op 12 (.fieldAddr 1 (.tmp 3) 1) 1 (some (45, true)),
  op 13 (.lookup 0 (.tmp 3) (.global 12) false) 1 (some (45, true)),
  op 14 (call (.func 196) #[(.global 13)]) 1 (some (45, true)),
  op 15 (.pick (.global 11) (.global 14) (.const (B false))) 1,
  op 16 (.move (.global 15)) 1,
  op 17 (.fieldAddr 2 (.tmp 3) 1) 1 (some (65, true)),
  op 18 (.lookup 0 (.tmp 3) (.global 17) false) 1 (some (65, true)),
  op 19 (call (.func 196) #[(.global 18)]) 1 (some (65, true)),
  op 20 (.pick (.global 16) (.global 19) (.const (B false))) 1,
  op 21 (.move (.global 20)) 1,
  op 22 (.fieldAddr 1 (.tmp 3) 1) 1 (some (85, true)),
  op 23 (.lookup 0 (.tmp 3) (.global 22) false) 1 (some (85, true)),
  op 24 (.fieldAddr 2 (.tmp 3) 1) 1 (some (85, true)),
  op 25 (.lookup 0 (.tmp 3) (.global 24) false) 1 (some (85, true)),
  op 26 (.binOp .neq 0 (.global 23) (.global 25) 0) 1 (some (85, true)),
  op 27 (.pick (.global 21) (.global 26) (.const (B false))) 1,
  op 4 (.move (.global 27))])
.ret)), [(4, 0)]⟩

/-- slices.Clone[[]int64,int64] -/
def fn308 : AFun := ⟨1,
(.seq (reg [op 2 (.move (.const (sl 0 0 0 0)))])
(.seq (.seq (reg [op 3 (.move (.tmp 0)) 1,
  op 4 (.binOp .eql 0 (.global 3) (.const (sl 0 0 0 0)) 1)])
(.cond (.tmp 4)
  (.seq (reg [op 2 (.move (.const (sl 0 0 0 0)))])
  .ret)
  .skip))
(.seq (reg [op 5 (.move (.const (sl 0 0 0 1))) 1,
  op 6 (.move (.tmp 0)) 1,
  op 7 (bi .append #[(.global 5), (.global 6)] 1) 1,
  op 2 (.move (.global 7))])
.ret))), [(2, 0)]⟩

/-- spec.l26Step -/
def fn562 : AFun := ⟨2,
(.seq (reg [op 3 (.makeChan 3 (.tmp 1)),
  op 4 (.move (.const (B false)))])
(.seq (reg [op 5 (.fieldAddr 0 (.tmp 3) 1) 1,
  op 6 (.lookup 0 (.tmp 3) (.global 5) false) 1,
  op 7 (.move (.tmp 0)) 1,
  op 8 (.nilCheck (.global 7)) 1,
  op 9 (.fieldAddr 2 (.global 8) 0) 1,
  op 10 (.load 0 (.global 9)) 1,
  op 11 (bi .len #[(.global 10)] 1) 1,
  op 12 (.binOp .sub 0 (.global 11) (.const (I 1)) 0) 1,
  op 13 (call (.func 432) #[(.global 6), (.const (I 0)), (.global 12)]) 1,
  op 14 (.move (.global 13)) 1,
  op 15 (.fieldAddr 1 (.tmp 3) 1) 1 (some (57, true)),
  op 16 (.lookup 0 (.tmp 3) (.global 15) false) 1 (some (57, true)),
  op 17 (call (.func 449) #[(.global 16)]) 1 (some (57, true)),
  op 18 (.pick (.global 14) (.global 17) (.const (B false))) 1,
  op 19 (.move (.global 18)) 1,
  op 20 (.fieldAddr 2 (.tmp 3) 1) 1 (some (77, true)),
  op 21 (.lookup 0 (.tmp 3) (.global 20) false) 1 (some (77, true)),
  op 22 (call (.func 449) #[(.global 21)]) 1 (some (77, true)),
  op 23 (.pick (.global 19) (.global 22) (.const (B false))) 1,
  op 24 (.move (.global 23)) 1,
  op 25 (.fieldAddr 1 (.tmp 3) 1) 1 (some (97, true)),
  op 26 (.lookup 0 (.tmp 3) (.global 25) false) 1 (some (97, true)),
  op 27 (.fieldAddr 2 (.tmp 3) 1) 1 (some (97, true)),
  op 28 (.lookup 0 (.tmp 3) (.global 27) false) 1 (some (97, true)),
  op 29 (.binOp .neq 0 (.global 26) (.global 28) 0) 1 (some (97, true)),
  op 30 (.pick (.global 24) (.global 29) (.const (B false))) 1,
  op 4 (.move (.global 30))])
.ret)), [(4, 0)]⟩

/-- (impl.Panel).trace -/
def fn55 : AFun := ⟨1,
(.seq (reg [op 1 (.makeChan 3 (.tmp 0)),
  op 2 (.move (.const (sl 0 0 0 0))),
  op 3 (.move (.const (sl 0 0 0 0)))])
(.seq (reg [op 10 (.move (.const (sl 0 0 0 1))) 1,
  op 4 (.move (.global 10))])
(.seq (reg [op 11 (.lookup 4 (.tmp 1) (.tmp 1) false) 1,
  op 12 (call (.func 51) #[(.global 11)]) 1,
  op 13 (.mapUpdate 1 (.global 12) (.global 12) (.const (.agg #[(I 0)]))) 1,
  op 5 (.move (.global 13))])
(.seq (.seq (reg [op 14 (.move (.tmp 5)) 1,
  op 15 (bi .len #[(.global 14)] 1),
  op 16 (.move (.const (I 0)))])
(.block 0
  (.loop
    (.seq (reg [op 17 (.binOp .lss 0 (.tmp 16) (.tmp 15) 0)])
    (.seq (.cond (.tmp 17)
      .skip
      (.exit 0))
    (.seq (.block 1
      (.seq (reg [op 18 (.move (.tmp 16)) 1,
        op 6 (.move (.global 18))])
      (reg [op 19 (.move (.tmp 5)) 1,
        op 20 (.move (.tmp 6)) 1,
        op 21 (.indexAddr 3 (.global 19) (.global 20)) 1,
        opn (.store 1 (.global 21) (.const (I (-1))))])))
    (reg [op 22 (.binOp .add 0 (.tmp 16) (.const (I 1)) 0) 1,
      op 16 (.move (.global 22))])))))))
(.seq (.seq (reg [op 23 (.lookup 4 (.tmp 1) (.tmp 1) false) 1,
  op 24 (call (.func 51) #[(.global 23)]),
  op 25 (.move (.const (I 0)))])
(.block 2
  (.loop
    (.seq (reg [op 26 (.binOp .lss 0 (.tmp 25) (.tmp 24) 0)])
    (.seq (.cond (.tmp 26)
      .skip
      (.exit 2))
    (.seq (.block 3
      (.seq (reg [op 27 (.move (.tmp 25)) 1,
        op 7 (.move (.global 27))])
      (.seq (.seq (reg [op 28 (.move (.tmp 5)) 1,
        op 29 (.move (.tmp 7)) 1,
        op 30 (.indexAddr 3 (.global 28) (.global 29)) 1,
        op 31 (.load 0 (.global 30)) 1,
        op 32 (.binOp .geq 0 (.global 31) (.const (I 0)) 0)])
      (.cond (.tmp 32)
        (.exit 3)
        .skip))
      (.seq (reg [op 33 (.move (.const (sl 0 0 0 4))) 1,
        op 8 (.move (.global 33))])
      (.seq (.seq (reg [op 34 (.lookup 4 (.tmp 1) (.tmp 1) false) 1,
        op 35 (.move (.tmp 7)) 1,
        op 36 (call (.func 56) #[(.global 34), (.global 35)]) 1,
        op 9 (.move (.const (.agg #[(I 0), (I 0), (I 0), (I 0)]))),
        op 9 (.insert 4 (.tmp 9) (.tmp 9) (.global 36))])
      (.block 4
        (.loop
          (.seq (.seq (reg [op 37 (.move (.tmp 5)) 1,
            op 38 (.lookup 4 (.tmp 1) (.tmp 1) false) 1,
            op 39 (.lookup 5 (.tmp 9) (.tmp 9) false) 1,
            op 40 (call (.func 50) #[(.global 38), (.global 39)]) 1,
            op 41 (.indexAddr 3 (.global 37) (.global 40)) 1,
            op 42 (.load 0 (.global 41)) 1,
            op 43 (.binOp .lss 0 (.global 42) (.const (I 0)) 0)])
          (.cond (.tmp 43)
            .skip
            (.exit 4)))
          (.seq (.block 5
            (.seq (reg [op 50 (.move (.tmp 5)) 1,
              op 51 (.lookup 4 (.tmp 1) (.tmp 1) false) 1,
              op 52 (.lookup 5 (.tmp 9) (.tmp 9) false) 1,
              op 53 (call (.func 50) #[(.global 51), (.global 52)]) 1,
              op 54 (.move (.tmp 4)) 1,
              op 55 (bi .len #[(.global 54)] 1) 1,
              op 56 (.indexAddr 3 (.global 50) (.global 53)) 1,
              opn (.store 1 (.global 56) (.global 55))])
            (reg [op 57 (.move (.tmp 8)) 1,
              op 58 (.lookup 5 (.tmp 9) (.tmp 9) false) 1,
              op 59 (.buildSlice 4 1 #[(0, (.const (.agg #[(I 0), (I 0), (I 0), (I 0)]))), (4, (.global 58))]) 1,
              op 60 (bi .append #[(.global 57), (.global 59)] 4) 1,
              op 8 (.move (.global 60))])))
          (.seq (.seq (reg [op 61 (.lookup 5 (.tmp 9) (.tmp 9) false)])
          (reg [op 9 (.move (.const (.agg #[(I 0), (I 0), (I 0), (I 0)]))),
            op 9 (.insert 4 (.tmp 9) (.tmp 9) (.tmp 61))]))
          (reg [op 45 (.lookup 4 (.tmp 1) (.tmp 1) false) 1,
            op 46 (.lookup 5 (.tmp 9) (.tmp 9) false) 1,
            op 47 (call (.func 54) #[(.global 45), (.global 46)]) 1,
            op 44 (.move (.global 47)) 1,
            op 48 (.extract (.global 44) 0) 1,
            op 49 (.extract (.global 44) 1) 1,
            op 9 (.insert 4 (.tmp 9) (.tmp 9) (.global 48))])))))))
      (reg [op 62 (.move (.tmp 4)) 1,
        op 63 (.move (.tmp 8)) 1,
        op 64 (.buildSlice 1 1 #[(0, (.const (.agg #[(sl 0 0 0 0)]))), (1, (.global 63))]) 1,
        op 65 (bi .append #[(.global 62), (.global 64)] 1) 1,
        op 4 (.move (.global 65))]))))))
    (reg [op 66 (.binOp .add 0 (.tmp 25) (.const (I 1)) 0) 1,
      op 25 (.move (.global 66))])))))))
(.seq (reg [op 67 (.move (.tmp 4)) 1,
  op 68 (.move (.tmp 5)) 1,
  op 2 (.move (.global 67)),
  op 3 (.move (.global 68))])
.ret)))))), [(2, 0), (3, 0)]⟩

/-- spec.l04All -/
def fn463 : AFun := ⟨1,
(.seq (reg [op 2 (.move (.const (sl 0 0 0 0))),
  op 3 (.move (.const (sl 0 0 0 0)))])
(.seq (reg [op 12 (.move (.tmp 0)) 1,
  op 13 (.nilCheck (.global 12)) 1,
  op 14 (.fieldAddr 0 (.global 13) 0) 1,
  op 15 (.load 0 (.global 14)) 1,
  op 16 (.binOp .mul 0 (.const (I 4)) (.global 15) 0) 1,
  op 17 (.move (.tmp 0)) 1,
  op 18 (.nilCheck (.global 17)) 1,
  op 19 (.fieldAddr 1 (.global 18) 0) 1,
  op 20 (.load 0 (.global 19)) 1,
  op 21 (.binOp .mul 0 (.global 16) (.global 20) 0) 1,
  op 4 (.move (.global 21))])
(.seq (reg [op 22 (.move (.tmp 4)) 1,
  op 23 (.mapUpdate 1 (.global 22) (.global 22) (.const (.agg #[(I 0)]))) 1,
  op 5 (.move (.global 23))])
(.seq (.seq (reg [op 6 (.move (.const (I 0)))])
(.block 0
  (.loop
    (.seq (.seq (reg [op 24 (.move (.tmp 6)) 1,
      op 25 (.move (.tmp 4)) 1,
      op 26 (.binOp .lss 0 (.global 24) (.global 25) 0)])
    (.cond (.tmp 26)
      .skip
      (.exit 0)))
    (.seq (.block 1
      (reg [op 29 (.move (.tmp 5)) 1,
        op 30 (.move (.tmp 6)) 1,
        op 31 (.indexAddr 3 (.global 29) (.global 30)) 1,
        opn (.store 1 (.global 31) (.const (I (-1))))]))
    (reg [op 27 (.move (.tmp 6)) 1,
      op 28 (.binOp .add 0 (.global 27) (.const (I 1)) 0) 1,
      op 6 (.move (.global 28))]))))))
(.seq (reg [op 32 (.move (.const (sl 0 0 0 1))) 1,
  op 7 (.move (.global 32))])
(.seq (.seq (reg [op 8 (.move (.const (I 0)))])
(.block 2
  (.loop
    (.seq (.seq (reg [op 33 (.move (.tmp 8)) 1,
      op 34 (.move (.tmp 4)) 1,
      op 35 (.binOp .lss 0 (.global 33) (.global 34) 0)])
    (.cond (.tmp 35)
      .skip
      (.exit 2)))
    (.seq (.block 3
      (.seq (.seq (reg [op 38 (.move (.tmp 5)) 1,
        op 39 (.move (.tmp 8)) 1,
        op 40 (.indexAddr 3 (.global 38) (.global 39)) 1,
        op 41 (.load 0 (.global 40)) 1,
        op 42 (.binOp .geq 0 (.global 41) (.const (I 0)) 0)])
      (.cond (.tmp 42)
        (.exit 3)
        .skip))
      (.seq (reg [op 44 (.move (.tmp 0)) 1,
        op 45 (.move (.tmp 0)) 1,
        op 46 (.move (.tmp 8)) 1,
        op 47 (call (.func 462) #[(.global 45), (.global 46)]) 1,
        op 48 (call (.func 466) #[(.global 44), (.global 47)]) 1,
        op 43 (.move (.global 48)) 1,
        op 49 (.extract (.global 43) 0) 1,
        op 50 (.extract (.global 43) 1) 1,
        op 9 (.move (.global 49)),
        op 10 (.move (.global 50))])
      (.seq (.seq (reg [op 11 (.move (.const (I 0)))])
      (.block 4
        (.loop
          (.seq (.seq (reg [op 51 (.move (.tmp 11)) 1,
            op 52 (.move (.tmp 10)) 1,
            op 53 (bi .len #[(.global 52)] 1) 1,
            op 54 (.binOp .lss 0 (.global 51) (.global 53) 0)])
          (.cond (.tmp 54)
            .skip
            (.exit 4)))
          (.seq (.block 5
            (reg [op 57 (.move (.tmp 5)) 1,
              op 58 (.move (.tmp 10)) 1,
              op 59 (.move (.tmp 11)) 1,
              op 60 (.indexAddr 3 (.global 58) (.global 59)) 1,
              op 61 (.load 0 (.global 60)) 1,
              op 62 (.move (.tmp 7)) 1,
              op 63 (bi .len #[(.global 62)] 1) 1,
              op 64 (.indexAddr 3 (.global 57) (.global 61)) 1,
              opn (.store 1 (.global 64) (.global 63))]))
          (reg [op 55 (.move (.tmp 11)) 1,
            op 56 (.binOp .add 0 (.global 55) (.const (I 1)) 0) 1,
            op 11 (.move (.global 56))]))))))
      (reg [op 65 (.move (.tmp 7)) 1,
        op 66 (.move (.tmp 9)) 1,
        op 67 (.buildSlice 1 1 #[(0, (.const (.agg #[(sl 0 0 0 0)]))), (1, (.global 66))]) 1,
        op 68 (bi .append #[(.global 65), (.global 67)] 1) 1,
        op 7 (.move (.global 68))])))))
    (reg [op 36 (.move (.tmp 8)) 1,
      op 37 (.binOp .add 0 (.global 36) (.const (I 1)) 0) 1,
      op 8 (.move (.global 37))]))))))
(.seq (reg [op 69 (.move (.tmp 7)) 1,
  op 70 (.move (.tmp 5)) 1,
  op 2 (.move (.global 69)),
  op 3 (.move (.global 70))])
.ret))))))), [(2, 0), (3, 0)]⟩

/-- spec.l00Own -/
def fn435 : AFun := ⟨1,
(.seq (reg [op 2 (.move (.const (sl 0 0 0 0)))])
(.seq (reg [op 3 (.move (.const (sl 0 0 0 1))) 1,
  op 4 (.move (.tmp 0)) 1,
  op 5 (bi .append #[(.global 3), (.global 4)] 1) 1,
  op 2 (.move (.global 5))])
.ret)), [(2, 0)]⟩

/-- spec.l02Row -/
def fn455 : AFun := ⟨2,
(.seq (reg [op 4 (.move (.const (I 0)))])
(.seq (reg [op 5 (.move (.const (I 0)))])
(.seq (.seq (reg [op 6 (.move (.const (I 1)))])
(.block 0
  (.loop
    (.seq (.seq (reg [op 7 (.move (.tmp 6)) 1,
      op 8 (.move (.tmp 1)) 1,
      op 9 (.binOp .lss 0 (.global 7) (.global 8) 0)])
    (.cond (.tmp 9)
      .skip
      (.exit 0)))
    (.seq (.block 1
      (.seq (reg [op 12 (.move (.tmp 5)) 1,
        op 13 (.move (.tmp 0)) 1,
        op 14 (.nilCheck (.global 13)) 1,
        op 15 (.fieldAddr 0 (.global 14) 0) 1,
        op 16 (.load 0 (.global 15)) 1,
        op 17 (.binOp .add 0 (.global 12) (.global 16) 0) 1,
        op 5 (.move (.global 17))])
      (.seq (reg [op 18 (.move (.tmp 6)) 1,
        op 19 (.binOp .rem 0 (.global 18) (.const (I 2)) 0) 1,
        op 20 (.binOp .eql 0 (.global 19) (.const (I 1)) 0)])
      (.cond (.tmp 20)
        (reg [op 21 (.move (.tmp 5)) 1,
          op 22 (.binOp .sub 0 (.global 21) (.const (I 1)) 0) 1,
          op 5 (.move (.global 22))])
        .skip))))
    (reg [op 10 (.move (.tmp 6)) 1,
      op 11 (.binOp .add 0 (.global 10) (.const (I 1)) 0) 1,
      op 6 (.move (.global 11))]))))))
(.seq (reg [op 23 (.move (.tmp 5)) 1,
  op 4 (.move (.global 23))])
.ret)))), [(4, 0)]⟩

/-- (impl.Panel).segments -/
def fn51 : AFun := ⟨1,
(.seq (reg [op 1 (.makeChan 3 (.tmp 0)),
  op 2 (.move (.const (I 0)))])
(.seq (reg [op 3 (.fieldAddr 0 (.tmp 1) 1) 1,
  op 4 (.lookup 0 (.tmp 1) (.global 3) false) 1,
  op 5 (.binOp .mul 0 (.const (I 4)) (.global 4) 0) 1,
  op 6 (.fieldAddr 1 (.tmp 1) 1) 1,
  op 7 (.lookup 0 (.tmp 1) (.global 6) false) 1,
  op 8 (.binOp .mul 0 (.global 5) (.global 7) 0) 1,
  op 2 (.move (.global 8))])
.ret)), [(2, 0)]⟩

/-- (impl.Panel).walker -/
def fn56 : AFun := ⟨2,
(.seq (reg [op 2 (.makeChan 3 (.tmp 0)),
  op 4 (.move (.const (.agg #[(I 0), (I 0), (I 0), (I 0)])))])
(.seq (reg [op 7 (.move (.tmp 1)) 1,
  op 8 (.fieldAddr 1 (.tmp 2) 1) 1,
  op 9 (.lookup 0 (.tmp 2) (.global 8) false) 1,
  op 10 (.binOp .mul 0 (.const (I 2)) (.global 9) 0) 1,
  op 11 (.binOp .quo 0 (.global 7) (.global 10) 0) 1,
  op 12 (.move (.tmp 1)) 1,
  op 13 (.fieldAddr 1 (.tmp 2) 1) 1,
  op 14 (.lookup 0 (.tmp 2) (.global 13) false) 1,
  op 15 (.binOp .mul 0 (.const (I 2)) (.global 14) 0) 1,
  op 16 (.binOp .rem 0 (.global 12) (.global 15) 0) 1,
  op 5 (.move (.global 11)),
  op 6 (.move (.global 16))])
(.seq (.seq (reg [op 17 (.move (.tmp 5)) 1,
  op 18 (.move (.tmp 6)) 1,
  op 19 (.binOp .add 0 (.global 17) (.global 18) 0) 1,
  op 20 (.binOp .rem 0 (.global 19) (.const (I 2)) 0) 1,
  op 21 (.binOp .eql 0 (.global 20) (.const (I 1)) 0)])
(.cond (.tmp 21)
  (.seq (reg [op 22 (.move (.tmp 5)) 1,
    op 23 (.move (.tmp 6)) 1,
    op 24 (.build 0 #[(0, (.const (.agg #[(I 0), (I 0)]))), (1, (.global 22)), (1001, (.global 23))]) 1,
    op 25 (.build 0 #[(0, (.const (.agg #[(I 0), (I 0), (I 0), (I 0)]))), (2, (.global 24)), (2001, (.const (I 1))), (3001, (.const (I 1)))]) 1,
    op 4 (.insert 4 (.tmp 4) (.tmp 4) (.global 25))])
  .ret)
  .skip))
(.seq (reg [op 26 (.move (.tmp 5)) 1,
  op 27 (.move (.tmp 6)) 1,
  op 28 (.binOp .add 0 (.global 27) (.const (I 1)) 0) 1,
  op 29 (.build 0 #[(0, (.const (.agg #[(I 0), (I 0)]))), (1, (.global 26)), (1001, (.global 28))]) 1,
  op 30 (.build 0 #[(0, (.const (.agg #[(I 0), (I 0), (I 0), (I 0)]))), (2, (.global 29)), (2001, (.const (I 1))), (3001, (.const (I (-1))))]) 1,
  op 4 (.insert 4 (.tmp 4) (.tmp 4) (.global 30))])
.ret)))), [(4, 1000005)]⟩

/-- (impl.Panel).segment -/
def fn50 : AFun := ⟨2,
(.seq (reg [op 2 (.makeChan 3 (.tmp 0)),
  op 3 (.makeChan 4 (.tmp 1)),
  op 4 (.move (.const (I 0)))])
(.seq (reg [op 6 (.lookup 5 (.tmp 3) (.tmp 3) false) 1,
  op 7 (call (.func 58) #[(.global 6)]) 1,
  op 5 (.move (.const (.agg #[(I 0), (I 0)]))),
  op 5 (.insert 2 (.tmp 5) (.tmp 5) (.global 7))])
(.seq (reg [op 8 (.fieldAddr 0 (.tmp 3) 1) 1,
  op 9 (.fieldAddr 0 (.global 8) 1) 1,
  op 10 (.lookup 0 (.tmp 3) (.global 9) false) 1,
  op 11 (.fieldAddr 0 (.tmp 5) 1) 1,
  op 12 (.lookup 0 (.tmp 5) (.global 11) false) 1,
  op 13 (bi .min #[(.global 10), (.global 12)] 0) 1,
  op 14 (.binOp .mul 0 (.global 13) (.const (I 2)) 0) 1,
  op 15 (.fieldAddr 1 (.tmp 2) 1) 1,
  op 16 (.lookup 0 (.tmp 2) (.global 15) false) 1,
  op 17 (.binOp .mul 0 (.global 14) (.global 16) 0) 1,
  op 18 (.fieldAddr 0 (.tmp 3) 1) 1,
  op 19 (.fieldAddr 1 (.global 18) 1) 1,
  op 20 (.lookup 0 (.tmp 3) (.global 19) false) 1,
  op 21 (.fieldAddr 1 (.tmp 5) 1) 1,
  op 22 (.lookup 0 (.tmp 5) (.global 21) false) 1,
  op 23 (bi .min #[(.global 20), (.global 22)] 0) 1,
  op 24 (.binOp .add 0 (.global 17) (.global 23) 0) 1,
  op 4 (.move (.global 24))])
.ret))), [(4, 0)]⟩

/-- (impl.Panel).step -/
def fn54 : AFun := ⟨2,
(.seq (reg [op 2 (.makeChan 3 (.tmp 0)),
  op 3 (.makeChan 4 (.tmp 1)),
  op 4 (.move (.const (.agg #[(I 0), (I 0), (I 0), (I 0)]))),
  op 5 (.move (.const (B false)))])
(.seq (reg [op 9 (.lookup 5 (.tmp 3) (.tmp 3) false) 1,
  op 10 (call (.func 58) #[(.global 9)]) 1,
  op 6 (.move (.const (.agg #[(I 0), (I 0)]))),
  op 6 (.insert 2 (.tmp 6) (.tmp 6) (.global 10))])
(.seq (reg [op 11 (.lookup 3 (.tmp 6) (.tmp 6) false) 1,
  op 12 (.fieldAddr 2 (.tmp 3) 1) 1,
  op 13 (.lookup 0 (.tmp 3) (.global 12) false) 1,
  op 14 (.fieldAddr 3 (.tmp 3) 1) 1,
  op 15 (.lookup 0 (.tmp 3) (.global 14) false) 1,
  op 16 (.build 0 #[(0, (.const (.agg #[(I 0), (I 0), (I 0), (I 0)]))), (2, (.global 11)), (2001, (.global 13)), (3001, (.global 15))]) 1,
  op 7 (.move (.const (.agg #[(I 0), (I 0), (I 0), (I 0)]))),
  op 7 (.insert 4 (.tmp 7) (.tmp 7) (.global 16))])
(.seq (reg [op 8 (.move (.const (I 0)))])
(.seq (.seq (reg [op 17 (.lookup 4 (.tmp 2) (.tmp 2) false) 1,
  op 18 (.lookup 3 (.tmp 6) (.tmp 6) false) 1,
  op 19 (call (.func 34) #[(.global 17), (.global 18)]) 1,
  op 20 (.unOp .not 0 (.global 19))])
(.cond (.tmp 20)
  (reg [op 21 (.fieldAddr 2 (.tmp 2) 1) 1,
    op 22 (.lookup 0 (.tmp 2) (.global 21) false) 1,
    op 23 (.lookup 4 (.tmp 2) (.tmp 2) false) 1,
    op 24 (.lookup 3 (.tmp 6) (.tmp 6) false) 1,
    op 25 (call (.func 40) #[(.global 23), (.global 24)]) 1,
    op 26 (.indexAddr 3 (.global 22) (.global 25)) 1,
    op 27 (.load 0 (.global 26)) 1,
    op 8 (.move (.global 27))])
  .skip))
(.seq (.seq (reg [op 28 (.fieldAddr 0 (.tmp 6) 1) 1,
  op 29 (.lookup 0 (.tmp 6) (.global 28) false) 1,
  op 30 (.binOp .eql 0 (.global 29) (.const (I 0)) 0) 1,
  op 31 (.move (.global 30)) 1,
  op 32 (.fieldAddr 0 (.tmp 6) 1) 1 (some (125, false)),
  op 33 (.lookup 0 (.tmp 6) (.global 32) false) 1 (some (125, false)),
  op 34 (.fieldAddr 0 (.tmp 2) 1) 1 (some (125, false)),
  op 35 (.lookup 0 (.tmp 2) (.global 34) false) 1 (some (125, false)),
  op 36 (.binOp .mul 0 (.const (I 2)) (.global 35) 0) 1 (some (125, false)),
  op 37 (.binOp .eql 0 (.global 33) (.global 36) 0) 1 (some (125, false)),
  op 38 (.pick (.global 31) (.const (B true)) (.global 37)) 1,
  op 39 (.move (.global 38)) 1,
  op 40 (.move (.tmp 8)) 1 (some (157, false)),
  op 41 (.binOp .eql 0 (.global 40) (.const (I 1)) 0) 1 (some (157, false)),
  op 42 (.pick (.global 39) (.const (B true)) (.global 41))])
(.cond (.tmp 42)
  (reg [op 43 (.fieldAddr 2 (.tmp 7) 1) 1,
    op 44 (.lookup 0 (.tmp 7) (.global 43) false) 1,
    op 45 (.unOp .neg 0 (.global 44)) 1,
    op 46 (.fieldAddr 2 (.tmp 7) 1) 1,
    op 7 (.insert 1 (.tmp 7) (.global 46) (.global 45))])
  .skip))
(.seq (.seq (reg [op 47 (.fieldAddr 1 (.tmp 6) 1) 1,
  op 48 (.lookup 0 (.tmp 6) (.global 47) false) 1,
  op 49 (.binOp .eql 0 (.global 48) (.const (I 0)) 0) 1,
  op 50 (.move (.global 49)) 1,
  op 51 (.fieldAddr 1 (.tmp 6) 1) 1 (some (201, false)),
  op 52 (.lookup 0 (.tmp 6) (.global 51) false) 1 (some (201, false)),
  op 53 (.fieldAddr 1 (.tmp 2) 1) 1 (some (201, false)),
  op 54 (.lookup 0 (.tmp 2) (.global 53) false) 1 (some (201, false)),
  op 55 (.binOp .mul 0 (.const (I 2)) (.global 54) 0) 1 (some (201, false)),
  op 56 (.binOp .eql 0 (.global 52) (.global 55) 0) 1 (some (201, false)),
  op 57 (.pick (.global 50) (.const (B true)) (.global 56)) 1,
  op 58 (.move (.global 57)) 1,
  op 59 (.move (.tmp 8)) 1 (some (233, false)),
  op 60 (.binOp .eql 0 (.global 59) (.const (I 2)) 0) 1 (some (233, false)),
  op 61 (.pick (.global 58) (.const (B true)) (.global 60))])
(.cond (.tmp 61)
  (reg [op 62 (.fieldAddr 3 (.tmp 7) 1) 1,
    op 63 (.lookup 0 (.tmp 7) (.global 62) false) 1,
    op 64 (.unOp .neg 0 (.global 63)) 1,
    op 65 (.fieldAddr 3 (.tmp 7) 1) 1,
    op 7 (.insert 1 (.tmp 7) (.global 65) (.global 64))])
  .skip))
(.seq (reg [op 66 (.lookup 5 (.tmp 7) (.tmp 7) false) 1,
  op 67 (.fieldAddr 2 (.tmp 7) 1) 1,
  op 68 (.lookup 0 (.tmp 7) (.global 67) false) 1,
  op 69 (.fieldAddr 2 (.tmp 3) 1) 1,
  op 70 (.lookup 0 (.tmp 3) (.global 69) false) 1,
  op 71 (.binOp .neq 0 (.global 68) (.global 70) 0) 1,
  op 72 (.move (.global 71)) 1,
  op 73 (.fieldAddr 3 (.tmp 7) 1) 1 (some (289, false)),
  op 74 (.lookup 0 (.tmp 7) (.global 73) false) 1 (some (289, false)),
  op 75 (.fieldAddr 3 (.tmp 3) 1) 1 (some (289, false)),
  op 76 (.lookup 0 (.tmp 3) (.global 75) false) 1 (some (289, false)),
  op 77 (.binOp .neq 0 (.global 74) (.global 76) 0) 1 (some (289, false)),
  op 78 (.pick (.global 72) (.const (B true)) (.global 77)) 1,
  op 4 (.insert 4 (.tmp 4) (.tmp 4) (.global 66)),
  op 5 (.move (.global 78))])
.ret)))))))), [(4, 1000005), (5, 0)]⟩

/-- spec.l04Trace -/
def fn466 : AFun := ⟨2,
(.seq (reg [op 3 (.makeChan 4 (.tmp 1)),
  op 4 (.move (.const (sl 0 0 0 0))),
  op 5 (.move (.const (sl 0 0 0 0)))])
(.seq (reg [op 9 (.move (.const (sl 0 0 0 2))) 1,
  op 6 (.move (.global 9))])
(.seq (reg [op 10 (.move (.const (sl 0 0 0 1))) 1,
  op 7 (.move (.global 10))])
(.seq (.seq (reg [op 11 (.lookup 5 (.tmp 3) (.tmp 3) false) 1,
  op 8 (.move (.const (.agg #[(I 0), (I 0), (I 0), (I 0)]))),
  op 8 (.insert 4 (.tmp 8) (.tmp 8) (.global 11))])
(.block 0
  (.loop
    (.seq (.seq (reg [op 12 (.move (.tmp 6)) 1,
      op 13 (bi .len #[(.global 12)] 1) 1,
      op 14 (.binOp .eql 0 (.global 13) (.const (I 0)) 0) 1,
      op 15 (.move (.global 14)) 1,
      op 16 (.lookup 5 (.tmp 8) (.tmp 8) false) 1 (some (61, false)),
      op 17 (.lookup 5 (.tmp 3) (.tmp 3) false) 1 (some (61, false)),
      op 18 (.binOp .neq 6 (.global 16) (.global 17) 0) 1 (some (61, false)),
      op 19 (.pick (.global 15) (.const (B true)) (.global 18))])
    (.cond (.tmp 19)
      .skip
      (.exit 0)))
    (.seq (.block 1
      (.seq (reg [op 23 (.move (.tmp 6)) 1,
        op 24 (.fieldAddr 0 (.tmp 8) 1) 1,
        op 25 (.lookup 3 (.tmp 8) (.global 24) false) 1,
        op 26 (.buildSlice 2 1 #[(0, (.const (.agg #[(I 0), (I 0)]))), (2, (.global 25))]) 1,
        op 27 (bi .append #[(.global 23), (.global 26)] 2) 1,
        op 6 (.move (.global 27))])
      (reg [op 28 (.move (.tmp 7)) 1,
        op 29 (.move (.tmp 0)) 1,
        op 30 (.lookup 5 (.tmp 8) (.tmp 8) false) 1,
        op 31 (call (.func 460) #[(.global 29), (.global 30)]) 1,
        op 32 (.buildSlice 1 1 #[(0, (.const (.agg #[(I 0)]))), (1, (.global 31))]) 1,
        op 33 (bi .append #[(.global 28), (.global 32)] 1) 1,
        op 7 (.move (.global 33))])))
    (.seq (.seq (reg [op 34 (.lookup 5 (.tmp 8) (.tmp 8) false)])
    (reg [op 8 (.move (.const (.agg #[(I 0), (I 0), (I 0), (I 0)]))),
      op 8 (.insert 4 (.tmp 8) (.tmp 8) (.tmp 34))]))
    (reg [op 20 (.move (.tmp 0)) 1,
      op 21 (.lookup 5 (.tmp 8) (.tmp 8) false) 1,
      op 22 (call (.func 461) #[(.global 20), (.global 21)]) 1,
      op 8 (.insert 4 (.tmp 8) (.tmp 8) (.global 22))])))))))
(.seq (reg [op 35 (.move (.tmp 6)) 1,
  op 36 (.move (.tmp 7)) 1,
  op 4 (.move (.global 35)),
  op 5 (.move (.global 36))])
.ret))))), [(4, 0), (5, 0)]⟩

/-- spec.l03Walker -/
def fn462 : AFun := ⟨2,
(.seq (reg [op 4 (.move (.const (.agg #[(I 0), (I 0), (I 0), (I 0)])))])
(.seq (reg [op 8 (.move (.tmp 1)) 1,
  op 9 (.move (.tmp 0)) 1,
  op 10 (.nilCheck (.global 9)) 1,
  op 11 (.fieldAddr 1 (.global 10) 0) 1,
  op 12 (.load 0 (.global 11)) 1,
  op 13 (.binOp .mul 0 (.const (I 2)) (.global 12) 0) 1,
  op 14 (.binOp .quo 0 (.global 8) (.global 13) 0) 1,
  op 5 (.move (.global 14))])
(.seq (reg [op 15 (.move (.tmp 1)) 1,
  op 16 (.move (.tmp 0)) 1,
  op 17 (.nilCheck (.global 16)) 1,
  op 18 (.fieldAddr 1 (.global 17) 0) 1,
  op 19 (.load 0 (.global 18)) 1,
  op 20 (.binOp .mul 0 (.const (I 2)) (.global 19) 0) 1,
  op 21 (.binOp .rem 0 (.global 15) (.global 20) 0) 1,
  op 6 (.move (.global 21))])
(.seq (.seq (reg [op 22 (.move (.tmp 5)) 1,
  op 23 (.binOp .rem 0 (.global 22) (.const (I 2)) 0) 1,
  op 24 (.binOp .eql 0 (.global 23) (.const (I 0)) 0)])
(.cond (.tmp 24)
  (.seq (reg [op 25 (.move (.tmp 5)) 1,
    op 26 (.move (.tmp 6)) 1,
    op 27 (.binOp .quo 0 (.global 26) (.const (I 2)) 0) 1,
    op 28 (.binOp .mul 0 (.global 27) (.const (I 2)) 0) 1,
    op 29 (.binOp .add 0 (.global 28) (.const (I 1)) 0) 1,
    op 30 (.build 0 #[(0, (.const (.agg #[(I 0), (I 0)]))), (1, (.global 25)), (1001, (.global 29))]) 1,
    op 31 (.move (.tmp 6)) 1,
    op 32 (.binOp .rem 0 (.global 31) (.const (I 2)) 0) 1,
    op 33 (.binOp .mul 0 (.const (I 2)) (.global 32) 0) 1,
    op 34 (.binOp .sub 0 (.global 33) (.const (I 1)) 0) 1,
    op 35 (.build 0 #[(0, (.const (.agg #[(I 0), (I 0), (I 0), (I 0)]))), (2, (.global 30)), (2001, (.const (I 1))), (3001, (.global 34))]) 1,
    op 4 (.insert 4 (.tmp 4) (.tmp 4) (.global 35))])
  .ret)
  .skip))
(.seq (reg [op 36 (.move (.tmp 5)) 1,
  op 37 (.move (.tmp 6)) 1,
  op 38 (.binOp .add 0 (.global 37) (.const (I 1)) 0) 1,
  op 39 (.binOp .quo 0 (.global 38) (.const (I 2)) 0) 1,
  op 40 (.binOp .mul 0 (.global 39) (.const (I 2)) 0) 1,
  op 41 (.build 0 #[(0, (.const (.agg #[(I 0), (I 0)]))), (1, (.global 36)), (1001, (.global 40))]) 1,
  op 42 (.build 0 #[(0, (.const (.agg #[(I 0), (I 0), (I 0), (I 0)]))), (2, (.global 41)), (2001, (.const (I 1))), (3001, (.const (I 1)))]) 1,
  op 7 (.move (.const (.agg #[(I 0), (I 0), (I 0), (I 0)]))),
  op 7 (.insert 4 (.tmp 7) (.tmp 7) (.global 42))])
(.seq (.seq (reg [op 43 (.move (.tmp 6)) 1,
  op 44 (.binOp .rem 0 (.global 43) (.const (I 2)) 0) 1,
  op 45 (.binOp .eql 0 (.global 44) (.const (I 1)) 0)])
(.cond (.tmp 45)
  (reg [op 46 (.fieldAddr 3 (.tmp 7) 1) 1,
    op 7 (.insert 1 (.tmp 7) (.global 46) (.const (I (-1))))])
  .skip))
(.seq (reg [op 47 (.lookup 5 (.tmp 7) (.tmp 7) false) 1,
  op 4 (.insert 4 (.tmp 4) (.tmp 4) (.global 47))])
.ret))))))), [(4, 1000005)]⟩

/-- (impl.Walker).next -/
def fn58 : AFun := ⟨1,
(.seq (reg [op 1 (.makeChan 4 (.tmp 0)),
  op 2 (.move (.const (.agg #[(I 0), (I 0)])))])
(.seq (reg [op 3 (.fieldAddr 0 (.tmp 1) 1) 1,
  op 4 (.fieldAddr 0 (.global 3) 1) 1,
  op 5 (.lookup 0 (.tmp 1) (.global 4) false) 1,
  op 6 (.fieldAddr 2 (.tmp 1) 1) 1,
  op 7 (.lookup 0 (.tmp 1) (.global 6) false) 1,
  op 8 (.binOp .add 0 (.global 5) (.global 7) 0) 1,
  op 9 (.fieldAddr 0 (.tmp 1) 1) 1,
  op 10 (.fieldAddr 1 (.global 9) 1) 1,
  op 11 (.lookup 0 (.tmp 1) (.global 10) false) 1,
  op 12 (.fieldAddr 3 (.tmp 1) 1) 1,
  op 13 (.lookup 0 (.tmp 1) (.global 12) false) 1,
  op 14 (.binOp .add 0 (.global 11) (.global 13) 0) 1,
  op 15 (.build 0 #[(0, (.const (.agg #[(I 0), (I 0)]))), (1, (.global 8)), (1001, (.global 14))]) 1,
  op 2 (.insert 2 (.tmp 2) (.tmp 2) (.global 15))])
.ret)), [(2, 1000003)]⟩

/-- (impl.Panel).isBorder -/
def fn34 : AFun := ⟨2,
(.seq (reg [op 2 (.makeChan 3 (.tmp 0)),
  op 3 (.makeChan 2 (.tmp 1)),
  op 4 (.move (.const (B false)))])
(.seq (reg [op 5 (.fieldAddr 0 (.tmp 3) 1) 1,
  op 6 (.lookup 0 (.tmp 3) (.global 5) false) 1,
  op 7 (.binOp .eql 0 (.global 6) (.const (I 0)) 0) 1,
  op 8 (.move (.global 7)) 1,
  op 9 (.fieldAddr 0 (.tmp 3) 1) 1 (some (33, false)),
  op 10 (.lookup 0 (.tmp 3) (.global 9) false) 1 (some (33, false)),
  op 11 (.fieldAddr 0 (.tmp 2) 1) 1 (some (33, false)),
  op 12 (.lookup 0 (.tmp 2) (.global 11) false) 1 (some (33, false)),
  op 13 (.binOp .mul 0 (.const (I 2)) (.global 12) 0) 1 (some (33, false)),
  op 14 (.binOp .eql 0 (.global 10) (.global 13) 0) 1 (some (33, false)),
  op 15 (.pick (.global 8) (.const (B true)) (.global 14)) 1,
  op 16 (.move (.global 15)) 1,
  op 17 (.fieldAddr 1 (.tmp 3) 1) 1 (some (65, false)),
  op 18 (.lookup 0 (.tmp 3) (.global 17) false) 1 (some (65, false)),
  op 19 (.binOp .eql 0 (.global 18) (.const (I 0)) 0) 1 (some (65, false)),
  op 20 (.pick (.global 16) (.const (B true)) (.global 19)) 1,
  op 21 (.move (.global 20)) 1,
  op 22 (.fieldAddr 1 (.tmp 3) 1) 1 (some (85, false)),
  op 23 (.lookup 0 (.tmp 3) (.global 22) false) 1 (some (85, false)),
  op 24 (.fieldAddr 1 (.tmp 2) 1) 1 (some (85, false)),
  op 25 (.lookup 0 (.tmp 2) (.global 24) false) 1 (some (85, false)),
  op 26 (.binOp .mul 0 (.const (I 2)) (.global 25) 0) 1 (some (85, false)),
  op 27 (.binOp .eql 0 (.global 23) (.global 26) 0) 1 (some (85, false)),
  op 28 (.pick (.global 21) (.const (B true)) (.global 27)) 1,
  op 4 (.move (.global 28))])
.ret)), [(4, 0)]⟩

/-- spec.l03Step -/
def fn461 : AFun := ⟨2,
(.seq (reg [op 3 (.makeChan 4 (.tmp 1)),
  op 4 (.move (.const (.agg #[(I 0), (I 0), (I 0), (I 0)])))])
(.seq (reg [op 7 (.lookup 5 (.tmp 3) (.tmp 3) false) 1,
  op 8 (call (.func 459) #[(.global 7)]) 1,
  op 5 (.move (.const (.agg #[(I 0), (I 0)]))),
  op 5 (.insert 2 (.tmp 5) (.tmp 5) (.global 8))])
(.seq (reg [op 9 (.lookup 3 (.tmp 5) (.tmp 5) false) 1,
  op 10 (.fieldAddr 2 (.tmp 3) 1) 1,
  op 11 (.lookup 0 (.tmp 3) (.global 10) false) 1,
  op 12 (.fieldAddr 3 (.tmp 3) 1) 1,
  op 13 (.lookup 0 (.tmp 3) (.global 12) false) 1,
  op 14 (.build 0 #[(0, (.const (.agg #[(I 0), (I 0), (I 0), (I 0)]))), (2, (.global 9)), (2001, (.global 11)), (3001, (.global 13))]) 1,
  op 6 (.move (.const (.agg #[(I 0), (I 0), (I 0), (I 0)]))),
  op 6 (.insert 4 (.tmp 6) (.tmp 6) (.global 14))])
(.seq (.seq (reg [op 15 (.fieldAddr 0 (.tmp 5) 1) 1,
  op 16 (.lookup 0 (.tmp 5) (.global 15) false) 1,
  op 17 (.binOp .eql 0 (.global 16) (.const (I 0)) 0) 1,
  op 18 (.move (.global 17)) 1,
  op 19 (.fieldAddr 0 (.tmp 5) 1) 1 (some (73, false)),
  op 20 (.lookup 0 (.tmp 5) (.global 19) false) 1 (some (73, false)),
  op 21 (.move (.tmp 0)) 1 (some (73, false)),
  op 22 (.nilCheck (.global 21)) 1 (some (73, false)),
  op 23 (.fieldAddr 0 (.global 22) 0) 1 (some (73, false)),
  op 24 (.load 0 (.global 23)) 1 (some (73, false)),
  op 25 (.binOp .mul 0 (.const (I 2)) (.global 24) 0) 1 (some (73, false)),
  op 26 (.binOp .eql 0 (.global 20) (.global 25) 0) 1 (some (73, false)),
  op 27 (.pick (.global 18) (.const (B true)) (.global 26))])
(.cond (.tmp 27)
  (reg [op 28 (.fieldAddr 2 (.tmp 6) 1) 1,
    op 29 (.lookup 0 (.tmp 6) (.global 28) false) 1,
    op 30 (.unOp .neg 0 (.global 29)) 1,
    op 31 (.fieldAddr 2 (.tmp 6) 1) 1,
    op 6 (.insert 1 (.tmp 6) (.global 31) (.global 30))])
  .skip))
(.seq (.seq (reg [op 32 (.fieldAddr 1 (.tmp 5) 1) 1,
  op 33 (.lookup 0 (.tmp 5) (.global 32) false) 1,
  op 34 (.binOp .eql 0 (.global 33) (.const (I 0)) 0) 1,
  op 35 (.move (.global 34)) 1,
  op 36 (.fieldAddr 1 (.tmp 5) 1) 1 (some (141, false)),
  op 37 (.lookup 0 (.tmp 5) (.global 36) false) 1 (some (141, false)),
  op 38 (.move (.tmp 0)) 1 (some (141, false)),
  op 39 (.nilCheck (.global 38)) 1 (some (141, false)),
  op 40 (.fieldAddr 1 (.global 39) 0) 1 (some (141, false)),
  op 41 (.load 0 (.global 40)) 1 (some (141, false)),
  op 42 (.binOp .mul 0 (.const (I 2)) (.global 41) 0) 1 (some (141, false)),
  op 43 (.binOp .eql 0 (.global 37) (.global 42) 0) 1 (some (141, false)),
  op 44 (.pick (.global 35) (.const (B true)) (.global 43))])
(.cond (.tmp 44)
  (reg [op 45 (.fieldAddr 3 (.tmp 6) 1) 1,
    op 46 (.lookup 0 (.tmp 6) (.global 45) false) 1,
    op 47 (.unOp .neg 0 (.global 46)) 1,
    op 48 (.fieldAddr 3 (.tmp 6) 1) 1,
    op 6 (.insert 1 (.tmp 6) (.global 48) (.global 47))])
  .skip))
(.seq (.seq (reg [op 49 (.move (.tmp 0)) 1,
  op 50 (.lookup 3 (.tmp 5) (.tmp 5) false) 1,
  op 51 (call (.func 446) #[(.global 49), (.global 50)]) 1,
  op 52 (.unOp .not 0 (.global 51))])
(.cond (.tmp 52)
  (.seq (reg [op 53 (.move (.tmp 0)) 1,
    op 54 (.nilCheck (.global 53)) 1,
    op 55 (.fieldAddr 2 (.global 54) 0) 1,
    op 56 (.load 0 (.global 55)) 1,
    op 57 (.move (.tmp 0)) 1,
    op 58 (.lookup 3 (.tmp 5) (.tmp 5) false) 1,
    op 59 (call (.func 451) #[(.global 57), (.global 58)]) 3,
    op 60 (.indexAddr 3 (.global 56) (.global 59)) 1,
    op 61 (.load 0 (.global 60))])
  (.block 0
    (.seq (reg [op 63 (.binOp .eql 0 (.tmp 61) (.const (I 1)) 0) 1,
      op 62 (.move (.global 63))])
    (.cond (.tmp 62)
      (reg [op 64 (.fieldAddr 2 (.tmp 6) 1) 1,
        op 65 (.lookup 0 (.tmp 6) (.global 64) false) 1,
        op 66 (.unOp .neg 0 (.global 65)) 1,
        op 67 (.fieldAddr 2 (.tmp 6) 1) 1,
        op 6 (.insert 1 (.tmp 6) (.global 67) (.global 66))])
      (.seq (reg [op 69 (.binOp .eql 0 (.tmp 61) (.const (I 2)) 0) 1,
        op 68 (.move (.global 69))])
      (.cond (.tmp 68)
        (reg [op 70 (.fieldAddr 3 (.tmp 6) 1) 1,
          op 71 (.lookup 0 (.tmp 6) (.global 70) false) 1,
          op 72 (.unOp .neg 0 (.global 71)) 1,
          op 73 (.fieldAddr 3 (.tmp 6) 1) 1,
          op 6 (.insert 1 (.tmp 6) (.global 73) (.global 72))])
        .skip))))))
  .skip))
(.seq (reg [op 74 (.lookup 5 (.tmp 6) (.tmp 6) false) 1,
  op 4 (.insert 4 (.tmp 4) (.tmp 4) (.global 74))])
.ret))))))), [(4, 1000005)]⟩

/-- spec.l03Segment -/
def fn460 : AFun := ⟨2,
(.seq (reg [op 3 (.makeChan 4 (.tmp 1)),
  op 4 (.move (.const (I 0)))])
(.seq (reg [op 9 (.lookup 5 (.tmp 3) (.tmp 3) false) 1,
  op 10 (call (.func 458) #[(.global 9)]) 1,
  op 8 (.move (.global 10)) 1,
  op 11 (.extract (.global 8) 0) 1,
  op 12 (.extract (.global 8) 1) 1,
  op 5 (.move (.const (.agg #[(I 0), (I 0)]))),
  op 5 (.insert 2 (.tmp 5) (.tmp 5) (.global 11)),
  op 6 (.move (.global 12))])
(.seq (reg [op 13 (.fieldAddr 0 (.tmp 5) 1) 1,
  op 14 (.lookup 0 (.tmp 5) (.global 13) false) 1,
  op 15 (.binOp .mul 0 (.global 14) (.const (I 2)) 0) 1,
  op 16 (.move (.tmp 0)) 1,
  op 17 (.nilCheck (.global 16)) 1,
  op 18 (.fieldAddr 1 (.global 17) 0) 1,
  op 19 (.load 0 (.global 18)) 1,
  op 20 (.binOp .mul 0 (.global 15) (.global 19) 0) 1,
  op 21 (.fieldAddr 1 (.tmp 5) 1) 1,
  op 22 (.lookup 0 (.tmp 5) (.global 21) false) 1,
  op 23 (.binOp .add 0 (.global 20) (.global 22) 0) 1,
  op 24 (.binOp .sub 0 (.global 23) (.const (I 1)) 0) 1,
  op 7 (.move (.global 24))])
(.seq (.seq (reg [op 25 (.move (.tmp 6)) 1,
  op 26 (.fieldAddr 1 (.tmp 5) 1) 1,
  op 27 (.lookup 0 (.tmp 5) (.global 26) false) 1,
  op 28 (.binOp .gtr 0 (.global 25) (.global 27) 0)])
(.cond (.tmp 28)
  (reg [op 29 (.move (.tmp 7)) 1,
    op 30 (.binOp .add 0 (.global 29) (.const (I 1)) 0) 1,
    op 7 (.move (.global 30))])
  .skip))
(.seq (reg [op 31 (.move (.tmp 7)) 1,
  op 4 (.move (.global 31))])
.ret))))), [(4, 0)]⟩

/-- spec.l03Next -/
def fn459 : AFun := ⟨1,
(.seq (reg [op 1 (.makeChan 4 (.tmp 0)),
  op 2 (.move (.const (.agg #[(I 0), (I 0)])))])
(.seq (reg [op 3 (.fieldAddr 0 (.tmp 1) 1) 1,
  op 4 (.fieldAddr 0 (.global 3) 1) 1,
  op 5 (.lookup 0 (.tmp 1) (.global 4) false) 1,
  op 6 (.fieldAddr 2 (.tmp 1) 1) 1,
  op 7 (.lookup 0 (.tmp 1) (.global 6) false) 1,
  op 8 (.binOp .add 0 (.global 5) (.global 7) 0) 1,
  op 9 (.fieldAddr 0 (.tmp 1) 1) 1,
  op 10 (.fieldAddr 1 (.global 9) 1) 1,
  op 11 (.lookup 0 (.tmp 1) (.global 10) false) 1,
  op 12 (.fieldAddr 3 (.tmp 1) 1) 1,
  op 13 (.lookup 0 (.tmp 1) (.global 12) false) 1,
  op 14 (.binOp .add 0 (.global 11) (.global 13) 0) 1,
  op 15 (.build 0 #[(0, (.const (.agg #[(I 0), (I 0)]))), (1, (.global 8)), (1001, (.global 14))]) 1,
  op 2 (.insert 2 (.tmp 2) (.tmp 2) (.global 15))])
.ret)), [(2, 1000003)]⟩

/-- spec.l02Edge -/
def fn446 : AFun := ⟨2,
(.seq (reg [op 3 (.makeChan 2 (.tmp 1)),
  op 4 (.move (.const (B false)))])
(.seq (reg [op 5 (.fieldAddr 0 (.tmp 3) 1) 1,
  op 6 (.lookup 0 (.tmp 3) (.global 5) false) 1,
  op 7 (.binOp .eql 0 (.global 6) (.const (I 0)) 0) 1,
  op 8 (.move (.global 7)) 1,
  op 9 (.fieldAddr 1 (.tmp 3) 1) 1 (some (33, false)),
  op 10 (.lookup 0 (.tmp 3) (.global 9) false) 1 (some (33, false)),
  op 11 (.binOp .eql 0 (.global 10) (.const (I 0)) 0) 1 (some (33, false)),
  op 12 (.pick (.global 8) (.const (B true)) (.global 11)) 1,
  op 13 (.move (.global 12)) 1,
  op 14 (.fieldAddr 0 (.tmp 3) 1) 1 (some (53, false)),
  op 15 (.lookup 0 (.tmp 3) (.global 14) false) 1 (some (53, false)),
  op 16 (.move (.tmp 0)) 1 (some (53, false)),
  op 17 (.nilCheck (.global 16)) 1 (some (53, false)),
  op 18 (.fieldAddr 0 (.global 17) 0) 1 (some (53, false)),
  op 19 (.load 0 (.global 18)) 1 (some (53, false)),
  op 20 (.binOp .mul 0 (.const (I 2)) (.global 19) 0) 1 (some (53, false)),
  op 21 (.binOp .eql 0 (.global 15) (.global 20) 0) 1 (some (53, false)),
  op 22 (.pick (.global 13) (.const (B true)) (.global 21)) 1,
  op 23 (.move (.global 22)) 1,
  op 24 (.fieldAddr 1 (.tmp 3) 1) 1 (some (93, false)),
  op 25 (.lookup 0 (.tmp 3) (.global 24) false) 1 (some (93, false)),
  op 26 (.move (.tmp 0)) 1 (some (93, false)),
  op 27 (.nilCheck (.global 26)) 1 (some (93, false)),
  op 28 (.fieldAddr 1 (.global 27) 0) 1 (some (93, false)),
  op 29 (.load 0 (.global 28)) 1 (some (93, false)),
  op 30 (.binOp .mul 0 (.const (I 2)) (.global 29) 0) 1 (some (93, false)),
  op 31 (.binOp .eql 0 (.global 25) (.global 30) 0) 1 (some (93, false)),
  op 32 (.pick (.global 23) (.const (B true)) (.global 31)) 1,
  op 4 (.move (.global 32))])
.ret)), [(4, 0)]⟩

/-- spec.l03Left -/
def fn458 : AFun := ⟨1,
(.seq (reg [op 1 (.makeChan 4 (.tmp 0)),
  op 2 (.move (.const (.agg #[(I 0), (I 0)]))),
  op 3 (.move (.const (I 0)))])
(.seq (reg [op 5 (.lookup 5 (.tmp 1) (.tmp 1) false) 1,
  op 6 (call (.func 459) #[(.global 5)]) 1,
  op 4 (.move (.const (.agg #[(I 0), (I 0)]))),
  op 4 (.insert 2 (.tmp 4) (.tmp 4) (.global 6))])
(.seq (.seq (reg [op 7 (.fieldAddr 2 (.tmp 1) 1) 1,
  op 8 (.lookup 0 (.tmp 1) (.global 7) false) 1,
  op 9 (.binOp .eql 0 (.global 8) (.const (I 1)) 0)])
(.cond (.tmp 9)
  (.seq (reg [op 10 (.fieldAddr 0 (.tmp 1) 1) 1,
    op 11 (.lookup 3 (.tmp 1) (.global 10) false) 1,
    op 12 (.fieldAddr 1 (.tmp 4) 1) 1,
    op 13 (.lookup 0 (.tmp 4) (.global 12) false) 1,
    op 2 (.insert 2 (.tmp 2) (.tmp 2) (.global 11)),
    op 3 (.move (.global 13))])
  .ret)
  .skip))
(.seq (reg [op 14 (.lookup 3 (.tmp 4) (.tmp 4) false) 1,
  op 15 (.fieldAddr 0 (.tmp 1) 1) 1,
  op 16 (.fieldAddr 1 (.global 15) 1) 1,
  op 17 (.lookup 0 (.tmp 1) (.global 16) false) 1,
  op 2 (.insert 2 (.tmp 2) (.tmp 2) (.global 14)),
  op 3 (.move (.global 17))])
.ret)))), [(2, 1000003), (3, 0)]⟩

def tab : Tab := [(256, fn256), (420, fn420), (258, fn258), (327, fn327), (131, fn131), (427, fn427), (423, fn423), (74, fn74), (340, fn340), (431, fn431), (140, fn140), (452, fn452), (198, fn198), (7, fn7), (457, fn457), (6, fn6), (456, fn456), (557, fn557), (138, fn138), (150, fn150), (22, fn22), (558, fn558), (561, fn561), (154, fn154), (465, fn465), (163, fn163), (196, fn196), (164, fn164), (453, fn453), (432, fn432), (449, fn449), (445, fn445), (40, fn40), (450, fn450), (451, fn451), (433, fn433), (166, fn166), (448, fn448), (5, fn5), (436, fn436), (556, fn556), (564, fn564), (199, fn199), (308, fn308), (562, fn562), (55, fn55), (463, fn463), (435, fn435), (455, fn455), (51, fn51), (56, fn56), (50, fn50), (54, fn54), (466, fn466), (462, fn462), (58, fn58), (34, fn34), (461, fn461), (460, fn460), (459, fn459), (446, fn446), (458, fn458)]
def Gam : Nat → Option AFun := look tab
theorem g256 : Gam 256 = some fn256 := rfl
theorem g420 : Gam 420 = some fn420 := rfl
theorem g258 : Gam 258 = some fn258 := rfl
theorem g327 : Gam 327 = some fn327 := rfl
theorem g131 : Gam 131 = some fn131 := rfl
theorem g427 : Gam 427 = some fn427 := rfl
theorem g423 : Gam 423 = some fn423 := rfl
theorem g74 : Gam 74 = some fn74 := rfl
theorem g340 : Gam 340 = some fn340 := rfl
theorem g431 : Gam 431 = some fn431 := rfl
theorem g140 : Gam 140 = some fn140 := rfl
theorem g452 : Gam 452 = some fn452 := rfl
theorem g198 : Gam 198 = some fn198 := rfl
theorem g7 : Gam 7 = some fn7 := rfl
theorem g457 : Gam 457 = some fn457 := rfl
theorem g6 : Gam 6 = some fn6 := rfl
theorem g456 : Gam 456 = some fn456 := rfl
theorem g557 : Gam 557 = some fn557 := rfl
theorem g138 : Gam 138 = some fn138 := rfl
theorem g150 : Gam 150 = some fn150 := rfl
theorem g22 : Gam 22 = some fn22 := rfl
theorem g558 : Gam 558 = some fn558 := rfl
theorem g561 : Gam 561 = some fn561 := rfl
theorem g154 : Gam 154 = some fn154 := rfl
theorem g465 : Gam 465 = some fn465 := rfl
theorem g163 : Gam 163 = some fn163 := rfl
theorem g196 : Gam 196 = some fn196 := rfl
theorem g164 : Gam 164 = some fn164 := rfl
theorem g453 : Gam 453 = some fn453 := rfl
theorem g432 : Gam 432 = some fn432 := rfl
theorem g449 : Gam 449 = some fn449 := rfl
theorem g445 : Gam 445 = some fn445 := rfl
theorem g40 : Gam 40 = some fn40 := rfl
theorem g450 : Gam 450 = some fn450 := rfl
theorem g451 : Gam 451 = some fn451 := rfl
theorem g433 : Gam 433 = some fn433 := rfl
theorem g166 : Gam 166 = some fn166 := rfl
theorem g448 : Gam 448 = some fn448 := rfl
theorem g5 : Gam 5 = some fn5 := rfl
theorem g436 : Gam 436 = some fn436 := rfl
theorem g556 : Gam 556 = some fn556 := rfl
theorem g564 : Gam 564 = some fn564 := rfl
theorem g199 : Gam 199 = some fn199 := rfl
theorem g308 : Gam 308 = some fn308 := rfl
theorem g562 : Gam 562 = some fn562 := rfl
theorem g55 : Gam 55 = some fn55 := rfl
theorem g463 : Gam 463 = some fn463 := rfl
theorem g435 : Gam 435 = some fn435 := rfl
theorem g455 : Gam 455 = some fn455 := rfl
theorem g51 : Gam 51 = some fn51 := rfl
theorem g56 : Gam 56 = some fn56 := rfl
theorem g50 : Gam 50 = some fn50 := rfl
theorem g54 : Gam 54 = some fn54 := rfl
theorem g466 : Gam 466 = some fn466 := rfl
theorem g462 : Gam 462 = some fn462 := rfl
theorem g58 : Gam 58 = some fn58 := rfl
theorem g34 : Gam 34 = some fn34 := rfl
theorem g461 : Gam 461 = some fn461 := rfl
theorem g460 : Gam 460 = some fn460 := rfl
theorem g459 : Gam 459 = some fn459 := rfl
theorem g446 : Gam 446 = some fn446 := rfl
theorem g458 : Gam 458 = some fn458 := rfl
end Am
