/- The functions that are reached, in their normal form; written by a program. -/
import Derived.Test.YtbljglfnbjbknaaGreatAmTab1
set_option linter.unusedVariables false
set_option maxRecDepth 100000
namespace Am
open Go
def fn574 : AFun := ⟨1, (.seq (reg [op 2 (.move (.const (.agg #[(I 0), (I 0), (sl 0 0 0 0)]))), op 3 (.move (.const (I 0)))]) (.seq (.seq (reg [op 11 (.move (.tmp 0)) 1, op 12 (bi .len #[(.global 11)] 0) 1, op 13 (.binOp .lss 0 (.global 12) (.const (I 5)) 0) 1, op 14 (.move (.global 13)) 1, op 15 (.move (.tmp 0)) 1 (some (57, false)), op 16 (.index 0 (.global 15) (.const (I 0))) 1 (some (57, false)), op 17 (.binOp .neq 0 (.global 16) (.const (U 77)) 0) 1 (some (57, false)), op 18 (.pick (.global 14) (.const (B true)) (.global 17)) 1, op 19 (.move (.global 18)) 1, op 20 (.move (.tmp 0)) 1 (some (77, false)), op 21 (.index 0 (.global 20) (.const (I 1))) 1 (some (77, false)), op 22 (.convert 0 3 (.global 21)) 1 (some (77, false)), op 23 (call (.func 457) #[(.global 22)]) 1 (some (77, false)), op 24 (.unOp .not 0 (.global 23)) 1 (some (77, false)), op 25 (.pick (.global 19) (.const (B true)) (.global 24)) 1, op 26 (.move (.global 25)) 1, op 27 (.move (.tmp 0)) 1 (some (105, false)), op 28 (.index 0 (.global 27) (.const (I 2))) 1 (some (105, false)), op 29 (.convert 0 3 (.global 28)) 1 (some (105, false)), op 30 (call (.func 457) #[(.global 29)]) 1 (some (105, false)), op 31 (.unOp .not 0 (.global 30)) 1 (some (105, false)), op 32 (.pick (.global 26) (.const (B true)) (.global 31))]) (.cond (.tmp 32) (.seq (reg [op 33 (.build 0 #[(0, (.const (.agg #[(I 0), (I 0), (sl 0 0 0 0)])))]) 1, op 2 (.insert 3 (.tmp 2) (.tmp 2) (.global 33)), op 3 (.move (.const (I 1)))]) .ret) .skip)) (.seq (reg [op 34 (.move (.tmp 0)) 1, op 35 (.index 0 (.global 34) (.const (I 1))) 1, op 36 (.convert 0 3 (.global 35)) 1, op 4 (.move (.global 36))]) (.seq (reg [op 37 (.move (.tmp 0)) 1, op 38 (.index 0 (.global 37) (.const (I 2))) 1, op 39 (.convert 0 3 (.global 38)) 1, op 5 (.move (.global 39))]) (.seq (.seq (reg [op 40 (.move (.tmp 0)) 1, op 41 (bi .len #[(.global 40)] 0) 1, op 42 (.move (.tmp 4)) 1, op 43 (.move (.tmp 5)) 1, op 44 (call (.func 572) #[(.global 42), (.global 43)]) 1, op 45 (.binOp .neq 0 (.global 41) (.global 44) 0)]) (.cond (.tmp 45) (.seq (reg [op 46 (.build 0 #[(0, (.const (.agg #[(I 0), (I 0), (sl 0 0 0 0)])))]) 1, op 2 (.insert 3 (.tmp 2) (.tmp 2) (.global 46)), op 3 (.move (.const (I 2)))]) .ret) .skip)) (.seq (.seq (reg [op 47 (.move (.tmp 0)) 1, op 48 (call (.func 566) #[(.global 47)]) 1, op 49 (.unOp .not 0 (.global 48))]) (.cond (.tmp 49) (.seq (reg [op 50 (.build 0 #[(0, (.const (.agg #[(I 0), (I 0), (sl 0 0 0 0)])))]) 1, op 2 (.insert 3 (.tmp 2) (.tmp 2) (.global 50)), op 3 (.move (.const (I 3)))]) .ret) .skip)) (.seq (reg [op 51 (.move (.tmp 4)) 1, op 52 (.move (.tmp 5)) 1, op 53 (call (.func 450) #[(.global 51), (.global 52)]) 1, op 6 (.box 3 (.const (.agg #[(I 0), (I 0), (sl 0 0 0 0)]))), opn (.store 3 (.tmp 6) (.global 53))]) (.seq (.seq (reg [op 7 (.move (.const (I 3)))]) (.block 0 (.loop (.seq (.seq (reg [op 54 (.move (.tmp 7)) 1, op 55 (.move (.tmp 0)) 1, op 56 (bi .len #[(.global 55)] 0) 1, op 57 (.binOp .sub 0 (.global 56) (.const (I 2)) 0) 1, op 58 (.binOp .lss 0 (.global 54) (.global 57) 0)]) (.cond (.tmp 58) .skip (.exit 0))) (.seq (.block 1 (.seq (reg [op 61 (.move (.tmp 0)) 1, op 62 (.move (.tmp 7)) 1, op 63 (.index 0 (.global 61) (.global 62)) 1, op 64 (.convert 0 3 (.global 63)) 1, op 8 (.move (.global 64))]) (.seq (reg [op 9 (.move (.const (I 4)))]) (.block 2 (.loop (.seq (.seq (reg [op 65 (.move (.tmp 9)) 1, op 66 (.binOp .geq 0 (.global 65) (.const (I 0)) 0)]) (.cond (.tmp 66) .skip (.exit 2))) (.seq (.block 3 (.seq (reg [op 69 (.move (.tmp 7)) 1, op 70 (.binOp .sub 0 (.global 69) (.const (I 3)) 0) 1, op 71 (.binOp .mul 0 (.const (I 5)) (.global 70) 0) 1, op 72 (.move (.tmp 9)) 1, op 73 (.binOp .add 0 (.global 71) (.global 72) 0) 1, op 10 (.move (.global 73))]) (.seq (.seq (reg [op 74 (.move (.tmp 10)) 1, op 75 (.fieldAddr 2 (.tmp 6) 0) 1, op 76 (.load 0 (.global 75)) 1, op 77 (bi .len #[(.global 76)] 1) 1, op 78 (.binOp .lss 0 (.global 74) (.global 77) 0)]) (.cond (.tmp 78) (reg [op 79 (.fieldAddr 2 (.tmp 6) 0) 1, op 80 (.load 0 (.global 79)) 1, op 81 (.move (.tmp 10)) 1, op 82 (.move (.tmp 8)) 1, op 83 (.binOp .rem 0 (.global 82) (.const (I 3)) 0) 1, op 84 (.indexAddr 3 (.global 80) (.global 81)) 1, opn (.store 1 (.global 84) (.global 83))]) .skip)) (reg [op 85 (.move (.tmp 8)) 1, op 86 (.binOp .quo 0 (.global 85) (.const (I 3)) 0) 1, op 8 (.move (.global 86))])))) (reg [op 67 (.move (.tmp 9)) 1, op 68 (.binOp .sub 0 (.global 67) (.const (I 1)) 0) 1, op 9 (.move (.global 68))])))))))) (reg [op 59 (.move (.tmp 7)) 1, op 60 (.binOp .add 0 (.global 59) (.const (I 1)) 0) 1, op 7 (.move (.global 60))])))))) (.seq (.seq (reg [op 87 (call (.func 571) #[(.tmp 6)]) 1, op 88 (.move (.tmp 0)) 1, op 89 (.binOp .neq 0 (.global 87) (.global 88) 0)]) (.cond (.tmp 89) (.seq (reg [op 90 (.build 0 #[(0, (.const (.agg #[(I 0), (I 0), (sl 0 0 0 0)])))]) 1, op 2 (.insert 3 (.tmp 2) (.tmp 2) (.global 90)), op 3 (.move (.const (I 4)))]) .ret) .skip)) (.seq (reg [op 91 (.load 4 (.tmp 6)) 1, op 2 (.insert 3 (.tmp 2) (.tmp 2) (.global 91)), op 3 (.move (.const (I 0)))]) .ret)))))))))), [(2, 1000004), (3, 0)]⟩

def fn164 : AFun := ⟨3, (.seq (reg [op 6 (.move (.const (B false)))]) (.seq (reg [op 7 (.move (.tmp 0)) 1, op 8 (.move (.tmp 1)) 1, op 9 (.binOp .geq 0 (.global 7) (.global 8) 0) 1, op 10 (.move (.global 9)) 1, op 11 (.move (.tmp 0)) 1 (some (41, true)), op 12 (.move (.tmp 2)) 1 (some (41, true)), op 13 (.binOp .leq 0 (.global 11) (.global 12) 0) 1 (some (41, true)), op 14 (.pick (.global 10) (.global 13) (.const (B false))) 1, op 6 (.move (.global 14))]) .ret)), [(6, 0)]⟩

def fn49 : AFun := ⟨1, (.seq (reg [op 1 (.makeChan 3 (.tmp 0)), op 2 (.move (.const (sl 0 0 0 0)))]) (.seq (reg [op 6 (.move (.const (sl 0 0 0 2))) 1, op 3 (.move (.global 6))]) (.seq (.seq (reg [op 4 (.move (.const (I 1)))]) (.block 0 (.loop (.seq (.seq (reg [op 7 (.move (.tmp 4)) 1, op 8 (.fieldAddr 1 (.tmp 1) 1) 1, op 9 (.lookup 0 (.tmp 1) (.global 8) false) 1, op 10 (.binOp .mul 0 (.const (I 2)) (.global 9) 0) 1, op 11 (.binOp .lss 0 (.global 7) (.global 10) 0)]) (.cond (.tmp 11) .skip (.exit 0))) (.seq (.block 1 (.seq (reg [op 14 (.move (.tmp 4)) 1, op 15 (.binOp .rem 0 (.global 14) (.const (I 2)) 0) 1, op 16 (.binOp .add 0 (.const (I 1)) (.global 15) 0) 1, op 5 (.move (.global 16))]) (.block 2 (.loop (.seq (.seq (reg [op 17 (.move (.tmp 5)) 1, op 18 (.fieldAddr 0 (.tmp 1) 1) 1, op 19 (.lookup 0 (.tmp 1) (.global 18) false) 1, op 20 (.binOp .mul 0 (.const (I 2)) (.global 19) 0) 1, op 21 (.binOp .lss 0 (.global 17) (.global 20) 0)]) (.cond (.tmp 21) .skip (.exit 2))) (.seq (.block 3 (reg [op 24 (.move (.tmp 3)) 1, op 25 (.move (.tmp 5)) 1, op 26 (.move (.tmp 4)) 1, op 27 (.build 0 #[(0, (.const (.agg #[(I 0), (I 0)]))), (1, (.global 25)), (1001, (.global 26))]) 1, op 28 (.buildSlice 2 1 #[(0, (.const (.agg #[(I 0), (I 0)]))), (2, (.global 27))]) 1, op 29 (bi .append #[(.global 24), (.global 28)] 2) 1, op 3 (.move (.global 29))])) (reg [op 22 (.move (.tmp 5)) 1, op 23 (.binOp .add 0 (.global 22) (.const (I 2)) 0) 1, op 5 (.move (.global 23))]))))))) (reg [op 12 (.move (.tmp 4)) 1, op 13 (.binOp .add 0 (.global 12) (.const (I 1)) 0) 1, op 4 (.move (.global 13))])))))) (.seq (reg [op 30 (.move (.tmp 3)) 1, op 2 (.move (.global 30))]) .ret)))), [(2, 0)]⟩

def fn172 : AFun := ⟨2, (.seq (reg [op 4 (.move (.const (I 0)))]) (.seq (.seq (reg [op 5 (.move (.tmp 1)) 1, op 6 (.binOp .geq 0 (.global 5) (.const (I 4)) 0) 1, op 7 (.move (.global 6)) 1, op 8 (.move (.tmp 0)) 1 (some (29, true)), op 9 (.binOp .neq 0 (.global 8) (.const (I 0)) 0) 1 (some (29, true)), op 10 (.pick (.global 7) (.global 9) (.const (B false)))]) (.cond (.tmp 10) (.seq (reg [op 11 (.move (.tmp 0)) 1, op 12 (.binOp .sub 0 (.const (I 3)) (.global 11) 0) 1, op 4 (.move (.global 12))]) .ret) .skip)) (.seq (reg [op 13 (.move (.tmp 0)) 1, op 4 (.move (.global 13))]) .ret))), [(4, 0)]⟩

def fn40 : AFun := ⟨2, (.seq (reg [op 2 (.makeChan 3 (.tmp 0)), op 3 (.makeChan 2 (.tmp 1)), op 4 (.move (.const (I 0)))]) (.seq (reg [op 6 (.fieldAddr 1 (.tmp 3) 1) 1, op 7 (.lookup 0 (.tmp 3) (.global 6) false) 1, op 8 (.binOp .quo 0 (.global 7) (.const (I 2)) 0) 1, op 9 (.fieldAddr 0 (.tmp 2) 1) 1, op 10 (.lookup 0 (.tmp 2) (.global 9) false) 1, op 11 (.binOp .sub 0 (.global 10) (.const (I 1)) 0) 1, op 12 (.binOp .mul 0 (.global 8) (.global 11) 0) 1, op 13 (.fieldAddr 1 (.tmp 3) 1) 1, op 14 (.lookup 0 (.tmp 3) (.global 13) false) 1, op 15 (.binOp .sub 0 (.global 14) (.const (I 1)) 0) 1, op 16 (.binOp .quo 0 (.global 15) (.const (I 2)) 0) 1, op 17 (.fieldAddr 0 (.tmp 2) 1) 1, op 18 (.lookup 0 (.tmp 2) (.global 17) false) 1, op 19 (.binOp .mul 0 (.global 16) (.global 18) 0) 1, op 20 (.binOp .add 0 (.global 12) (.global 19) 0) 1, op 5 (.move (.global 20))]) (.seq (.seq (reg [op 21 (.fieldAddr 1 (.tmp 3) 1) 1, op 22 (.lookup 0 (.tmp 3) (.global 21) false) 1, op 23 (.binOp .rem 0 (.global 22) (.const (I 2)) 0) 1, op 24 (.binOp .eql 0 (.global 23) (.const (I 1)) 0)]) (.cond (.tmp 24) (.seq (reg [op 25 (.move (.tmp 5)) 1, op 26 (.fieldAddr 0 (.tmp 3) 1) 1, op 27 (.lookup 0 (.tmp 3) (.global 26) false) 1, op 28 (.binOp .quo 0 (.global 27) (.const (I 2)) 0) 1, op 29 (.binOp .add 0 (.global 25) (.global 28) 0) 1, op 30 (.binOp .sub 0 (.global 29) (.const (I 1)) 0) 1, op 4 (.move (.global 30))]) .ret) .skip)) (.seq (reg [op 31 (.move (.tmp 5)) 1, op 32 (.fieldAddr 0 (.tmp 3) 1) 1, op 33 (.lookup 0 (.tmp 3) (.global 32) false) 1, op 34 (.binOp .quo 0 (.global 33) (.const (I 2)) 0) 1, op 35 (.binOp .add 0 (.global 31) (.global 34) 0) 1, op 4 (.move (.global 35))]) .ret)))), [(4, 0)]⟩

def fn38 : AFun := ⟨3, (.seq (reg [op 3 (.makeChan 3 (.tmp 0)), op 4 (.makeChan 2 (.tmp 1)), op 6 (.move (.const (.agg #[(I 0), (I 0)])))]) (.seq (reg [op 9 (.fieldAddr 0 (.tmp 3) 1) 1, op 10 (.lookup 0 (.tmp 3) (.global 9) false) 1, op 11 (.fieldAddr 1 (.tmp 3) 1) 1, op 12 (.lookup 0 (.tmp 3) (.global 11) false) 1, op 7 (.move (.global 10)), op 8 (.move (.global 12))]) (.seq (.seq (reg [op 13 (.move (.tmp 2)) 1, op 14 (.binOp .geq 0 (.global 13) (.const (I 4)) 0)]) (.cond (.tmp 14) (reg [op 15 (.fieldAddr 1 (.tmp 4) 1) 1, op 16 (.lookup 0 (.tmp 4) (.global 15) false) 1, op 17 (.fieldAddr 0 (.tmp 4) 1) 1, op 18 (.lookup 0 (.tmp 4) (.global 17) false) 1, op 19 (.move (.tmp 8)) 1, op 20 (.move (.tmp 7)) 1, op 21 (.fieldAddr 0 (.tmp 4) 1) 1, op 4 (.insert 1 (.tmp 4) (.global 21) (.global 16)), op 22 (.fieldAddr 1 (.tmp 4) 1) 1, op 4 (.insert 1 (.tmp 4) (.global 22) (.global 18)), op 7 (.move (.global 19)), op 8 (.move (.global 20))]) .skip)) (.seq (.seq (reg [op 23 (.move (.tmp 2)) 1, op 24 (.binOp .and 0 (.global 23) (.const (I 1)) 0) 1, op 25 (.binOp .eql 0 (.global 24) (.const (I 1)) 0)]) (.cond (.tmp 25) (reg [op 26 (.move (.tmp 7)) 1, op 27 (.binOp .mul 0 (.const (I 2)) (.global 26) 0) 1, op 28 (.fieldAddr 0 (.tmp 4) 1) 1, op 29 (.lookup 0 (.tmp 4) (.global 28) false) 1, op 30 (.binOp .sub 0 (.global 27) (.global 29) 0) 1, op 31 (.fieldAddr 0 (.tmp 4) 1) 1, op 4 (.insert 1 (.tmp 4) (.global 31) (.global 30))]) .skip)) (.seq (.seq (reg [op 32 (.move (.tmp 2)) 1, op 33 (.binOp .shr 0 (.global 32) (.const (.int .u64 1)) 0) 1, op 34 (.binOp .and 0 (.global 33) (.const (I 1)) 0) 1, op 35 (.binOp .eql 0 (.global 34) (.const (I 1)) 0)]) (.cond (.tmp 35) (reg [op 36 (.move (.tmp 8)) 1, op 37 (.binOp .mul 0 (.const (I 2)) (.global 36) 0) 1, op 38 (.fieldAddr 1 (.tmp 4) 1) 1, op 39 (.lookup 0 (.tmp 4) (.global 38) false) 1, op 40 (.binOp .sub 0 (.global 37) (.global 39) 0) 1, op 41 (.fieldAddr 1 (.tmp 4) 1) 1, op 4 (.insert 1 (.tmp 4) (.global 41) (.global 40))]) .skip)) (.seq (reg [op 42 (.lookup 3 (.tmp 4) (.tmp 4) false) 1, op 6 (.insert 2 (.tmp 6) (.tmp 6) (.global 42))]) .ret)))))), [(6, 1000003)]⟩

def fn152 : AFun := ⟨2, (.seq (reg [op 4 (.move (.const (I 0)))]) (.seq (.block 0 (.seq (reg [op 6 (.move (.tmp 0)) 1, op 7 (.move (.tmp 1)) 1, op 8 (.binOp .lss 0 (.global 6) (.global 7) 0) 1, op 5 (.move (.global 8))]) (.cond (.tmp 5) (.seq (reg [op 4 (.move (.const (I (-1))))]) .ret) (.seq (reg [op 10 (.move (.tmp 0)) 1, op 11 (.move (.tmp 1)) 1, op 12 (.binOp .gtr 0 (.global 10) (.global 11) 0) 1, op 9 (.move (.global 12))]) (.cond (.tmp 9) (.seq (reg [op 4 (.move (.const (I 1)))]) .ret) .skip))))) (.seq (reg [op 4 (.move (.const (I 0)))]) .ret))), [(4, 0)]⟩

def fn309 : AFun := ⟨2, (.seq (reg [op 4 (.move (.const (I 0)))]) (.seq (.seq (reg [op 9 (.move (.tmp 0)), op 10 (bi .len #[(.tmp 9)] 1), op 11 (.move (.const (I 0)))]) (.block 0 (.loop (.seq (reg [op 12 (.binOp .lss 0 (.tmp 11) (.tmp 10) 0)]) (.seq (.cond (.tmp 12) .skip (.exit 0)) (.seq (.block 1 (.seq (reg [op 13 (.move (.tmp 11)) 1, op 14 (.indexAddr 3 (.tmp 9) (.tmp 11)) 1, op 15 (.load 0 (.global 14)) 1, op 5 (.move (.global 13)), op 6 (.move (.global 15))]) (.seq (.seq (reg [op 16 (.move (.tmp 5)) 1, op 17 (.move (.tmp 1)) 1, op 18 (bi .len #[(.global 17)] 1) 1, op 19 (.binOp .geq 0 (.global 16) (.global 18) 0)]) (.cond (.tmp 19) (.seq (reg [op 4 (.move (.const (I 1)))]) .ret) .skip)) (.seq (reg [op 20 (.move (.tmp 1)) 1, op 21 (.move (.tmp 5)) 1, op 22 (.indexAddr 3 (.global 20) (.global 21)) 1, op 23 (.load 0 (.global 22)) 1, op 7 (.move (.global 23))]) (.seq (reg [op 24 (.move (.tmp 6)) 1, op 25 (.move (.tmp 7)) 1, op 26 (call (.func 59) #[(.global 24), (.global 25)]) 1, op 8 (.move (.global 26))]) (.seq (reg [op 27 (.move (.tmp 8)) 1, op 28 (.binOp .neq 0 (.global 27) (.const (I 0)) 0)]) (.cond (.tmp 28) (.seq (reg [op 29 (.move (.tmp 8)) 1, op 4 (.move (.global 29))]) .ret) .skip))))))) (reg [op 30 (.binOp .add 0 (.tmp 11) (.const (I 1)) 0) 1, op 11 (.move (.global 30))]))))))) (.seq (.seq (reg [op 31 (.move (.tmp 0)) 1, op 32 (bi .len #[(.global 31)] 1) 1, op 33 (.move (.tmp 1)) 1, op 34 (bi .len #[(.global 33)] 1) 1, op 35 (.binOp .lss 0 (.global 32) (.global 34) 0)]) (.cond (.tmp 35) (.seq (reg [op 4 (.move (.const (I (-1))))]) .ret) .skip)) (.seq (reg [op 4 (.move (.const (I 0)))]) .ret)))), [(4, 0)]⟩

def fn435 : AFun := ⟨1, (.seq (reg [op 2 (.move (.const (sl 0 0 0 0)))]) (.seq (reg [op 3 (.move (.const (sl 0 0 0 1))) 1, op 4 (.move (.tmp 0)) 1, op 5 (bi .append #[(.global 3), (.global 4)] 1) 1, op 2 (.move (.global 5))]) .ret)), [(2, 0)]⟩

def fn478 : AFun := ⟨2, (.seq (reg [op 4 (.move (.const (I 0)))]) (.seq (.seq (reg [op 5 (.move (.const (I 0)))]) (.block 0 (.loop (.seq (.seq (reg [op 6 (.move (.tmp 5)) 1, op 7 (.move (.tmp 0)) 1, op 8 (bi .len #[(.global 7)] 1) 1, op 9 (.binOp .lss 0 (.global 6) (.global 8) 0) 1, op 10 (.move (.global 9)) 1, op 11 (.move (.tmp 5)) 1 (some (41, true)), op 12 (.move (.tmp 1)) 1 (some (41, true)), op 13 (bi .len #[(.global 12)] 1) 1 (some (41, true)), op 14 (.binOp .lss 0 (.global 11) (.global 13) 0) 1 (some (41, true)), op 15 (.pick (.global 10) (.global 14) (.const (B false)))]) (.cond (.tmp 15) .skip (.exit 0))) (.seq (.block 1 (.seq (.seq (reg [op 18 (.move (.tmp 0)) 1, op 19 (.move (.tmp 5)) 1, op 20 (.indexAddr 3 (.global 18) (.global 19)) 1, op 21 (.load 0 (.global 20)) 1, op 22 (.move (.tmp 1)) 1, op 23 (.move (.tmp 5)) 1, op 24 (.indexAddr 3 (.global 22) (.global 23)) 1, op 25 (.load 0 (.global 24)) 1, op 26 (.binOp .lss 0 (.global 21) (.global 25) 0)]) (.cond (.tmp 26) (.seq (reg [op 4 (.move (.const (I (-1))))]) .ret) .skip)) (.seq (reg [op 27 (.move (.tmp 0)) 1, op 28 (.move (.tmp 5)) 1, op 29 (.indexAddr 3 (.global 27) (.global 28)) 1, op 30 (.load 0 (.global 29)) 1, op 31 (.move (.tmp 1)) 1, op 32 (.move (.tmp 5)) 1, op 33 (.indexAddr 3 (.global 31) (.global 32)) 1, op 34 (.load 0 (.global 33)) 1, op 35 (.binOp .gtr 0 (.global 30) (.global 34) 0)]) (.cond (.tmp 35) (.seq (reg [op 4 (.move (.const (I 1)))]) .ret) .skip)))) (reg [op 16 (.move (.tmp 5)) 1, op 17 (.binOp .add 0 (.global 16) (.const (I 1)) 0) 1, op 5 (.move (.global 17))])))))) (.seq (.seq (reg [op 36 (.move (.tmp 0)) 1, op 37 (bi .len #[(.global 36)] 1) 1, op 38 (.move (.tmp 1)) 1, op 39 (bi .len #[(.global 38)] 1) 1, op 40 (.binOp .lss 0 (.global 37) (.global 39) 0)]) (.cond (.tmp 40) (.seq (reg [op 4 (.move (.const (I (-1))))]) .ret) .skip)) (.seq (.seq (reg [op 41 (.move (.tmp 0)) 1, op 42 (bi .len #[(.global 41)] 1) 1, op 43 (.move (.tmp 1)) 1, op 44 (bi .len #[(.global 43)] 1) 1, op 45 (.binOp .gtr 0 (.global 42) (.global 44) 0)]) (.cond (.tmp 45) (.seq (reg [op 4 (.move (.const (I 1)))]) .ret) .skip)) (.seq (reg [op 4 (.move (.const (I 0)))]) .ret))))), [(4, 0)]⟩

def fn455 : AFun := ⟨2, (.seq (reg [op 4 (.move (.const (I 0)))]) (.seq (reg [op 5 (.move (.const (I 0)))]) (.seq (.seq (reg [op 6 (.move (.const (I 1)))]) (.block 0 (.loop (.seq (.seq (reg [op 7 (.move (.tmp 6)) 1, op 8 (.move (.tmp 1)) 1, op 9 (.binOp .lss 0 (.global 7) (.global 8) 0)]) (.cond (.tmp 9) .skip (.exit 0))) (.seq (.block 1 (.seq (reg [op 12 (.move (.tmp 5)) 1, op 13 (.move (.tmp 0)) 1, op 14 (.nilCheck (.global 13)) 1, op 15 (.fieldAddr 0 (.global 14) 0) 1, op 16 (.load 0 (.global 15)) 1, op 17 (.binOp .add 0 (.global 12) (.global 16) 0) 1, op 5 (.move (.global 17))]) (.seq (reg [op 18 (.move (.tmp 6)) 1, op 19 (.binOp .rem 0 (.global 18) (.const (I 2)) 0) 1, op 20 (.binOp .eql 0 (.global 19) (.const (I 1)) 0)]) (.cond (.tmp 20) (reg [op 21 (.move (.tmp 5)) 1, op 22 (.binOp .sub 0 (.global 21) (.const (I 1)) 0) 1, op 5 (.move (.global 22))]) .skip)))) (reg [op 10 (.move (.tmp 6)) 1, op 11 (.binOp .add 0 (.global 10) (.const (I 1)) 0) 1, op 6 (.move (.global 11))])))))) (.seq (reg [op 23 (.move (.tmp 5)) 1, op 4 (.move (.global 23))]) .ret)))), [(4, 0)]⟩

def fn75 : AFun := ⟨1, (.seq (reg [op 2 (.move (.const (S [])))]) (.seq (.seq (reg [op 6 (.move (.tmp 0)) 1, op 7 (.binOp .eql 0 (.global 6) (.const (I 0)) 0)]) (.cond (.tmp 7) (.seq (reg [op 2 (.move (.const (S [48])))]) .ret) .skip)) (.seq (reg [op 8 (.build 0 #[(0, (.const (.agg #[(U 0), (U 0), (U 0), (U 0), (U 0), (U 0), (U 0), (U 0), (U 0), (U 0), (U 0), (U 0), (U 0), (U 0), (U 0), (U 0), (U 0), (U 0), (U 0), (U 0)])))]) 1, op 3 (.box 20 (.const (.agg #[(U 0), (U 0), (U 0), (U 0), (U 0), (U 0), (U 0), (U 0), (U 0), (U 0), (U 0), (U 0), (U 0), (U 0), (U 0), (U 0), (U 0), (U 0), (U 0), (U 0)]))), opn (.store 20 (.tmp 3) (.global 8))]) (.seq (reg [op 4 (.move (.const (I 20)))]) (.seq (reg [op 9 (.move (.tmp 0)) 1, op 10 (.convert 0 7 (.global 9)) 1, op 5 (.move (.global 10))]) (.seq (.seq (reg [op 11 (.move (.tmp 0)) 1, op 12 (.binOp .lss 0 (.global 11) (.const (I 0)) 0)]) (.cond (.tmp 12) (reg [op 13 (.move (.tmp 5)) 1, op 14 (.unOp .neg 0 (.global 13)) 1, op 5 (.move (.global 14))]) .skip)) (.seq (.block 0 (.loop (.seq (.seq (reg [op 15 (.move (.tmp 5)) 1, op 16 (.binOp .gtr 0 (.global 15) (.const (.int .u64 0)) 0)]) (.cond (.tmp 16) .skip (.exit 0))) (.block 1 (.seq (reg [op 17 (.move (.tmp 4)) 1, op 18 (.binOp .sub 0 (.global 17) (.const (I 1)) 0) 1, op 4 (.move (.global 18))]) (.seq (reg [op 19 (.move (.tmp 4)) 1, op 20 (.move (.tmp 5)) 1, op 21 (.binOp .rem 0 (.global 20) (.const (.int .u64 10)) 0) 1, op 22 (.binOp .add 0 (.const (.int .u64 48)) (.global 21) 0) 1, op 23 (.convert 0 4 (.global 22)) 1, op 24 (.indexAddr 1020001 (.tmp 3) (.global 19)) 1, opn (.store 1 (.global 24) (.global 23))]) (reg [op 25 (.move (.tmp 5)) 1, op 26 (.binOp .quo 0 (.global 25) (.const (.int .u64 10)) 0) 1, op 5 (.move (.global 26))]))))))) (.seq (.seq (reg [op 27 (.move (.tmp 0)) 1, op 28 (.binOp .lss 0 (.global 27) (.const (I 0)) 0)]) (.cond (.tmp 28) (.seq (reg [op 29 (.move (.tmp 4)) 1, op 30 (.binOp .sub 0 (.global 29) (.const (I 1)) 0) 1, op 4 (.move (.global 30))]) (reg [op 31 (.move (.tmp 4)) 1, op 32 (.indexAddr 1020001 (.tmp 3) (.global 31)) 1, opn (.store 1 (.global 32) (.const (U 45)))])) .skip)) (.seq (reg [op 33 (.move (.tmp 4)) 1, op 34 (.slice 1020001 (.tmp 3) (some (.global 33)) none none) 1, op 35 (.convert 0 21 (.global 34)) 1, op 2 (.move (.global 35))]) .ret))))))))), [(2, 0)]⟩

def fn437 : AFun := ⟨1, (.seq (reg [op 2 (.move (.const (S [])))]) (.seq (reg [op 6 (.move (.const (sl 0 0 0 1))) 1, op 3 (.move (.global 6))]) (.seq (.seq (reg [op 7 (.move (.tmp 0)) 1, op 4 (.move (.global 7))]) (.block 0 (.loop (.seq (.seq (reg [op 8 (.move (.tmp 4)) 1, op 9 (.binOp .neq 0 (.global 8) (.const (I 0)) 0)]) (.cond (.tmp 9) .skip (.exit 0))) (.seq (.block 1 (.seq (reg [op 12 (.move (.tmp 4)) 1, op 13 (.binOp .rem 0 (.global 12) (.const (I 10)) 0) 1, op 5 (.move (.global 13))]) (.seq (.seq (reg [op 14 (.move (.tmp 5)) 1, op 15 (.binOp .lss 0 (.global 14) (.const (I 0)) 0)]) (.cond (.tmp 15) (reg [op 16 (.move (.tmp 5)) 1, op 17 (.unOp .neg 0 (.global 16)) 1, op 5 (.move (.global 17))]) .skip)) (reg [op 18 (.move (.tmp 5)) 1, op 19 (.binOp .add 0 (.const (I 48)) (.global 18) 0) 1, op 20 (.convert 0 4 (.global 19)) 1, op 21 (.buildSlice 1 1 #[(0, (.const (.agg #[(U 0)]))), (1, (.global 20))]) 1, op 22 (.move (.tmp 3)) 1, op 23 (bi .append #[(.global 21), (.global 22)] 1) 1, op 3 (.move (.global 23))])))) (reg [op 10 (.move (.tmp 4)) 1, op 11 (.binOp .quo 0 (.global 10) (.const (I 10)) 0) 1, op 4 (.move (.global 11))])))))) (.seq (.seq (reg [op 24 (.move (.tmp 3)) 1, op 25 (bi .len #[(.global 24)] 1) 1, op 26 (.binOp .eql 0 (.global 25) (.const (I 0)) 0)]) (.cond (.tmp 26) (.seq (reg [op 2 (.move (.const (S [48])))]) .ret) .skip)) (.seq (.seq (reg [op 27 (.move (.tmp 0)) 1, op 28 (.binOp .lss 0 (.global 27) (.const (I 0)) 0)]) (.cond (.tmp 28) (.seq (reg [op 29 (.move (.tmp 3)) 1, op 30 (.convert 0 21 (.global 29)) 1, op 31 (.binOp .add 0 (.const (S [45])) (.global 30) 0) 1, op 2 (.move (.global 31))]) .ret) .skip)) (.seq (reg [op 32 (.move (.tmp 3)) 1, op 33 (.convert 0 21 (.global 32)) 1, op 2 (.move (.global 33))]) .ret)))))), [(2, 0)]⟩

def fn470 : AFun := ⟨1, (.seq (reg [op 2 (.move (.const (U 0)))]) (.seq (.seq (reg [op 3 (.move (.tmp 0))]) (.block 0 (.seq (reg [op 5 (.binOp .eql 0 (.tmp 3) (.const (I 1)) 0) 1, op 4 (.move (.global 5))]) (.cond (.tmp 4) (.seq (reg [op 2 (.move (.const (U 124)))]) .ret) (.seq (reg [op 7 (.binOp .eql 0 (.tmp 3) (.const (I 2)) 0) 1, op 6 (.move (.global 7))]) (.cond (.tmp 6) (.seq (reg [op 2 (.move (.const (U 45)))]) .ret) .skip)))))) (.seq (reg [op 2 (.move (.const (U 43)))]) .ret))), [(2, 0)]⟩

def fn434 : AFun := ⟨2, (.seq (reg [op 4 (.move (.const (I 0)))]) (.seq (.seq (reg [op 5 (.move (.tmp 0)) 1, op 6 (.move (.tmp 1)) 1, op 7 (.binOp .lss 0 (.global 5) (.global 6) 0)]) (.cond (.tmp 7) (.seq (reg [op 8 (.move (.tmp 0)) 1, op 4 (.move (.global 8))]) .ret) .skip)) (.seq (reg [op 9 (.move (.tmp 1)) 1, op 4 (.move (.global 9))]) .ret))), [(4, 0)]⟩

def fn439 : AFun := ⟨1, (.seq (reg [op 2 (.move (.const (I 0))), op 3 (.move (.const (B false)))]) (.seq (reg [op 7 (.move (.tmp 0)) 1, op 4 (.move (.global 7))]) (.seq (.seq (reg [op 8 (.move (.tmp 4)) 1, op 9 (.binOp .neq 0 (.global 8) (.const (S [])) 0) 1, op 10 (.move (.global 9)) 1, op 11 (.move (.tmp 4)) 1 (some (41, true)), op 12 (.index 0 (.global 11) (.const (I 0))) 1 (some (41, true)), op 13 (.binOp .eql 0 (.global 12) (.const (U 45)) 0) 1 (some (41, true)), op 14 (.pick (.global 10) (.global 13) (.const (B false)))]) (.cond (.tmp 14) (reg [op 15 (.move (.tmp 4)) 1, op 16 (.slice 0 (.global 15) (some (.const (I 1))) none none) 1, op 4 (.move (.global 16))]) .skip)) (.seq (.seq (reg [op 17 (.move (.tmp 4)) 1, op 18 (bi .len #[(.global 17)] 0) 1, op 19 (.binOp .lss 0 (.global 18) (.const (I 1)) 0) 1, op 20 (.move (.global 19)) 1, op 21 (.move (.tmp 4)) 1 (some (81, false)), op 22 (bi .len #[(.global 21)] 0) 1 (some (81, false)), op 23 (.binOp .gtr 0 (.global 22) (.const (I 18)) 0) 1 (some (81, false)), op 24 (.pick (.global 20) (.const (B true)) (.global 23))]) (.cond (.tmp 24) (.seq (reg [op 2 (.move (.const (I 0))), op 3 (.move (.const (B false)))]) .ret) .skip)) (.seq (reg [op 5 (.move (.const (I 0)))]) (.seq (.seq (reg [op 6 (.move (.const (I 0)))]) (.block 0 (.loop (.seq (.seq (reg [op 25 (.move (.tmp 6)) 1, op 26 (.move (.tmp 4)) 1, op 27 (bi .len #[(.global 26)] 0) 1, op 28 (.binOp .lss 0 (.global 25) (.global 27) 0)]) (.cond (.tmp 28) .skip (.exit 0))) (.seq (.block 1 (.seq (.seq (reg [op 31 (.move (.tmp 4)) 1, op 32 (.move (.tmp 6)) 1, op 33 (.index 0 (.global 31) (.global 32)) 1, op 34 (call (.func 438) #[(.global 33)]) 1, op 35 (.unOp .not 0 (.global 34))]) (.cond (.tmp 35) (.seq (reg [op 2 (.move (.const (I 0))), op 3 (.move (.const (B false)))]) .ret) .skip)) (reg [op 36 (.move (.tmp 5)) 1, op 37 (.binOp .mul 0 (.const (I 10)) (.global 36) 0) 1, op 38 (.move (.tmp 4)) 1, op 39 (.move (.tmp 6)) 1, op 40 (.index 0 (.global 38) (.global 39)) 1, op 41 (.binOp .sub 0 (.global 40) (.const (U 48)) 0) 1, op 42 (.convert 0 3 (.global 41)) 1, op 43 (.binOp .add 0 (.global 37) (.global 42) 0) 1, op 5 (.move (.global 43))]))) (reg [op 29 (.move (.tmp 6)) 1, op 30 (.binOp .add 0 (.global 29) (.const (I 1)) 0) 1, op 6 (.move (.global 30))])))))) (.seq (.seq (reg [op 44 (.move (.tmp 4)) 1, op 45 (bi .len #[(.global 44)] 0) 1, op 46 (.move (.tmp 0)) 1, op 47 (bi .len #[(.global 46)] 0) 1, op 48 (.binOp .lss 0 (.global 45) (.global 47) 0)]) (.cond (.tmp 48) (reg [op 49 (.move (.tmp 5)) 1, op 50 (.unOp .neg 0 (.global 49)) 1, op 5 (.move (.global 50))]) .skip)) (.seq (.seq (reg [op 51 (.move (.tmp 5)) 1, op 52 (call (.func 437) #[(.global 51)]) 1, op 53 (.move (.tmp 0)) 1, op 54 (.binOp .neq 0 (.global 52) (.global 53) 0)]) (.cond (.tmp 54) (.seq (reg [op 2 (.move (.const (I 0))), op 3 (.move (.const (B false)))]) .ret) .skip)) (.seq (reg [op 55 (.move (.tmp 5)) 1, op 2 (.move (.global 55)), op 3 (.move (.const (B true)))]) .ret))))))))), [(2, 0), (3, 0)]⟩

def fn467 : AFun := ⟨1, (.seq (reg [op 2 (.move (.const (I 0)))]) (.seq (.seq (reg [op 3 (.move (.tmp 0))]) (.block 0 (.seq (reg [op 5 (.binOp .eql 0 (.tmp 3) (.const (U 43)) 0) 1, op 4 (.move (.global 5))]) (.cond (.tmp 4) (.seq (reg [op 2 (.move (.const (I 0)))]) .ret) (.seq (reg [op 7 (.binOp .eql 0 (.tmp 3) (.const (U 124)) 0) 1, op 6 (.move (.global 7))]) (.cond (.tmp 6) (.seq (reg [op 2 (.move (.const (I 1)))]) .ret) (.seq (reg [op 9 (.binOp .eql 0 (.tmp 3) (.const (U 45)) 0) 1, op 8 (.move (.global 9))]) (.cond (.tmp 8) (.seq (reg [op 2 (.move (.const (I 2)))]) .ret) .skip)))))))) (.seq (reg [op 2 (.move (.const (I (-1))))]) .ret))), [(2, 0)]⟩

def fn59 : AFun := ⟨2, (.seq (reg [op 4 (.move (.const (I 0)))]) (.seq (reg [op 7 (.move (.tmp 0)) 1, op 8 (call (.func 60) #[(.global 7)]) 1, op 5 (.move (.global 8))]) (.seq (reg [op 9 (.move (.tmp 1)) 1, op 10 (call (.func 60) #[(.global 9)]) 1, op 6 (.move (.global 10))]) (.seq (.seq (reg [op 11 (.move (.tmp 5))]) (.cond (.tmp 11) (.seq (.seq (reg [op 12 (.move (.tmp 6))]) (.cond (.tmp 12) (.seq (reg [op 4 (.move (.const (I 0)))]) .ret) .skip)) (.seq (reg [op 4 (.move (.const (I (-1))))]) .ret)) .skip)) (.seq (.seq (reg [op 13 (.move (.tmp 6))]) (.cond (.tmp 13) (.seq (reg [op 4 (.move (.const (I 1)))]) .ret) .skip)) (.seq (.seq (reg [op 14 (.move (.tmp 0)) 1, op 15 (.move (.tmp 1)) 1, op 16 (.binOp .lss 0 (.global 14) (.global 15) 0)]) (.cond (.tmp 16) (.seq (reg [op 4 (.move (.const (I (-1))))]) .ret) .skip)) (.seq (.seq (reg [op 17 (.move (.tmp 0)) 1, op 18 (.move (.tmp 1)) 1, op 19 (.binOp .gtr 0 (.global 17) (.global 18) 0)]) (.cond (.tmp 19) (.seq (reg [op 4 (.move (.const (I 1)))]) .ret) .skip)) (.seq (reg [op 4 (.move (.const (I 0)))]) .ret)))))))), [(4, 0)]⟩

def fn60 : AFun := ⟨1, (.seq (reg [op 2 (.move (.const (B false)))]) (.seq (reg [op 3 (.move (.tmp 0)) 1, op 4 (.move (.tmp 0)) 1, op 5 (.binOp .neq 0 (.global 3) (.global 4) 0) 1, op 2 (.move (.global 5))]) .ret)), [(2, 0)]⟩

def tab : Tab := [(252, fn252), (269, fn269), (329, fn329), (419, fn419), (139, fn139), (358, fn358), (97, fn97), (390, fn390), (356, fn356), (94, fn94), (121, fn121), (370, fn370), (412, fn412), (361, fn361), (106, fn106), (397, fn397), (374, fn374), (135, fn135), (425, fn425), (373, fn373), (386, fn386), (128, fn128), (132, fn132), (422, fn422), (431, fn431), (536, fn536), (540, fn540), (443, fn443), (140, fn140), (147, fn147), (90, fn90), (159, fn159), (161, fn161), (200, fn200), (149, fn149), (541, fn541), (452, fn452), (383, fn383), (476, fn476), (538, fn538), (539, fn539), (542, fn542), (544, fn544), (6, fn6), (7, fn7), (456, fn456), (130, fn130), (477, fn477), (150, fn150), (169, fn169), (170, fn170), (183, fn183), (122, fn122), (545, fn545), (537, fn537), (442, fn442), (546, fn546), (441, fn441), (413, fn413), (180, fn180), (191, fn191), (569, fn569), (568, fn568), (194, fn194), (566, fn566), (570, fn570), (312, fn312), (129, fn129), (177, fn177), (543, fn543), (8, fn8), (445, fn445), (4, fn4), (450, fn450), (198, fn198), (166, fn166), (196, fn196), (173, fn173), (70, fn70), (315, fn315), (160, fn160), (162, fn162), (306, fn306), (201, fn201), (153, fn153), (318, fn318), (457, fn457), (448, fn448), (432, fn432), (440, fn440), (438, fn438), (453, fn453), (474, fn474), (5, fn5), (436, fn436), (314, fn314), (479, fn479), (454, fn454), (475, fn475), (451, fn451), (308, fn308), (182, fn182), (189, fn189), (118, fn118), (174, fn174), (472, fn472), (499, fn499), (498, fn498), (468, fn468), (64, fn64), (571, fn571), (573, fn573), (181, fn181), (195, fn195), (572, fn572), (574, fn574), (164, fn164), (49, fn49), (172, fn172), (40, fn40), (38, fn38), (152, fn152), (309, fn309), (435, fn435), (478, fn478), (455, fn455), (75, fn75), (437, fn437), (470, fn470), (434, fn434), (439, fn439), (467, fn467), (59, fn59), (60, fn60)]
def Gam : Nat → Option AFun := look tab
theorem g252 : Gam 252 = some fn252 := rfl
theorem g269 : Gam 269 = some fn269 := rfl
theorem g329 : Gam 329 = some fn329 := rfl
theorem g419 : Gam 419 = some fn419 := rfl
theorem g139 : Gam 139 = some fn139 := rfl
theorem g358 : Gam 358 = some fn358 := rfl
theorem g97 : Gam 97 = some fn97 := rfl
theorem g390 : Gam 390 = some fn390 := rfl
theorem g356 : Gam 356 = some fn356 := rfl
theorem g94 : Gam 94 = some fn94 := rfl
theorem g121 : Gam 121 = some fn121 := rfl
theorem g370 : Gam 370 = some fn370 := rfl
theorem g412 : Gam 412 = some fn412 := rfl
theorem g361 : Gam 361 = some fn361 := rfl
theorem g106 : Gam 106 = some fn106 := rfl
theorem g397 : Gam 397 = some fn397 := rfl
theorem g374 : Gam 374 = some fn374 := rfl
theorem g135 : Gam 135 = some fn135 := rfl
theorem g425 : Gam 425 = some fn425 := rfl
theorem g373 : Gam 373 = some fn373 := rfl
theorem g386 : Gam 386 = some fn386 := rfl
theorem g128 : Gam 128 = some fn128 := rfl
theorem g132 : Gam 132 = some fn132 := rfl
theorem g422 : Gam 422 = some fn422 := rfl
theorem g431 : Gam 431 = some fn431 := rfl
theorem g536 : Gam 536 = some fn536 := rfl
theorem g540 : Gam 540 = some fn540 := rfl
theorem g443 : Gam 443 = some fn443 := rfl
theorem g140 : Gam 140 = some fn140 := rfl
theorem g147 : Gam 147 = some fn147 := rfl
theorem g90 : Gam 90 = some fn90 := rfl
theorem g159 : Gam 159 = some fn159 := rfl
theorem g161 : Gam 161 = some fn161 := rfl
theorem g200 : Gam 200 = some fn200 := rfl
theorem g149 : Gam 149 = some fn149 := rfl
theorem g541 : Gam 541 = some fn541 := rfl
theorem g452 : Gam 452 = some fn452 := rfl
theorem g383 : Gam 383 = some fn383 := rfl
theorem g476 : Gam 476 = some fn476 := rfl
theorem g538 : Gam 538 = some fn538 := rfl
theorem g539 : Gam 539 = some fn539 := rfl
theorem g542 : Gam 542 = some fn542 := rfl
theorem g544 : Gam 544 = some fn544 := rfl
theorem g6 : Gam 6 = some fn6 := rfl
theorem g7 : Gam 7 = some fn7 := rfl
theorem g456 : Gam 456 = some fn456 := rfl
theorem g130 : Gam 130 = some fn130 := rfl
theorem g477 : Gam 477 = some fn477 := rfl
theorem g150 : Gam 150 = some fn150 := rfl
theorem g169 : Gam 169 = some fn169 := rfl
theorem g170 : Gam 170 = some fn170 := rfl
theorem g183 : Gam 183 = some fn183 := rfl
theorem g122 : Gam 122 = some fn122 := rfl
theorem g545 : Gam 545 = some fn545 := rfl
theorem g537 : Gam 537 = some fn537 := rfl
theorem g442 : Gam 442 = some fn442 := rfl
theorem g546 : Gam 546 = some fn546 := rfl
theorem g441 : Gam 441 = some fn441 := rfl
theorem g413 : Gam 413 = some fn413 := rfl
theorem g180 : Gam 180 = some fn180 := rfl
theorem g191 : Gam 191 = some fn191 := rfl
theorem g569 : Gam 569 = some fn569 := rfl
theorem g568 : Gam 568 = some fn568 := rfl
theorem g194 : Gam 194 = some fn194 := rfl
theorem g566 : Gam 566 = some fn566 := rfl
theorem g570 : Gam 570 = some fn570 := rfl
theorem g312 : Gam 312 = some fn312 := rfl
theorem g129 : Gam 129 = some fn129 := rfl
theorem g177 : Gam 177 = some fn177 := rfl
theorem g543 : Gam 543 = some fn543 := rfl
theorem g8 : Gam 8 = some fn8 := rfl
theorem g445 : Gam 445 = some fn445 := rfl
theorem g4 : Gam 4 = some fn4 := rfl
theorem g450 : Gam 450 = some fn450 := rfl
theorem g198 : Gam 198 = some fn198 := rfl
theorem g166 : Gam 166 = some fn166 := rfl
theorem g196 : Gam 196 = some fn196 := rfl
theorem g173 : Gam 173 = some fn173 := rfl
theorem g70 : Gam 70 = some fn70 := rfl
theorem g315 : Gam 315 = some fn315 := rfl
theorem g160 : Gam 160 = some fn160 := rfl
theorem g162 : Gam 162 = some fn162 := rfl
theorem g306 : Gam 306 = some fn306 := rfl
theorem g201 : Gam 201 = some fn201 := rfl
theorem g153 : Gam 153 = some fn153 := rfl
theorem g318 : Gam 318 = some fn318 := rfl
theorem g457 : Gam 457 = some fn457 := rfl
theorem g448 : Gam 448 = some fn448 := rfl
theorem g432 : Gam 432 = some fn432 := rfl
theorem g440 : Gam 440 = some fn440 := rfl
theorem g438 : Gam 438 = some fn438 := rfl
theorem g453 : Gam 453 = some fn453 := rfl
theorem g474 : Gam 474 = some fn474 := rfl
theorem g5 : Gam 5 = some fn5 := rfl
theorem g436 : Gam 436 = some fn436 := rfl
theorem g314 : Gam 314 = some fn314 := rfl
theorem g479 : Gam 479 = some fn479 := rfl
theorem g454 : Gam 454 = some fn454 := rfl
theorem g475 : Gam 475 = some fn475 := rfl
theorem g451 : Gam 451 = some fn451 := rfl
theorem g308 : Gam 308 = some fn308 := rfl
theorem g182 : Gam 182 = some fn182 := rfl
theorem g189 : Gam 189 = some fn189 := rfl
theorem g118 : Gam 118 = some fn118 := rfl
theorem g174 : Gam 174 = some fn174 := rfl
theorem g472 : Gam 472 = some fn472 := rfl
theorem g499 : Gam 499 = some fn499 := rfl
theorem g498 : Gam 498 = some fn498 := rfl
theorem g468 : Gam 468 = some fn468 := rfl
theorem g64 : Gam 64 = some fn64 := rfl
theorem g571 : Gam 571 = some fn571 := rfl
theorem g573 : Gam 573 = some fn573 := rfl
theorem g181 : Gam 181 = some fn181 := rfl
theorem g195 : Gam 195 = some fn195 := rfl
theorem g572 : Gam 572 = some fn572 := rfl
theorem g574 : Gam 574 = some fn574 := rfl
theorem g164 : Gam 164 = some fn164 := rfl
theorem g49 : Gam 49 = some fn49 := rfl
theorem g172 : Gam 172 = some fn172 := rfl
theorem g40 : Gam 40 = some fn40 := rfl
theorem g38 : Gam 38 = some fn38 := rfl
theorem g152 : Gam 152 = some fn152 := rfl
theorem g309 : Gam 309 = some fn309 := rfl
theorem g435 : Gam 435 = some fn435 := rfl
theorem g478 : Gam 478 = some fn478 := rfl
theorem g455 : Gam 455 = some fn455 := rfl
theorem g75 : Gam 75 = some fn75 := rfl
theorem g437 : Gam 437 = some fn437 := rfl
theorem g470 : Gam 470 = some fn470 := rfl
theorem g434 : Gam 434 = some fn434 := rfl
theorem g439 : Gam 439 = some fn439 := rfl
theorem g467 : Gam 467 = some fn467 := rfl
theorem g59 : Gam 59 = some fn59 := rfl
theorem g60 : Gam 60 = some fn60 := rfl
end Am
