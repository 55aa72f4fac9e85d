/- The functions that are reached, in their normal form; written by a program. -/
import Derived.Test.YtaeaaogpdipjfaaAmTab1
set_option linter.unusedVariables false
set_option maxRecDepth 100000
namespace Am
open Go
/-- impl.RowsOf -/
def fn125 : AFun := ⟨2,
(.seq (reg [op 4 (.move (.const (sl 0 0 0 0))),
  op 5 (.move (.const (I 0)))])
(.seq (.seq (reg [op 12 (.move (.tmp 0)) 1,
  op 13 (.move (.tmp 1)) 1,
  op 14 (call (.func 142) #[(.global 12), (.global 13)]) 1,
  op 15 (.unOp .not 0 (.global 14))])
(.cond (.tmp 15)
  (.seq (reg [op 4 (.move (.const (sl 0 0 0 0))),
    op 5 (.move (.const (I 1)))])
  .ret)
  .skip))
(.seq (reg [op 16 (.move (.const (sl 0 0 0 1))) 1,
  op 17 (.move (.tmp 0)) 1,
  op 18 (.mapUpdate 1 (.global 17) (.global 17) (.const (.agg #[(I 0)]))) 1,
  op 6 (.move (.global 16)),
  op 7 (.move (.global 18))])
(.seq (.seq (reg [op 19 (.move (.tmp 1)),
  op 20 (bi .len #[(.tmp 19)] 1),
  op 21 (.move (.const (I 0)))])
(.block 0
  (.loop
    (.seq (reg [op 22 (.binOp .lss 0 (.tmp 21) (.tmp 20) 0)])
    (.seq (.cond (.tmp 22)
      .skip
      (.exit 0))
    (.seq (.block 1
      (.seq (reg [op 23 (.indexAddr 3 (.tmp 19) (.tmp 21)) 1,
        op 24 (.load 0 (.global 23)) 1,
        op 9 (.move (.global 24))])
      (.seq (reg [op 25 (.move (.tmp 9)) 1,
        op 26 (call (.func 185) #[(.global 25)]) 1,
        op 10 (.move (.global 26))])
      (.seq (reg [op 27 (.move (.tmp 7)) 1,
        op 28 (.move (.tmp 10)) 1,
        op 29 (.binOp .sub 0 (.global 28) (.const (I 1)) 0) 1,
        op 30 (.indexAddr 3 (.global 27) (.global 29)) 1,
        op 31 (.load 0 (.global 30)) 1,
        op 32 (.move (.tmp 7)) 1,
        op 33 (.move (.tmp 10)) 1,
        op 34 (.indexAddr 3 (.global 32) (.global 33)) 1,
        op 35 (.load 0 (.global 34)) 1,
        op 36 (bi .max #[(.global 31), (.global 35)] 0) 1,
        op 11 (.move (.global 36))])
      (.seq (.seq (reg [op 37 (.move (.tmp 11)) 1,
        op 38 (.move (.tmp 6)) 1,
        op 39 (bi .len #[(.global 38)] 1) 1,
        op 40 (.binOp .eql 0 (.global 37) (.global 39) 0)])
      (.cond (.tmp 40)
        (reg [op 41 (.move (.tmp 6)) 1,
          op 42 (.buildSlice 1 1 #[(0, (.const (.agg #[(sl 0 0 0 0)]))), (1, (.const (sl 0 0 0 0)))]) 1,
          op 43 (bi .append #[(.global 41), (.global 42)] 1) 1,
          op 6 (.move (.global 43))])
        .skip))
      (.seq (reg [op 44 (.move (.tmp 6)) 1,
        op 45 (.move (.tmp 11)) 1,
        op 46 (.move (.tmp 6)) 1,
        op 47 (.move (.tmp 11)) 1,
        op 48 (.indexAddr 3 (.global 46) (.global 47)) 1,
        op 49 (.load 0 (.global 48)) 1,
        op 50 (.move (.tmp 9)) 1,
        op 51 (.buildSlice 1 1 #[(0, (.const (.agg #[(I 0)]))), (1, (.global 50))]) 1,
        op 52 (bi .append #[(.global 49), (.global 51)] 1) 1,
        op 53 (.indexAddr 3 (.global 44) (.global 45)) 1,
        opn (.store 1 (.global 53) (.global 52))])
      (reg [op 54 (.move (.tmp 7)) 1,
        op 55 (.move (.tmp 10)) 1,
        op 56 (.binOp .sub 0 (.global 55) (.const (I 1)) 0) 1,
        op 57 (.move (.tmp 7)) 1,
        op 58 (.move (.tmp 10)) 1,
        op 59 (.move (.tmp 11)) 1,
        op 60 (.binOp .add 0 (.global 59) (.const (I 1)) 0) 1,
        op 61 (.move (.tmp 11)) 1,
        op 62 (.binOp .add 0 (.global 61) (.const (I 1)) 0) 1,
        op 63 (.indexAddr 3 (.global 54) (.global 56)) 1,
        opn (.store 1 (.global 63) (.global 60)),
        op 64 (.indexAddr 3 (.global 57) (.global 58)) 1,
        opn (.store 1 (.global 64) (.global 62))])))))))
    (reg [op 65 (.binOp .add 0 (.tmp 21) (.const (I 1)) 0) 1,
      op 21 (.move (.global 65))])))))))
(.seq (reg [op 66 (.move (.tmp 6)) 1,
  op 4 (.move (.global 66)),
  op 5 (.move (.const (I 0)))])
.ret))))), [(4, 0), (5, 0)]⟩

/-- spec.RowsOf -/
def fn416 : AFun := ⟨2,
(.seq (reg [op 4 (.move (.const (sl 0 0 0 0))),
  op 5 (.move (.const (I 0)))])
(.seq (.seq (reg [op 11 (.move (.tmp 0)) 1,
  op 12 (.move (.tmp 1)) 1,
  op 13 (call (.func 531) #[(.global 11), (.global 12)]) 1,
  op 14 (.unOp .not 0 (.global 13))])
(.cond (.tmp 14)
  (.seq (reg [op 4 (.move (.const (sl 0 0 0 0))),
    op 5 (.move (.const (I 1)))])
  .ret)
  .skip))
(.seq (reg [op 15 (.move (.tmp 0)) 1,
  op 16 (.mapUpdate 1 (.global 15) (.global 15) (.const (.agg #[(I 0)]))) 1,
  op 6 (.move (.global 16))])
(.seq (reg [op 17 (.move (.const (sl 0 0 0 1))) 1,
  op 7 (.move (.global 17))])
(.seq (.seq (reg [op 8 (.move (.const (I 0)))])
(.block 0
  (.loop
    (.seq (.seq (reg [op 18 (.move (.tmp 8)) 1,
      op 19 (.move (.tmp 1)) 1,
      op 20 (bi .len #[(.global 19)] 1) 1,
      op 21 (.binOp .lss 0 (.global 18) (.global 20) 0)])
    (.cond (.tmp 21)
      .skip
      (.exit 0)))
    (.seq (.block 1
      (.seq (reg [op 24 (.move (.tmp 1)) 1,
        op 25 (.move (.tmp 8)) 1,
        op 26 (.indexAddr 3 (.global 24) (.global 25)) 1,
        op 27 (.load 0 (.global 26)) 1,
        op 28 (call (.func 512) #[(.global 27)]) 1,
        op 9 (.move (.global 28))])
      (.seq (reg [op 29 (.move (.tmp 6)) 1,
        op 30 (.move (.tmp 9)) 1,
        op 31 (.binOp .sub 0 (.global 30) (.const (I 1)) 0) 1,
        op 32 (.indexAddr 3 (.global 29) (.global 31)) 1,
        op 33 (.load 0 (.global 32)) 1,
        op 34 (.move (.tmp 6)) 1,
        op 35 (.move (.tmp 9)) 1,
        op 36 (.indexAddr 3 (.global 34) (.global 35)) 1,
        op 37 (.load 0 (.global 36)) 1,
        op 38 (call (.func 433) #[(.global 33), (.global 37)]) 1,
        op 10 (.move (.global 38))])
      (.seq (reg [op 39 (.move (.tmp 6)) 1,
        op 40 (.move (.tmp 9)) 1,
        op 41 (.binOp .sub 0 (.global 40) (.const (I 1)) 0) 1,
        op 42 (.move (.tmp 10)) 1,
        op 43 (.binOp .add 0 (.global 42) (.const (I 1)) 0) 1,
        op 44 (.indexAddr 3 (.global 39) (.global 41)) 1,
        opn (.store 1 (.global 44) (.global 43))])
      (.seq (reg [op 45 (.move (.tmp 6)) 1,
        op 46 (.move (.tmp 9)) 1,
        op 47 (.move (.tmp 10)) 1,
        op 48 (.binOp .add 0 (.global 47) (.const (I 1)) 0) 1,
        op 49 (.indexAddr 3 (.global 45) (.global 46)) 1,
        opn (.store 1 (.global 49) (.global 48))])
      (.seq (.seq (reg [op 50 (.move (.tmp 10)) 1,
        op 51 (.move (.tmp 7)) 1,
        op 52 (bi .len #[(.global 51)] 1) 1,
        op 53 (.binOp .eql 0 (.global 50) (.global 52) 0)])
      (.cond (.tmp 53)
        (reg [op 54 (.move (.tmp 7)) 1,
          op 55 (.move (.const (sl 0 0 0 1))) 1,
          op 56 (.buildSlice 1 1 #[(0, (.const (.agg #[(sl 0 0 0 0)]))), (1, (.global 55))]) 1,
          op 57 (bi .append #[(.global 54), (.global 56)] 1) 1,
          op 7 (.move (.global 57))])
        .skip))
      (reg [op 58 (.move (.tmp 7)) 1,
        op 59 (.move (.tmp 10)) 1,
        op 60 (.move (.tmp 7)) 1,
        op 61 (.move (.tmp 10)) 1,
        op 62 (.indexAddr 3 (.global 60) (.global 61)) 1,
        op 63 (.load 0 (.global 62)) 1,
        op 64 (.move (.tmp 1)) 1,
        op 65 (.move (.tmp 8)) 1,
        op 66 (.indexAddr 3 (.global 64) (.global 65)) 1,
        op 67 (.load 0 (.global 66)) 1,
        op 68 (.buildSlice 1 1 #[(0, (.const (.agg #[(I 0)]))), (1, (.global 67))]) 1,
        op 69 (bi .append #[(.global 63), (.global 68)] 1) 1,
        op 70 (.indexAddr 3 (.global 58) (.global 59)) 1,
        opn (.store 1 (.global 70) (.global 69))])))))))
    (reg [op 22 (.move (.tmp 8)) 1,
      op 23 (.binOp .add 0 (.global 22) (.const (I 1)) 0) 1,
      op 8 (.move (.global 23))]))))))
(.seq (reg [op 71 (.move (.tmp 7)) 1,
  op 4 (.move (.global 71)),
  op 5 (.move (.const (I 0)))])
.ret)))))), [(4, 0), (5, 0)]⟩

/-- spec.DrawClosedStrands -/
def fn351 : AFun := ⟨1,
(.seq (reg [op 2 (.move (.const (I 0))),
  op 3 (.move (.const (sl 0 0 0 0)))])
(.seq (reg [op 4 (.move (.tmp 0)) 1,
  op 5 (call (.func 528) #[(.global 4)]) 1,
  op 6 (.extract (.global 5) 0) 1,
  op 7 (.extract (.global 5) 1) 1,
  op 2 (.move (.global 6)),
  op 3 (.move (.global 7))])
.ret)), [(2, 0), (3, 0)]⟩

/-- impl.ClosedStrands -/
def fn66 : AFun := ⟨2,
(.seq (reg [op 4 (.move (.const (sl 0 0 0 0))),
  op 5 (.move (.const (I 0)))])
(.seq (reg [op 14 (.move (.tmp 0)) 1,
  op 15 (.move (.tmp 1)) 1,
  op 16 (call (.func 104) #[(.global 14), (.global 15)]) 1,
  op 13 (.move (.global 16)) 1,
  op 17 (.extract (.global 13) 0) 1,
  op 18 (.extract (.global 13) 1) 1,
  op 6 (.move (.global 17)),
  op 7 (.move (.global 18))])
(.seq (.seq (reg [op 19 (.move (.tmp 7)) 1,
  op 20 (.binOp .neq 0 (.global 19) (.const (I 0)) 0)])
(.cond (.tmp 20)
  (.seq (reg [op 21 (.move (.tmp 7)) 1,
    op 4 (.move (.const (sl 0 0 0 0))),
    op 5 (.move (.global 21))])
  .ret)
  .skip))
(.seq (reg [op 22 (.move (.const (sl 0 0 0 1))) 1,
  op 23 (.move (.tmp 0)) 1,
  op 24 (.mapUpdate 1 (.global 23) (.global 23) (.const (.agg #[(B false)]))) 1,
  op 8 (.move (.global 22)),
  op 9 (.move (.global 24))])
(.seq (.seq (reg [op 25 (.move (.tmp 0)),
  op 26 (.move (.const (I 0)))])
(.block 0
  (.loop
    (.seq (reg [op 27 (.binOp .lss 0 (.tmp 26) (.tmp 25) 0)])
    (.seq (.cond (.tmp 27)
      .skip
      (.exit 0))
    (.seq (.block 1
      (.seq (reg [op 28 (.move (.tmp 26)) 1,
        op 10 (.move (.global 28))])
      (.seq (.seq (reg [op 29 (.move (.tmp 9)) 1,
        op 30 (.move (.tmp 10)) 1,
        op 31 (.indexAddr 3 (.global 29) (.global 30)) 1,
        op 32 (.load 0 (.global 31))])
      (.cond (.tmp 32)
        (.exit 1)
        .skip))
      (.seq (reg [op 33 (.move (.const (sl 0 0 0 1))) 1,
        op 11 (.move (.global 33))])
      (.seq (.seq (reg [op 34 (.move (.tmp 10)) 1,
        op 12 (.move (.global 34))])
      (.block 2
        (.loop
          (.seq (.seq (reg [op 35 (.move (.tmp 9)) 1,
            op 36 (.move (.tmp 12)) 1,
            op 37 (.indexAddr 3 (.global 35) (.global 36)) 1,
            op 38 (.load 0 (.global 37)) 1,
            op 39 (.unOp .not 0 (.global 38))])
          (.cond (.tmp 39)
            .skip
            (.exit 2)))
          (.seq (.block 3
            (.seq (reg [op 43 (.move (.tmp 9)) 1,
              op 44 (.move (.tmp 12)) 1,
              op 45 (.indexAddr 3 (.global 43) (.global 44)) 1,
              opn (.store 1 (.global 45) (.const (B true)))])
            (reg [op 46 (.move (.tmp 11)) 1,
              op 47 (.move (.tmp 12)) 1,
              op 48 (.buildSlice 1 1 #[(0, (.const (.agg #[(I 0)]))), (1, (.global 47))]) 1,
              op 49 (bi .append #[(.global 46), (.global 48)] 1) 1,
              op 11 (.move (.global 49))])))
          (reg [op 40 (.move (.tmp 6)) 1,
            op 41 (.move (.tmp 12)) 1,
            op 42 (call (.func 316) #[(.global 40), (.global 41)]) 1,
            op 12 (.move (.global 42))]))))))
      (reg [op 50 (.move (.tmp 8)) 1,
        op 51 (.move (.tmp 11)) 1,
        op 52 (.buildSlice 1 1 #[(0, (.const (.agg #[(sl 0 0 0 0)]))), (1, (.global 51))]) 1,
        op 53 (bi .append #[(.global 50), (.global 52)] 1) 1,
        op 8 (.move (.global 53))]))))))
    (reg [op 54 (.binOp .add 0 (.tmp 26) (.const (I 1)) 0) 1,
      op 26 (.move (.global 54))])))))))
(.seq (reg [op 55 (.move (.tmp 8)) 1,
  op 4 (.move (.global 55)),
  op 5 (.move (.const (I 0)))])
.ret)))))), [(4, 0), (5, 0)]⟩

/-- spec.ClosedStrands -/
def fn335 : AFun := ⟨2,
(.seq (reg [op 4 (.move (.const (sl 0 0 0 0))),
  op 5 (.move (.const (I 0)))])
(.seq (.seq (reg [op 12 (.move (.tmp 0)) 1,
  op 13 (.move (.tmp 1)) 1,
  op 14 (call (.func 531) #[(.global 12), (.global 13)]) 1,
  op 15 (.unOp .not 0 (.global 14))])
(.cond (.tmp 15)
  (.seq (reg [op 4 (.move (.const (sl 0 0 0 0))),
    op 5 (.move (.const (I 1)))])
  .ret)
  .skip))
(.seq (reg [op 16 (.move (.tmp 0)) 1,
  op 17 (.move (.tmp 1)) 1,
  op 18 (call (.func 532) #[(.global 16), (.global 17)]) 1,
  op 6 (.move (.global 18))])
(.seq (reg [op 19 (.move (.tmp 0)) 1,
  op 20 (.mapUpdate 1 (.global 19) (.global 19) (.const (.agg #[(B false)]))) 1,
  op 7 (.move (.global 20))])
(.seq (reg [op 21 (.move (.const (sl 0 0 0 1))) 1,
  op 8 (.move (.global 21))])
(.seq (.seq (reg [op 9 (.move (.const (I 0)))])
(.block 0
  (.loop
    (.seq (.seq (reg [op 22 (.move (.tmp 9)) 1,
      op 23 (.move (.tmp 0)) 1,
      op 24 (.binOp .lss 0 (.global 22) (.global 23) 0)])
    (.cond (.tmp 24)
      .skip
      (.exit 0)))
    (.seq (.block 1
      (.seq (reg [op 27 (.move (.const (sl 0 0 0 1))) 1,
        op 10 (.move (.global 27))])
      (.seq (.seq (reg [op 28 (.move (.tmp 9)) 1,
        op 11 (.move (.global 28))])
      (.block 2
        (.loop
          (.seq (.seq (reg [op 29 (.move (.tmp 7)) 1,
            op 30 (.move (.tmp 11)) 1,
            op 31 (.indexAddr 3 (.global 29) (.global 30)) 1,
            op 32 (.load 0 (.global 31)) 1,
            op 33 (.unOp .not 0 (.global 32))])
          (.cond (.tmp 33)
            .skip
            (.exit 2)))
          (.seq (.block 3
            (.seq (reg [op 37 (.move (.tmp 7)) 1,
              op 38 (.move (.tmp 11)) 1,
              op 39 (.indexAddr 3 (.global 37) (.global 38)) 1,
              opn (.store 1 (.global 39) (.const (B true)))])
            (reg [op 40 (.move (.tmp 10)) 1,
              op 41 (.move (.tmp 11)) 1,
              op 42 (.buildSlice 1 1 #[(0, (.const (.agg #[(I 0)]))), (1, (.global 41))]) 1,
              op 43 (bi .append #[(.global 40), (.global 42)] 1) 1,
              op 10 (.move (.global 43))])))
          (reg [op 34 (.move (.tmp 6)) 1,
            op 35 (.move (.tmp 11)) 1,
            op 36 (call (.func 533) #[(.global 34), (.global 35)]) 1,
            op 11 (.move (.global 36))]))))))
      (.seq (reg [op 44 (.move (.tmp 10)) 1,
        op 45 (bi .len #[(.global 44)] 1) 1,
        op 46 (.binOp .gtr 0 (.global 45) (.const (I 0)) 0)])
      (.cond (.tmp 46)
        (reg [op 47 (.move (.tmp 8)) 1,
          op 48 (.move (.tmp 10)) 1,
          op 49 (.buildSlice 1 1 #[(0, (.const (.agg #[(sl 0 0 0 0)]))), (1, (.global 48))]) 1,
          op 50 (bi .append #[(.global 47), (.global 49)] 1) 1,
          op 8 (.move (.global 50))])
        .skip)))))
    (reg [op 25 (.move (.tmp 9)) 1,
      op 26 (.binOp .add 0 (.global 25) (.const (I 1)) 0) 1,
      op 9 (.move (.global 26))]))))))
(.seq (reg [op 51 (.move (.tmp 8)) 1,
  op 4 (.move (.global 51)),
  op 5 (.move (.const (I 0)))])
.ret))))))), [(4, 0), (5, 0)]⟩

/-- spec.DrawPlainPlait -/
def fn366 : AFun := ⟨1,
(.seq (reg [op 2 (.move (.const (I 0))),
  op 3 (.move (.const (I 0)))])
(.seq (reg [op 6 (.move (.tmp 0)) 1,
  op 7 (call (.func 431) #[(.global 6)]) 1,
  op 4 (.move (.global 7))])
(.seq (.seq (reg [op 8 (.move (.tmp 4)) 1,
  op 9 (call (.func 6) #[(.global 8), (.const (I 10))])])
(.cond (.tmp 9)
  (.seq (reg [op 10 (.move (.tmp 4)) 1,
    op 11 (.buildSlice 1 4 #[(0, (.const (.agg #[(I 0), (I 0), (I 0), (I 0)]))), (1, (.const (I 1))), (1001, (.const (I 2))), (2001, (.const (I 12))), (3001, (.const (I 13)))]) 1,
    op 12 (call (.func 4) #[(.global 10), (.global 11)]) 1,
    op 13 (.move (.tmp 4)) 1,
    op 14 (.buildSlice 1 5 #[(0, (.const (.agg #[(I 0), (I 0), (I 0), (I 0), (I 0)]))), (1, (.const (I (-1)))), (1001, (.const (I 0))), (2001, (.const (I 40))), (3001, (.const (I 200))), (4001, (.const (I 201)))]) 1,
    op 15 (call (.func 4) #[(.global 13), (.global 14)]) 1,
    op 2 (.move (.global 12)),
    op 3 (.move (.global 15))])
  .ret)
  .skip))
(.seq (reg [op 16 (.move (.tmp 4)) 1,
  op 17 (call (.func 7) #[(.global 16), (.const (I 7))]) 1,
  op 18 (.binOp .add 0 (.const (I 2)) (.global 17) 0) 1,
  op 5 (.move (.global 18))])
(.seq (reg [op 19 (.move (.tmp 5)) 1,
  op 20 (.move (.tmp 4)) 1,
  op 21 (call (.func 7) #[(.global 20), (.const (I 12))]) 1,
  op 2 (.move (.global 19)),
  op 3 (.move (.global 21))])
.ret))))), [(2, 0), (3, 0)]⟩

/-- impl.PlainPlait -/
def fn115 : AFun := ⟨2,
(.seq (reg [op 4 (.move (.const (sl 0 0 0 0))),
  op 5 (.move (.const (I 0)))])
(.seq (.seq (reg [op 9 (.move (.tmp 0)) 1,
  op 10 (call (.func 164) #[(.global 9), (.const (I 2)), (.const (I 12))]) 1,
  op 11 (.unOp .not 0 (.global 10)) 1,
  op 12 (.move (.global 11)) 1,
  op 13 (.move (.tmp 1)) 1 (some (49, false)),
  op 14 (call (.func 164) #[(.global 13), (.const (I 0)), (.const (I 200))]) 1 (some (49, false)),
  op 15 (.unOp .not 0 (.global 14)) 1 (some (49, false)),
  op 16 (.pick (.global 12) (.const (B true)) (.global 15))])
(.cond (.tmp 16)
  (.seq (reg [op 4 (.move (.const (sl 0 0 0 0))),
    op 5 (.move (.const (I 2)))])
  .ret)
  .skip))
(.seq (reg [op 17 (.move (.const (sl 0 0 0 1))) 1,
  op 6 (.move (.global 17))])
(.seq (.seq (reg [op 18 (.move (.tmp 1)),
  op 19 (.move (.const (I 0)))])
(.block 0
  (.loop
    (.seq (reg [op 20 (.binOp .lss 0 (.tmp 19) (.tmp 18) 0)])
    (.seq (.cond (.tmp 20)
      .skip
      (.exit 0))
    (.seq (.block 1
      (.seq (reg [op 21 (.move (.tmp 19)) 1,
        op 7 (.move (.global 21))])
      (.seq (reg [op 22 (.move (.tmp 7)) 1,
        op 23 (.binOp .rem 0 (.global 22) (.const (I 2)) 0) 1,
        op 24 (.binOp .add 0 (.const (I 1)) (.global 23) 0) 1,
        op 8 (.move (.global 24))])
      (.block 2
        (.loop
          (.seq (.seq (reg [op 25 (.move (.tmp 8)) 1,
            op 26 (.move (.tmp 0)) 1,
            op 27 (.binOp .lss 0 (.global 25) (.global 26) 0)])
          (.cond (.tmp 27)
            .skip
            (.exit 2)))
          (.seq (.block 3
            (.seq (reg [op 30 (.move (.tmp 7)) 1,
              op 31 (.binOp .rem 0 (.global 30) (.const (I 2)) 0) 1,
              op 32 (.binOp .eql 0 (.global 31) (.const (I 0)) 0)])
            (.cond (.tmp 32)
              (reg [op 33 (.move (.tmp 6)) 1,
                op 34 (.move (.tmp 8)) 1,
                op 35 (.buildSlice 1 1 #[(0, (.const (.agg #[(I 0)]))), (1, (.global 34))]) 1,
                op 36 (bi .append #[(.global 33), (.global 35)] 1) 1,
                op 6 (.move (.global 36))])
              (reg [op 37 (.move (.tmp 6)) 1,
                op 38 (.move (.tmp 8)) 1,
                op 39 (.unOp .neg 0 (.global 38)) 1,
                op 40 (.buildSlice 1 1 #[(0, (.const (.agg #[(I 0)]))), (1, (.global 39))]) 1,
                op 41 (bi .append #[(.global 37), (.global 40)] 1) 1,
                op 6 (.move (.global 41))]))))
          (reg [op 28 (.move (.tmp 8)) 1,
            op 29 (.binOp .add 0 (.global 28) (.const (I 2)) 0) 1,
            op 8 (.move (.global 29))]))))))))
    (reg [op 42 (.binOp .add 0 (.tmp 19) (.const (I 1)) 0) 1,
      op 19 (.move (.global 42))])))))))
(.seq (.seq (reg [op 43 (.move (.tmp 6)) 1,
  op 44 (bi .len #[(.global 43)] 1) 1,
  op 45 (.binOp .gtr 0 (.global 44) (.const (I 200)) 0)])
(.cond (.tmp 45)
  (.seq (reg [op 4 (.move (.const (sl 0 0 0 0))),
    op 5 (.move (.const (I 5)))])
  .ret)
  .skip))
(.seq (reg [op 46 (.move (.tmp 6)) 1,
  op 4 (.move (.global 46)),
  op 5 (.move (.const (I 0)))])
.ret)))))), [(4, 0), (5, 0)]⟩

/-- spec.PlainPlait -/
def fn407 : AFun := ⟨2,
(.seq (reg [op 4 (.move (.const (sl 0 0 0 0))),
  op 5 (.move (.const (I 0)))])
(.seq (.seq (reg [op 9 (.move (.tmp 0)) 1,
  op 10 (call (.func 432) #[(.global 9), (.const (I 2)), (.const (I 12))]) 1,
  op 11 (.unOp .not 0 (.global 10)) 1,
  op 12 (.move (.global 11)) 1,
  op 13 (.move (.tmp 1)) 1 (some (49, false)),
  op 14 (call (.func 432) #[(.global 13), (.const (I 0)), (.const (I 200))]) 1 (some (49, false)),
  op 15 (.unOp .not 0 (.global 14)) 1 (some (49, false)),
  op 16 (.pick (.global 12) (.const (B true)) (.global 15))])
(.cond (.tmp 16)
  (.seq (reg [op 4 (.move (.const (sl 0 0 0 0))),
    op 5 (.move (.const (I 2)))])
  .ret)
  .skip))
(.seq (reg [op 17 (.move (.const (sl 0 0 0 1))) 1,
  op 6 (.move (.global 17))])
(.seq (.seq (reg [op 7 (.move (.const (I 0)))])
(.block 0
  (.loop
    (.seq (.seq (reg [op 18 (.move (.tmp 7)) 1,
      op 19 (.move (.tmp 1)) 1,
      op 20 (.binOp .lss 0 (.global 18) (.global 19) 0)])
    (.cond (.tmp 20)
      .skip
      (.exit 0)))
    (.seq (.block 1
      (.seq (reg [op 23 (.move (.tmp 7)) 1,
        op 24 (.binOp .rem 0 (.global 23) (.const (I 2)) 0) 1,
        op 25 (.binOp .add 0 (.const (I 1)) (.global 24) 0) 1,
        op 8 (.move (.global 25))])
      (.block 2
        (.loop
          (.seq (.seq (reg [op 26 (.move (.tmp 8)) 1,
            op 27 (.move (.tmp 0)) 1,
            op 28 (.binOp .lss 0 (.global 26) (.global 27) 0)])
          (.cond (.tmp 28)
            .skip
            (.exit 2)))
          (.seq (.block 3
            (.seq (reg [op 31 (.move (.tmp 7)) 1,
              op 32 (.binOp .rem 0 (.global 31) (.const (I 2)) 0) 1,
              op 33 (.binOp .eql 0 (.global 32) (.const (I 0)) 0)])
            (.cond (.tmp 33)
              (reg [op 34 (.move (.tmp 6)) 1,
                op 35 (.move (.tmp 8)) 1,
                op 36 (.buildSlice 1 1 #[(0, (.const (.agg #[(I 0)]))), (1, (.global 35))]) 1,
                op 37 (bi .append #[(.global 34), (.global 36)] 1) 1,
                op 6 (.move (.global 37))])
              (reg [op 38 (.move (.tmp 6)) 1,
                op 39 (.move (.tmp 8)) 1,
                op 40 (.unOp .neg 0 (.global 39)) 1,
                op 41 (.buildSlice 1 1 #[(0, (.const (.agg #[(I 0)]))), (1, (.global 40))]) 1,
                op 42 (bi .append #[(.global 38), (.global 41)] 1) 1,
                op 6 (.move (.global 42))]))))
          (reg [op 29 (.move (.tmp 8)) 1,
            op 30 (.binOp .add 0 (.global 29) (.const (I 2)) 0) 1,
            op 8 (.move (.global 30))])))))))
    (reg [op 21 (.move (.tmp 7)) 1,
      op 22 (.binOp .add 0 (.global 21) (.const (I 1)) 0) 1,
      op 7 (.move (.global 22))]))))))
(.seq (.seq (reg [op 43 (.move (.tmp 6)) 1,
  op 44 (bi .len #[(.global 43)] 1) 1,
  op 45 (.binOp .gtr 0 (.global 44) (.const (I 200)) 0)])
(.cond (.tmp 45)
  (.seq (reg [op 4 (.move (.const (sl 0 0 0 0))),
    op 5 (.move (.const (I 5)))])
  .ret)
  .skip))
(.seq (reg [op 46 (.move (.tmp 6)) 1,
  op 4 (.move (.global 46)),
  op 5 (.move (.const (I 0)))])
.ret)))))), [(4, 0), (5, 0)]⟩

/-- spec.DrawPlaitPicture -/
def fn367 : AFun := ⟨1,
(.seq (reg [op 2 (.move (.const (I 0))),
  op 3 (.move (.const (sl 0 0 0 0)))])
(.seq (reg [op 4 (.move (.tmp 0)) 1,
  op 5 (call (.func 528) #[(.global 4)]) 1,
  op 6 (.extract (.global 5) 0) 1,
  op 7 (.extract (.global 5) 1) 1,
  op 2 (.move (.global 6)),
  op 3 (.move (.global 7))])
.ret)), [(2, 0), (3, 0)]⟩

/-- impl.PlaitPicture -/
def fn116 : AFun := ⟨2,
(.seq (reg [op 4 (.move (.const (sl 0 0 0 0))),
  op 5 (.move (.const (I 0)))])
(.seq (.seq (reg [op 13 (.move (.tmp 0)) 1,
  op 14 (.move (.tmp 1)) 1,
  op 15 (call (.func 142) #[(.global 13), (.global 14)]) 1,
  op 16 (.unOp .not 0 (.global 15))])
(.cond (.tmp 16)
  (.seq (reg [op 4 (.move (.const (sl 0 0 0 0))),
    op 5 (.move (.const (I 1)))])
  .ret)
  .skip))
(.seq (reg [op 17 (.move (.const (sl 0 0 0 1))) 1,
  op 6 (.move (.global 17))])
(.seq (.seq (reg [op 18 (.move (.tmp 1)),
  op 19 (bi .len #[(.tmp 18)] 1),
  op 20 (.move (.const (I 0)))])
(.block 0
  (.loop
    (.seq (reg [op 21 (.binOp .lss 0 (.tmp 20) (.tmp 19) 0)])
    (.seq (.cond (.tmp 21)
      .skip
      (.exit 0))
    (.seq (.block 1
      (.seq (reg [op 22 (.indexAddr 3 (.tmp 18) (.tmp 20)) 1,
        op 23 (.load 0 (.global 22)) 1,
        op 8 (.move (.global 23))])
      (.seq (reg [op 24 (.move (.const (sl 0 0 0 1))) 1,
        op 9 (.move (.global 24))])
      (.seq (.seq (reg [op 25 (.move (.tmp 0)),
        op 26 (.move (.const (I 0)))])
      (.block 2
        (.loop
          (.seq (reg [op 27 (.binOp .lss 0 (.tmp 26) (.tmp 25) 0)])
          (.seq (.cond (.tmp 27)
            .skip
            (.exit 2))
          (.seq (.block 3
            (.seq (reg [op 28 (.move (.tmp 26)) 1,
              op 10 (.move (.global 28))])
            (.seq (.seq (reg [op 29 (.move (.tmp 10)) 1,
              op 30 (.binOp .gtr 0 (.global 29) (.const (I 0)) 0)])
            (.cond (.tmp 30)
              (reg [op 31 (.move (.tmp 9)) 1,
                op 32 (.buildSlice 1 1 #[(0, (.const (.agg #[(U 0)]))), (1, (.const (U 32)))]) 1,
                op 33 (bi .append #[(.global 31), (.global 32)] 1) 1,
                op 9 (.move (.global 33))])
              .skip))
            (reg [op 34 (.move (.tmp 9)) 1,
              op 35 (.buildSlice 1 1 #[(0, (.const (.agg #[(U 0)]))), (1, (.const (U 124)))]) 1,
              op 36 (bi .append #[(.global 34), (.global 35)] 1) 1,
              op 9 (.move (.global 36))]))))
          (reg [op 37 (.binOp .add 0 (.tmp 26) (.const (I 1)) 0) 1,
            op 26 (.move (.global 37))])))))))
      (.seq (reg [op 38 (.move (.tmp 8)) 1,
        op 39 (call (.func 185) #[(.global 38)]) 1,
        op 40 (.binOp .sub 0 (.global 39) (.const (I 1)) 0) 1,
        op 41 (.binOp .mul 0 (.const (I 2)) (.global 40) 0) 1,
        op 11 (.move (.global 41))])
      (.seq (reg [op 12 (.move (.const (U 43)))])
      (.seq (.seq (reg [op 42 (.move (.tmp 8)) 1,
        op 43 (.binOp .lss 0 (.global 42) (.const (I 0)) 0)])
      (.cond (.tmp 43)
        (reg [op 12 (.move (.const (U 45)))])
        .skip))
      (.seq (reg [op 44 (.move (.tmp 9)) 1,
        op 45 (.move (.tmp 11)) 1,
        op 46 (.move (.tmp 9)) 1,
        op 47 (.move (.tmp 11)) 1,
        op 48 (.binOp .add 0 (.global 47) (.const (I 1)) 0) 1,
        op 49 (.move (.tmp 9)) 1,
        op 50 (.move (.tmp 11)) 1,
        op 51 (.binOp .add 0 (.global 50) (.const (I 2)) 0) 1,
        op 52 (.move (.tmp 12)) 1,
        op 53 (.indexAddr 3 (.global 44) (.global 45)) 1,
        opn (.store 1 (.global 53) (.const (U 92))),
        op 54 (.indexAddr 3 (.global 46) (.global 48)) 1,
        opn (.store 1 (.global 54) (.global 52)),
        op 55 (.indexAddr 3 (.global 49) (.global 51)) 1,
        opn (.store 1 (.global 55) (.const (U 47)))])
      (reg [op 56 (.move (.tmp 6)) 1,
        op 57 (.move (.tmp 9)) 1,
        op 58 (.convert 0 21 (.global 57)) 1,
        op 59 (.buildSlice 1 1 #[(0, (.const (.agg #[(S [])]))), (1, (.global 58))]) 1,
        op 60 (bi .append #[(.global 56), (.global 59)] 1) 1,
        op 6 (.move (.global 60))])))))))))
    (reg [op 61 (.binOp .add 0 (.tmp 20) (.const (I 1)) 0) 1,
      op 20 (.move (.global 61))])))))))
(.seq (reg [op 62 (.move (.tmp 6)) 1,
  op 4 (.move (.global 62)),
  op 5 (.move (.const (I 0)))])
.ret))))), [(4, 0), (5, 0)]⟩

/-- spec.PlaitPicture -/
def fn408 : AFun := ⟨2,
(.seq (reg [op 4 (.move (.const (sl 0 0 0 0))),
  op 5 (.move (.const (I 0)))])
(.seq (.seq (reg [op 11 (.move (.tmp 0)) 1,
  op 12 (.move (.tmp 1)) 1,
  op 13 (call (.func 531) #[(.global 11), (.global 12)]) 1,
  op 14 (.unOp .not 0 (.global 13))])
(.cond (.tmp 14)
  (.seq (reg [op 4 (.move (.const (sl 0 0 0 0))),
    op 5 (.move (.const (I 1)))])
  .ret)
  .skip))
(.seq (reg [op 15 (.move (.const (sl 0 0 0 1))) 1,
  op 6 (.move (.global 15))])
(.seq (.seq (reg [op 7 (.move (.const (I 0)))])
(.block 0
  (.loop
    (.seq (.seq (reg [op 16 (.move (.tmp 7)) 1,
      op 17 (.move (.tmp 1)) 1,
      op 18 (bi .len #[(.global 17)] 1) 1,
      op 19 (.binOp .lss 0 (.global 16) (.global 18) 0)])
    (.cond (.tmp 19)
      .skip
      (.exit 0)))
    (.seq (.block 1
      (.seq (reg [op 22 (.move (.const (sl 0 0 0 1))) 1,
        op 8 (.move (.global 22))])
      (.seq (.seq (reg [op 9 (.move (.const (I 0)))])
      (.block 2
        (.loop
          (.seq (.seq (reg [op 23 (.move (.tmp 9)) 1,
            op 24 (.move (.tmp 0)) 1,
            op 25 (.binOp .lss 0 (.global 23) (.global 24) 0)])
          (.cond (.tmp 25)
            .skip
            (.exit 2)))
          (.seq (.block 3
            (reg [op 28 (.move (.tmp 8)) 1,
              op 29 (.buildSlice 1 2 #[(0, (.const (.agg #[(U 0), (U 0)]))), (1, (.const (U 124))), (1001, (.const (U 32)))]) 1,
              op 30 (bi .append #[(.global 28), (.global 29)] 1) 1,
              op 8 (.move (.global 30))]))
          (reg [op 26 (.move (.tmp 9)) 1,
            op 27 (.binOp .add 0 (.global 26) (.const (I 1)) 0) 1,
            op 9 (.move (.global 27))]))))))
      (.seq (reg [op 31 (.move (.tmp 1)) 1,
        op 32 (.move (.tmp 7)) 1,
        op 33 (.indexAddr 3 (.global 31) (.global 32)) 1,
        op 34 (.load 0 (.global 33)) 1,
        op 35 (call (.func 512) #[(.global 34)]) 1,
        op 10 (.move (.global 35))])
      (.seq (reg [op 36 (.move (.tmp 8)) 1,
        op 37 (.move (.tmp 10)) 1,
        op 38 (.binOp .mul 0 (.const (I 2)) (.global 37) 0) 1,
        op 39 (.binOp .sub 0 (.global 38) (.const (I 2)) 0) 1,
        op 40 (.indexAddr 3 (.global 36) (.global 39)) 1,
        opn (.store 1 (.global 40) (.const (U 92)))])
      (.seq (reg [op 41 (.move (.tmp 8)) 1,
        op 42 (.move (.tmp 10)) 1,
        op 43 (.binOp .mul 0 (.const (I 2)) (.global 42) 0) 1,
        op 44 (.indexAddr 3 (.global 41) (.global 43)) 1,
        opn (.store 1 (.global 44) (.const (U 47)))])
      (.seq (reg [op 45 (.move (.tmp 8)) 1,
        op 46 (.move (.tmp 10)) 1,
        op 47 (.binOp .mul 0 (.const (I 2)) (.global 46) 0) 1,
        op 48 (.binOp .sub 0 (.global 47) (.const (I 1)) 0) 1,
        op 49 (.indexAddr 3 (.global 45) (.global 48)) 1,
        opn (.store 1 (.global 49) (.const (U 43)))])
      (.seq (.seq (reg [op 50 (.move (.tmp 1)) 1,
        op 51 (.move (.tmp 7)) 1,
        op 52 (.indexAddr 3 (.global 50) (.global 51)) 1,
        op 53 (.load 0 (.global 52)) 1,
        op 54 (.binOp .lss 0 (.global 53) (.const (I 0)) 0)])
      (.cond (.tmp 54)
        (reg [op 55 (.move (.tmp 8)) 1,
          op 56 (.move (.tmp 10)) 1,
          op 57 (.binOp .mul 0 (.const (I 2)) (.global 56) 0) 1,
          op 58 (.binOp .sub 0 (.global 57) (.const (I 1)) 0) 1,
          op 59 (.indexAddr 3 (.global 55) (.global 58)) 1,
          opn (.store 1 (.global 59) (.const (U 45)))])
        .skip))
      (reg [op 60 (.move (.tmp 6)) 1,
        op 61 (.move (.tmp 8)) 1,
        op 62 (.move (.tmp 0)) 1,
        op 63 (.binOp .mul 0 (.const (I 2)) (.global 62) 0) 1,
        op 64 (.binOp .sub 0 (.global 63) (.const (I 1)) 0) 1,
        op 65 (.slice 3 (.global 61) none (some (.global 64)) none) 1,
        op 66 (.convert 0 21 (.global 65)) 1,
        op 67 (.buildSlice 1 1 #[(0, (.const (.agg #[(S [])]))), (1, (.global 66))]) 1,
        op 68 (bi .append #[(.global 60), (.global 67)] 1) 1,
        op 6 (.move (.global 68))])))))))))
    (reg [op 20 (.move (.tmp 7)) 1,
      op 21 (.binOp .add 0 (.global 20) (.const (I 1)) 0) 1,
      op 7 (.move (.global 21))]))))))
(.seq (reg [op 69 (.move (.tmp 6)) 1,
  op 4 (.move (.global 69)),
  op 5 (.move (.const (I 0)))])
.ret))))), [(4, 0), (5, 0)]⟩

/-- spec.DrawWordText -/
def fn376 : AFun := ⟨1,
(.seq (reg [op 2 (.move (.const (sl 0 0 0 0)))])
(.seq (reg [op 6 (.move (.tmp 0)) 1,
  op 7 (call (.func 528) #[(.global 6)]) 1,
  op 5 (.move (.global 7)) 1,
  op 8 (.extract (.global 5) 0) 1,
  op 9 (.extract (.global 5) 1) 1,
  op 3 (.move (.global 8)) 1,
  op 4 (.move (.global 9))])
(.seq (reg [op 10 (.move (.tmp 4)) 1,
  op 2 (.move (.global 10))])
.ret))), [(2, 0)]⟩

/-- laws.f6lists -/
def fn272 : AFun := ⟨2,
(.seq (reg [op 4 (.move (.const (B false)))])
(.seq (.seq (reg [op 6 (.move (.tmp 0)) 1,
  op 7 (bi .len #[(.global 6)] 1) 1,
  op 8 (.move (.tmp 1)) 1,
  op 9 (bi .len #[(.global 8)] 1) 1,
  op 10 (.binOp .neq 0 (.global 7) (.global 9) 0)])
(.cond (.tmp 10)
  (.seq (reg [op 4 (.move (.const (B false)))])
  .ret)
  .skip))
(.seq (.seq (reg [op 5 (.move (.const (I 0)))])
(.block 0
  (.loop
    (.seq (.seq (reg [op 11 (.move (.tmp 5)) 1,
      op 12 (.move (.tmp 0)) 1,
      op 13 (bi .len #[(.global 12)] 1) 1,
      op 14 (.binOp .lss 0 (.global 11) (.global 13) 0)])
    (.cond (.tmp 14)
      .skip
      (.exit 0)))
    (.seq (.block 1
      (.seq (reg [op 17 (.move (.tmp 0)) 1,
        op 18 (.move (.tmp 5)) 1,
        op 19 (.indexAddr 3 (.global 17) (.global 18)) 1,
        op 20 (.load 0 (.global 19)) 1,
        op 21 (.move (.tmp 1)) 1,
        op 22 (.move (.tmp 5)) 1,
        op 23 (.indexAddr 3 (.global 21) (.global 22)) 1,
        op 24 (.load 0 (.global 23)) 1,
        op 25 (call (.func 271) #[(.global 20), (.global 24)]) 1,
        op 26 (.unOp .not 0 (.global 25))])
      (.cond (.tmp 26)
        (.seq (reg [op 4 (.move (.const (B false)))])
        .ret)
        .skip)))
    (reg [op 15 (.move (.tmp 5)) 1,
      op 16 (.binOp .add 0 (.global 15) (.const (I 1)) 0) 1,
      op 5 (.move (.global 16))]))))))
(.seq (reg [op 4 (.move (.const (B true)))])
.ret)))), [(4, 0)]⟩

/-- laws.f6texts -/
def fn274 : AFun := ⟨2,
(.seq (reg [op 4 (.move (.const (B false)))])
(.seq (.seq (reg [op 6 (.move (.tmp 0)) 1,
  op 7 (bi .len #[(.global 6)] 1) 1,
  op 8 (.move (.tmp 1)) 1,
  op 9 (bi .len #[(.global 8)] 1) 1,
  op 10 (.binOp .neq 0 (.global 7) (.global 9) 0)])
(.cond (.tmp 10)
  (.seq (reg [op 4 (.move (.const (B false)))])
  .ret)
  .skip))
(.seq (.seq (reg [op 5 (.move (.const (I 0)))])
(.block 0
  (.loop
    (.seq (.seq (reg [op 11 (.move (.tmp 5)) 1,
      op 12 (.move (.tmp 0)) 1,
      op 13 (bi .len #[(.global 12)] 1) 1,
      op 14 (.binOp .lss 0 (.global 11) (.global 13) 0)])
    (.cond (.tmp 14)
      .skip
      (.exit 0)))
    (.seq (.block 1
      (.seq (reg [op 17 (.move (.tmp 0)) 1,
        op 18 (.move (.tmp 5)) 1,
        op 19 (.indexAddr 3 (.global 17) (.global 18)) 1,
        op 20 (.load 0 (.global 19)) 1,
        op 21 (.move (.tmp 1)) 1,
        op 22 (.move (.tmp 5)) 1,
        op 23 (.indexAddr 3 (.global 21) (.global 22)) 1,
        op 24 (.load 0 (.global 23)) 1,
        op 25 (.binOp .neq 0 (.global 20) (.global 24) 0)])
      (.cond (.tmp 25)
        (.seq (reg [op 4 (.move (.const (B false)))])
        .ret)
        .skip)))
    (reg [op 15 (.move (.tmp 5)) 1,
      op 16 (.binOp .add 0 (.global 15) (.const (I 1)) 0) 1,
      op 5 (.move (.global 16))]))))))
(.seq (reg [op 4 (.move (.const (B true)))])
.ret)))), [(4, 0)]⟩

/-- impl.WordText -/
def fn143 : AFun := ⟨1,
(.seq (reg [op 2 (.move (.const (S [])))])
(.seq (.seq (reg [op 3 (.move (.tmp 0)) 1,
  op 4 (call (.func 142) #[(.const (I 12)), (.global 3)]) 1,
  op 5 (.unOp .not 0 (.global 4))])
(.cond (.tmp 5)
  (.seq (reg [op 2 (.move (.const (S [])))])
  .ret)
  .skip))
(.seq (reg [op 6 (.move (.tmp 0)) 1,
  op 7 (call (.func 156) #[(.global 6), (.const (S [32]))]) 1,
  op 2 (.move (.global 7))])
.ret))), [(2, 0)]⟩

/-- spec.WordText -/
def fn429 : AFun := ⟨1,
(.seq (reg [op 2 (.move (.const (S [])))])
(.seq (.seq (reg [op 5 (.move (.tmp 0)) 1,
  op 6 (call (.func 531) #[(.const (I 12)), (.global 5)]) 1,
  op 7 (.unOp .not 0 (.global 6))])
(.cond (.tmp 7)
  (.seq (reg [op 2 (.move (.const (S [])))])
  .ret)
  .skip))
(.seq (reg [op 8 (.move (.const (sl 0 0 0 1))) 1,
  op 3 (.move (.global 8))])
(.seq (.seq (reg [op 4 (.move (.const (I 0)))])
(.block 0
  (.loop
    (.seq (.seq (reg [op 9 (.move (.tmp 4)) 1,
      op 10 (.move (.tmp 0)) 1,
      op 11 (bi .len #[(.global 10)] 1) 1,
      op 12 (.binOp .lss 0 (.global 9) (.global 11) 0)])
    (.cond (.tmp 12)
      .skip
      (.exit 0)))
    (.seq (.block 1
      (.seq (.seq (reg [op 15 (.move (.tmp 4)) 1,
        op 16 (.binOp .gtr 0 (.global 15) (.const (I 0)) 0)])
      (.cond (.tmp 16)
        (reg [op 17 (.move (.tmp 3)) 1,
          op 18 (.buildSlice 1 1 #[(0, (.const (.agg #[(U 0)]))), (1, (.const (U 32)))]) 1,
          op 19 (bi .append #[(.global 17), (.global 18)] 1) 1,
          op 3 (.move (.global 19))])
        .skip))
      (reg [op 20 (.move (.tmp 3)) 1,
        op 21 (.move (.tmp 0)) 1,
        op 22 (.move (.tmp 4)) 1,
        op 23 (.indexAddr 3 (.global 21) (.global 22)) 1,
        op 24 (.load 0 (.global 23)) 1,
        op 25 (call (.func 437) #[(.global 24)]) 1,
        op 26 (bi .append #[(.global 20), (.global 25)] 1) 1,
        op 3 (.move (.global 26))])))
    (reg [op 13 (.move (.tmp 4)) 1,
      op 14 (.binOp .add 0 (.global 13) (.const (I 1)) 0) 1,
      op 4 (.move (.global 14))]))))))
(.seq (reg [op 27 (.move (.tmp 3)) 1,
  op 28 (.convert 0 21 (.global 27)) 1,
  op 2 (.move (.global 28))])
.ret))))), [(2, 0)]⟩

/-- impl.OrderAfter -/
def fn104 : AFun := ⟨2,
(.seq (reg [op 4 (.move (.const (sl 0 0 0 0))),
  op 5 (.move (.const (I 0)))])
(.seq (.seq (reg [op 6 (.move (.tmp 0)) 1,
  op 7 (.move (.tmp 1)) 1,
  op 8 (call (.func 142) #[(.global 6), (.global 7)]) 1,
  op 9 (.unOp .not 0 (.global 8))])
(.cond (.tmp 9)
  (.seq (reg [op 4 (.move (.const (sl 0 0 0 0))),
    op 5 (.move (.const (I 1)))])
  .ret)
  .skip))
(.seq (reg [op 10 (.move (.tmp 0)) 1,
  op 11 (.move (.tmp 1)) 1,
  op 12 (call (.func 184) #[(.global 10), (.global 11), (.func 105)]) 1,
  op 4 (.move (.global 12)),
  op 5 (.move (.const (I 0)))])
.ret))), [(4, 0), (5, 0)]⟩

/-- spec.l02Bent -/
def fn443 : AFun := ⟨1,
(.seq (reg [op 2 (.move (.const (.agg #[(I 0), (I 0), (sl 0 0 0 0)])))])
(.seq (reg [op 4 (.move (.tmp 0)) 1,
  op 5 (call (.func 445) #[(.global 4), (.const (I 5))]) 1,
  op 3 (.move (.const (.agg #[(I 0), (I 0), (sl 0 0 0 0)]))),
  op 3 (.insert 3 (.tmp 3) (.tmp 3) (.global 5))])
(.seq (.seq (reg [op 6 (.move (.tmp 0)) 1,
  op 7 (call (.func 7) #[(.global 6), (.const (I 20))])])
(.block 0
  (.seq (reg [op 9 (.binOp .eql 0 (.tmp 7) (.const (I 0)) 0) 1,
    op 8 (.move (.global 9))])
  (.cond (.tmp 8)
    (reg [op 10 (.move (.tmp 0)) 1,
      op 11 (.buildSlice 1 4 #[(0, (.const (.agg #[(I 0), (I 0), (I 0), (I 0)]))), (1, (.const (I 0))), (1001, (.const (I 8))), (2001, (.const (I 9))), (3001, (.const (I (-9223372036854775808))))]) 1,
      op 12 (call (.func 4) #[(.global 10), (.global 11)]) 1,
      op 13 (.fieldAddr 0 (.tmp 3) 1) 1,
      op 3 (.insert 1 (.tmp 3) (.global 13) (.global 12))])
    (.seq (reg [op 15 (.binOp .eql 0 (.tmp 7) (.const (I 1)) 0) 1,
      op 14 (.move (.global 15))])
    (.cond (.tmp 14)
      (reg [op 16 (.fieldAddr 2 (.tmp 3) 1) 1,
        op 17 (.lookup 0 (.tmp 3) (.global 16) false) 1,
        op 18 (.buildSlice 1 1 #[(0, (.const (.agg #[(I 0)]))), (1, (.const (I 0)))]) 1,
        op 19 (bi .append #[(.global 17), (.global 18)] 1) 1,
        op 20 (.fieldAddr 2 (.tmp 3) 1) 1,
        op 3 (.insert 1 (.tmp 3) (.global 20) (.global 19))])
      (.seq (reg [op 22 (.binOp .eql 0 (.tmp 7) (.const (I 2)) 0) 1,
        op 21 (.move (.global 22))])
      (.cond (.tmp 21)
        (.seq (reg [op 23 (.fieldAddr 2 (.tmp 3) 1) 1,
          op 24 (.lookup 0 (.tmp 3) (.global 23) false) 1,
          op 25 (bi .len #[(.global 24)] 1) 1,
          op 26 (.binOp .gtr 0 (.global 25) (.const (I 0)) 0)])
        (.cond (.tmp 26)
          (reg [op 27 (.fieldAddr 2 (.tmp 3) 1) 1,
            op 28 (.lookup 0 (.tmp 3) (.global 27) false) 1,
            op 29 (.move (.tmp 0)) 1,
            op 30 (.fieldAddr 2 (.tmp 3) 1) 1,
            op 31 (.lookup 0 (.tmp 3) (.global 30) false) 1,
            op 32 (bi .len #[(.global 31)] 1) 1,
            op 33 (call (.func 7) #[(.global 29), (.global 32)]) 3,
            op 34 (.move (.tmp 0)) 1,
            op 35 (.buildSlice 1 3 #[(0, (.const (.agg #[(I 0), (I 0), (I 0)]))), (1, (.const (I (-1)))), (1001, (.const (I 2))), (2001, (.const (I 3)))]) 1,
            op 36 (call (.func 4) #[(.global 34), (.global 35)]) 1,
            op 37 (.indexAddr 3 (.global 28) (.global 33)) 1,
            opn (.store 1 (.global 37) (.global 36))])
          .skip))
        (.seq (reg [op 39 (.binOp .eql 0 (.tmp 7) (.const (I 3)) 0) 1,
          op 38 (.move (.global 39))])
        (.cond (.tmp 38)
          (reg [op 40 (call (.func 450) #[(.const (I 8)), (.const (I 8))]) 1,
            op 3 (.insert 3 (.tmp 3) (.tmp 3) (.global 40))])
          .skip))))))))))
(.seq (reg [op 41 (.lookup 4 (.tmp 3) (.tmp 3) false) 1,
  op 2 (.insert 3 (.tmp 2) (.tmp 2) (.global 41))])
.ret)))), [(2, 1000004)]⟩

/-- spec.l00From -/
def fn431 : AFun := ⟨1,
(.seq (reg [op 2 (.move (.const (.pointer none)))])
(.seq (reg [op 3 (.move (.tmp 0)) 1,
  op 4 (.build 0 #[(0, (.const (.agg #[(sl 0 0 0 0), (I 0), (.int .u64 0)]))), (1, (.global 3))]) 1,
  op 5 (.box 3 (.global 4)) 1,
  op 2 (.move (.global 5))])
.ret)), [(2, 0)]⟩

/-- impl.ValidPanel -/
def fn140 : AFun := ⟨1,
(.seq (reg [op 1 (.makeChan 3 (.tmp 0)),
  op 2 (.move (.const (B false)))])
(.seq (.seq (reg [op 5 (.fieldAddr 0 (.tmp 1) 1) 1,
  op 6 (.lookup 0 (.tmp 1) (.global 5) false) 1,
  op 7 (.fieldAddr 1 (.tmp 1) 1) 1,
  op 8 (.lookup 0 (.tmp 1) (.global 7) false) 1,
  op 9 (call (.func 198) #[(.global 6), (.global 8)]) 1,
  op 10 (.unOp .not 0 (.global 9)) 1,
  op 11 (.move (.global 10)) 1,
  op 12 (.fieldAddr 2 (.tmp 1) 1) 1 (some (45, false)),
  op 13 (.lookup 0 (.tmp 1) (.global 12) false) 1 (some (45, false)),
  op 14 (bi .len #[(.global 13)] 1) 1 (some (45, false)),
  op 15 (.fieldAddr 0 (.tmp 1) 1) 1 (some (45, false)),
  op 16 (.lookup 0 (.tmp 1) (.global 15) false) 1 (some (45, false)),
  op 17 (.fieldAddr 1 (.tmp 1) 1) 1 (some (45, false)),
  op 18 (.lookup 0 (.tmp 1) (.global 17) false) 1 (some (45, false)),
  op 19 (call (.func 166) #[(.global 16), (.global 18)]) 1 (some (45, false)),
  op 20 (.binOp .neq 0 (.global 14) (.global 19) 0) 1 (some (45, false)),
  op 21 (.pick (.global 11) (.const (B true)) (.global 20))])
(.cond (.tmp 21)
  (.seq (reg [op 2 (.move (.const (B false)))])
  .ret)
  .skip))
(.seq (.seq (reg [op 22 (.fieldAddr 2 (.tmp 1) 1) 1,
  op 23 (.lookup 0 (.tmp 1) (.global 22) false),
  op 24 (bi .len #[(.tmp 23)] 1),
  op 25 (.move (.const (I 0)))])
(.block 0
  (.loop
    (.seq (reg [op 26 (.binOp .lss 0 (.tmp 25) (.tmp 24) 0)])
    (.seq (.cond (.tmp 26)
      .skip
      (.exit 0))
    (.seq (.block 1
      (.seq (reg [op 27 (.indexAddr 3 (.tmp 23) (.tmp 25)) 1,
        op 28 (.load 0 (.global 27)) 1,
        op 4 (.move (.global 28))])
      (.seq (reg [op 29 (.move (.tmp 4)) 1,
        op 30 (call (.func 196) #[(.global 29)]) 1,
        op 31 (.unOp .not 0 (.global 30))])
      (.cond (.tmp 31)
        (.seq (reg [op 2 (.move (.const (B false)))])
        .ret)
        .skip))))
    (reg [op 32 (.binOp .add 0 (.tmp 25) (.const (I 1)) 0) 1,
      op 25 (.move (.global 32))])))))))
(.seq (reg [op 2 (.move (.const (B true)))])
.ret)))), [(2, 0)]⟩

/-- impl.packPanel -/
def fn180 : AFun := ⟨1,
(.seq (reg [op 1 (.makeChan 3 (.tmp 0)),
  op 2 (.move (.const (S [])))])
(.seq (reg [op 7 (.fieldAddr 0 (.tmp 1) 1) 1,
  op 8 (.lookup 0 (.tmp 1) (.global 7) false) 1,
  op 9 (.convert 0 4 (.global 8)) 1,
  op 10 (.fieldAddr 1 (.tmp 1) 1) 1,
  op 11 (.lookup 0 (.tmp 1) (.global 10) false) 1,
  op 12 (.convert 0 4 (.global 11)) 1,
  op 13 (.buildSlice 1 3 #[(0, (.const (.agg #[(U 0), (U 0), (U 0)]))), (1, (.const (U 77))), (1001, (.global 9)), (2001, (.global 12))]) 1,
  op 3 (.move (.global 13))])
(.seq (.seq (reg [op 4 (.move (.const (I 0)))])
(.block 0
  (.loop
    (.seq (.seq (reg [op 14 (.move (.tmp 4)) 1,
      op 15 (.fieldAddr 2 (.tmp 1) 1) 1,
      op 16 (.lookup 0 (.tmp 1) (.global 15) false) 1,
      op 17 (bi .len #[(.global 16)] 1) 1,
      op 18 (.binOp .lss 0 (.global 14) (.global 17) 0)])
    (.cond (.tmp 18)
      .skip
      (.exit 0)))
    (.seq (.block 1
      (.seq (reg [op 5 (.move (.const (U 0)))])
      (.seq (.seq (reg [op 21 (.move (.tmp 4)) 1,
        op 6 (.move (.global 21))])
      (.block 2
        (.loop
          (.seq (.seq (reg [op 22 (.move (.tmp 6)) 1,
            op 23 (.move (.tmp 4)) 1,
            op 24 (.binOp .add 0 (.global 23) (.const (I 5)) 0) 1,
            op 25 (.binOp .lss 0 (.global 22) (.global 24) 0)])
          (.cond (.tmp 25)
            .skip
            (.exit 2)))
          (.seq (.block 3
            (.seq (reg [op 28 (.move (.tmp 5)) 1,
              op 29 (.binOp .mul 0 (.global 28) (.const (U 3)) 0) 1,
              op 5 (.move (.global 29))])
            (.seq (reg [op 30 (.move (.tmp 6)) 1,
              op 31 (.fieldAddr 2 (.tmp 1) 1) 1,
              op 32 (.lookup 0 (.tmp 1) (.global 31) false) 1,
              op 33 (bi .len #[(.global 32)] 1) 1,
              op 34 (.binOp .lss 0 (.global 30) (.global 33) 0)])
            (.cond (.tmp 34)
              (reg [op 35 (.move (.tmp 5)) 1,
                op 36 (.fieldAddr 2 (.tmp 1) 1) 1,
                op 37 (.lookup 0 (.tmp 1) (.global 36) false) 1,
                op 38 (.move (.tmp 6)) 1,
                op 39 (.indexAddr 3 (.global 37) (.global 38)) 1,
                op 40 (.load 0 (.global 39)) 1,
                op 41 (.convert 0 4 (.global 40)) 1,
                op 42 (.binOp .add 0 (.global 35) (.global 41) 0) 1,
                op 5 (.move (.global 42))])
              .skip))))
          (reg [op 26 (.move (.tmp 6)) 1,
            op 27 (.binOp .add 0 (.global 26) (.const (I 1)) 0) 1,
            op 6 (.move (.global 27))]))))))
      (reg [op 43 (.move (.tmp 3)) 1,
        op 44 (.move (.tmp 5)) 1,
        op 45 (.buildSlice 1 1 #[(0, (.const (.agg #[(U 0)]))), (1, (.global 44))]) 1,
        op 46 (bi .append #[(.global 43), (.global 45)] 1) 1,
        op 3 (.move (.global 46))]))))
    (reg [op 19 (.move (.tmp 4)) 1,
      op 20 (.binOp .add 0 (.global 19) (.const (I 5)) 0) 1,
      op 4 (.move (.global 20))]))))))
(.seq (reg [op 47 (.move (.tmp 3)) 1,
  op 48 (.convert 0 21 (.global 47)) 1,
  op 49 (call (.func 191) #[(.global 48)]) 1,
  op 2 (.move (.global 49))])
.ret)))), [(2, 0)]⟩

/-- spec.l02Ok -/
def fn452 : AFun := ⟨1,
(.seq (reg [op 2 (.move (.const (B false)))])
(.seq (.seq (reg [op 4 (.move (.tmp 0)) 1,
  op 5 (.nilCheck (.global 4)) 1,
  op 6 (.fieldAddr 0 (.global 5) 0) 1,
  op 7 (.load 0 (.global 6)) 1,
  op 8 (call (.func 457) #[(.global 7)]) 1,
  op 9 (.unOp .not 0 (.global 8)) 1,
  op 10 (.move (.global 9)) 1,
  op 11 (.move (.tmp 0)) 1 (some (41, false)),
  op 12 (.nilCheck (.global 11)) 1 (some (41, false)),
  op 13 (.fieldAddr 1 (.global 12) 0) 1 (some (41, false)),
  op 14 (.load 0 (.global 13)) 1 (some (41, false)),
  op 15 (call (.func 457) #[(.global 14)]) 1 (some (41, false)),
  op 16 (.unOp .not 0 (.global 15)) 1 (some (41, false)),
  op 17 (.pick (.global 10) (.const (B true)) (.global 16)) 1,
  op 18 (.move (.global 17)) 1,
  op 19 (.move (.tmp 0)) 1 (some (73, false)),
  op 20 (.nilCheck (.global 19)) 1 (some (73, false)),
  op 21 (.fieldAddr 2 (.global 20) 0) 1 (some (73, false)),
  op 22 (.load 0 (.global 21)) 1 (some (73, false)),
  op 23 (bi .len #[(.global 22)] 1) 1 (some (73, false)),
  op 24 (.move (.tmp 0)) 1 (some (73, false)),
  op 25 (.nilCheck (.global 24)) 1 (some (73, false)),
  op 26 (.fieldAddr 0 (.global 25) 0) 1 (some (73, false)),
  op 27 (.load 0 (.global 26)) 1 (some (73, false)),
  op 28 (.move (.tmp 0)) 1 (some (73, false)),
  op 29 (.nilCheck (.global 28)) 1 (some (73, false)),
  op 30 (.fieldAddr 1 (.global 29) 0) 1 (some (73, false)),
  op 31 (.load 0 (.global 30)) 1 (some (73, false)),
  op 32 (call (.func 448) #[(.global 27), (.global 31)]) 3 (some (73, false)),
  op 33 (.binOp .neq 0 (.global 23) (.global 32) 0) 1 (some (73, false)),
  op 34 (.pick (.global 18) (.const (B true)) (.global 33))])
(.cond (.tmp 34)
  (.seq (reg [op 2 (.move (.const (B false)))])
  .ret)
  .skip))
(.seq (.seq (reg [op 3 (.move (.const (I 0)))])
(.block 0
  (.loop
    (.seq (.seq (reg [op 35 (.move (.tmp 3)) 1,
      op 36 (.move (.tmp 0)) 1,
      op 37 (.nilCheck (.global 36)) 1,
      op 38 (.fieldAddr 2 (.global 37) 0) 1,
      op 39 (.load 0 (.global 38)) 1,
      op 40 (bi .len #[(.global 39)] 1) 1,
      op 41 (.binOp .lss 0 (.global 35) (.global 40) 0)])
    (.cond (.tmp 41)
      .skip
      (.exit 0)))
    (.seq (.block 1
      (.seq (reg [op 44 (.move (.tmp 0)) 1,
        op 45 (.nilCheck (.global 44)) 1,
        op 46 (.fieldAddr 2 (.global 45) 0) 1,
        op 47 (.load 0 (.global 46)) 1,
        op 48 (.move (.tmp 3)) 1,
        op 49 (.indexAddr 3 (.global 47) (.global 48)) 1,
        op 50 (.load 0 (.global 49)) 1,
        op 51 (call (.func 432) #[(.global 50), (.const (I 0)), (.const (I 2))]) 1,
        op 52 (.unOp .not 0 (.global 51))])
      (.cond (.tmp 52)
        (.seq (reg [op 2 (.move (.const (B false)))])
        .ret)
        .skip)))
    (reg [op 42 (.move (.tmp 3)) 1,
      op 43 (.binOp .add 0 (.global 42) (.const (I 1)) 0) 1,
      op 3 (.move (.global 43))]))))))
(.seq (reg [op 2 (.move (.const (B true)))])
.ret)))), [(2, 0)]⟩

/-- spec.l27Pack -/
def fn571 : AFun := ⟨1,
(.seq (reg [op 2 (.move (.const (S [])))])
(.seq (reg [op 7 (.move (.tmp 0)) 1,
  op 8 (.nilCheck (.global 7)) 1,
  op 9 (.fieldAddr 0 (.global 8) 0) 1,
  op 10 (.load 0 (.global 9)) 1,
  op 11 (.convert 0 4 (.global 10)) 1,
  op 12 (.move (.tmp 0)) 1,
  op 13 (.nilCheck (.global 12)) 1,
  op 14 (.fieldAddr 1 (.global 13) 0) 1,
  op 15 (.load 0 (.global 14)) 1,
  op 16 (.convert 0 4 (.global 15)) 1,
  op 17 (.buildSlice 1 3 #[(0, (.const (.agg #[(U 0), (U 0), (U 0)]))), (1, (.const (U 77))), (1001, (.global 11)), (2001, (.global 16))]) 1,
  op 3 (.move (.global 17))])
(.seq (.seq (reg [op 4 (.move (.const (I 0)))])
(.block 0
  (.loop
    (.seq (.seq (reg [op 18 (.move (.tmp 4)) 1,
      op 19 (.move (.tmp 0)) 1,
      op 20 (.nilCheck (.global 19)) 1,
      op 21 (.fieldAddr 2 (.global 20) 0) 1,
      op 22 (.load 0 (.global 21)) 1,
      op 23 (bi .len #[(.global 22)] 1) 1,
      op 24 (.binOp .lss 0 (.global 18) (.global 23) 0)])
    (.cond (.tmp 24)
      .skip
      (.exit 0)))
    (.seq (.block 1
      (.seq (reg [op 5 (.move (.const (I 0)))])
      (.seq (.seq (reg [op 27 (.move (.tmp 4)) 1,
        op 6 (.move (.global 27))])
      (.block 2
        (.loop
          (.seq (.seq (reg [op 28 (.move (.tmp 6)) 1,
            op 29 (.move (.tmp 4)) 1,
            op 30 (.binOp .add 0 (.global 29) (.const (I 5)) 0) 1,
            op 31 (.binOp .lss 0 (.global 28) (.global 30) 0)])
          (.cond (.tmp 31)
            .skip
            (.exit 2)))
          (.seq (.block 3
            (.seq (reg [op 34 (.move (.tmp 5)) 1,
              op 35 (.binOp .mul 0 (.global 34) (.const (I 3)) 0) 1,
              op 5 (.move (.global 35))])
            (.seq (reg [op 36 (.move (.tmp 6)) 1,
              op 37 (.move (.tmp 0)) 1,
              op 38 (.nilCheck (.global 37)) 1,
              op 39 (.fieldAddr 2 (.global 38) 0) 1,
              op 40 (.load 0 (.global 39)) 1,
              op 41 (bi .len #[(.global 40)] 1) 1,
              op 42 (.binOp .lss 0 (.global 36) (.global 41) 0)])
            (.cond (.tmp 42)
              (reg [op 43 (.move (.tmp 5)) 1,
                op 44 (.move (.tmp 0)) 1,
                op 45 (.nilCheck (.global 44)) 1,
                op 46 (.fieldAddr 2 (.global 45) 0) 1,
                op 47 (.load 0 (.global 46)) 1,
                op 48 (.move (.tmp 6)) 1,
                op 49 (.indexAddr 3 (.global 47) (.global 48)) 1,
                op 50 (.load 0 (.global 49)) 1,
                op 51 (.binOp .add 0 (.global 43) (.global 50) 0) 1,
                op 5 (.move (.global 51))])
              .skip))))
          (reg [op 32 (.move (.tmp 6)) 1,
            op 33 (.binOp .add 0 (.global 32) (.const (I 1)) 0) 1,
            op 6 (.move (.global 33))]))))))
      (reg [op 52 (.move (.tmp 3)) 1,
        op 53 (.move (.tmp 5)) 1,
        op 54 (.convert 0 4 (.global 53)) 1,
        op 55 (.buildSlice 1 1 #[(0, (.const (.agg #[(U 0)]))), (1, (.global 54))]) 1,
        op 56 (bi .append #[(.global 52), (.global 55)] 1) 1,
        op 3 (.move (.global 56))]))))
    (reg [op 25 (.move (.tmp 4)) 1,
      op 26 (.binOp .add 0 (.global 25) (.const (I 5)) 0) 1,
      op 4 (.move (.global 26))]))))))
(.seq (reg [op 57 (.move (.tmp 3)) 1,
  op 58 (call (.func 568) #[(.global 57)]) 1,
  op 2 (.move (.global 58))])
.ret)))), [(2, 0)]⟩

/-- spec.l27Bytes -/
def fn565 : AFun := ⟨1,
(.seq (reg [op 2 (.move (.const (S [])))])
(.seq (reg [op 7 (.move (.tmp 0)) 1,
  op 8 (call (.func 445) #[(.global 7), (.const (I 4))]) 1,
  op 3 (.box 3 (.const (.agg #[(I 0), (I 0), (sl 0 0 0 0)]))),
  opn (.store 3 (.tmp 3) (.global 8))])
(.seq (reg [op 9 (call (.func 571) #[(.tmp 3)]) 1,
  op 10 (.convert 0 20 (.global 9)) 1,
  op 4 (.move (.global 10))])
(.seq (reg [op 11 (.move (.tmp 0)) 1,
  op 12 (.move (.tmp 4)) 1,
  op 13 (bi .len #[(.global 12)] 1) 1,
  op 14 (call (.func 7) #[(.global 11), (.global 13)]) 1,
  op 5 (.move (.global 14))])
(.seq (.seq (reg [op 15 (.move (.tmp 0)) 1,
  op 16 (call (.func 7) #[(.global 15), (.const (I 8))])])
(.block 0
  (.seq (reg [op 18 (.binOp .eql 0 (.tmp 16) (.const (I 0)) 0) 1,
    op 17 (.move (.global 18))])
  (.cond (.tmp 17)
    (reg [op 19 (.move (.tmp 4)) 1,
      op 20 (.move (.tmp 5)) 1,
      op 21 (.move (.tmp 0)) 1,
      op 22 (call (.func 7) #[(.global 21), (.const (I 256))]) 1,
      op 23 (.convert 0 4 (.global 22)) 1,
      op 24 (.indexAddr 3 (.global 19) (.global 20)) 1,
      opn (.store 1 (.global 24) (.global 23))])
    (.seq (reg [op 26 (.binOp .eql 0 (.tmp 16) (.const (I 1)) 0) 1,
      op 25 (.move (.global 26))])
    (.cond (.tmp 25)
      (.seq (reg [op 27 (.move (.tmp 4)) 1,
        op 28 (.move (.tmp 5)) 1,
        op 29 (.slice 3 (.global 27) none (some (.global 28)) none) 1,
        op 30 (.convert 0 21 (.global 29)) 1,
        op 2 (.move (.global 30))])
      .ret)
      (.seq (reg [op 32 (.binOp .eql 0 (.tmp 16) (.const (I 2)) 0) 1,
        op 31 (.move (.global 32))])
      (.cond (.tmp 31)
        (.seq (reg [op 33 (.move (.tmp 4)) 1,
          op 34 (.buildSlice 1 1 #[(0, (.const (.agg #[(U 0)]))), (1, (.const (U 0)))]) 1,
          op 35 (bi .append #[(.global 33), (.global 34)] 1) 1,
          op 36 (.convert 0 21 (.global 35)) 1,
          op 2 (.move (.global 36))])
        .ret)
        (.seq (reg [op 38 (.binOp .eql 0 (.tmp 16) (.const (I 3)) 0) 1,
          op 37 (.move (.global 38))])
        (.cond (.tmp 37)
          (.seq (reg [op 39 (.move (.tmp 4)) 1,
            op 40 (bi .len #[(.global 39)] 1) 1,
            op 6 (.move (.global 40))])
          (.seq (reg [op 41 (.move (.tmp 4)) 1,
            op 42 (.move (.tmp 0)) 1,
            op 43 (.move (.tmp 6)) 1,
            op 44 (.binOp .sub 0 (.global 43) (.const (I 2)) 0) 1,
            op 45 (call (.func 7) #[(.global 42), (.global 44)]) 1,
            op 46 (.move (.tmp 0)) 1,
            op 47 (call (.func 7) #[(.global 46), (.const (I 256))]) 1,
            op 48 (.convert 0 4 (.global 47)) 1,
            op 49 (.indexAddr 3 (.global 41) (.global 45)) 1,
            opn (.store 1 (.global 49) (.global 48))])
          (.seq (reg [op 50 (.move (.tmp 4)) 1,
            op 51 (.move (.tmp 6)) 1,
            op 52 (.binOp .sub 0 (.global 51) (.const (I 2)) 0) 1,
            op 53 (.slice 3 (.global 50) none (some (.global 52)) none) 1,
            op 54 (call (.func 568) #[(.global 53)]) 1,
            op 2 (.move (.global 54))])
          .ret)))
          .skip))))))))))
(.seq (reg [op 55 (.move (.tmp 4)) 1,
  op 56 (.convert 0 21 (.global 55)) 1,
  op 2 (.move (.global 56))])
.ret)))))), [(2, 0)]⟩

/-- impl.unpackPanel -/
def fn195 : AFun := ⟨1,
(.seq (reg [op 2 (.move (.const (.agg #[(I 0), (I 0), (sl 0 0 0 0)]))),
  op 3 (.move (.const (B false)))])
(.seq (.seq (reg [op 7 (.move (.tmp 0)) 1,
  op 8 (bi .len #[(.global 7)] 0) 1,
  op 9 (.binOp .lss 0 (.global 8) (.const (I 5)) 0) 1,
  op 10 (.move (.global 9)) 1,
  op 11 (.move (.tmp 0)) 1 (some (41, false)),
  op 12 (.index 0 (.global 11) (.const (I 1))) 1 (some (41, false)),
  op 13 (.convert 0 3 (.global 12)) 1 (some (41, false)),
  op 14 (.move (.tmp 0)) 1 (some (41, false)),
  op 15 (.index 0 (.global 14) (.const (I 2))) 1 (some (41, false)),
  op 16 (.convert 0 3 (.global 15)) 1 (some (41, false)),
  op 17 (call (.func 198) #[(.global 13), (.global 16)]) 1 (some (41, false)),
  op 18 (.unOp .not 0 (.global 17)) 1 (some (41, false)),
  op 19 (.pick (.global 10) (.const (B true)) (.global 18)) 1,
  op 20 (.move (.global 19)) 1,
  op 21 (.move (.tmp 0)) 1 (some (81, false)),
  op 22 (bi .len #[(.global 21)] 0) 1 (some (81, false)),
  op 23 (.move (.tmp 0)) 1 (some (81, false)),
  op 24 (.index 0 (.global 23) (.const (I 1))) 1 (some (81, false)),
  op 25 (.convert 0 3 (.global 24)) 1 (some (81, false)),
  op 26 (.move (.tmp 0)) 1 (some (81, false)),
  op 27 (.index 0 (.global 26) (.const (I 2))) 1 (some (81, false)),
  op 28 (.convert 0 3 (.global 27)) 1 (some (81, false)),
  op 29 (call (.func 181) #[(.global 25), (.global 28)]) 1 (some (81, false)),
  op 30 (.binOp .neq 0 (.global 22) (.global 29) 0) 1 (some (81, false)),
  op 31 (.pick (.global 20) (.const (B true)) (.global 30))])
(.cond (.tmp 31)
  (.seq (reg [op 32 (.build 0 #[(0, (.const (.agg #[(I 0), (I 0), (sl 0 0 0 0)])))]) 1,
    op 2 (.insert 3 (.tmp 2) (.tmp 2) (.global 32)),
    op 3 (.move (.const (B false)))])
  .ret)
  .skip))
(.seq (reg [op 33 (.move (.tmp 0)) 1,
  op 34 (.index 0 (.global 33) (.const (I 1))) 1,
  op 35 (.convert 0 3 (.global 34)) 1,
  op 36 (.move (.tmp 0)) 1,
  op 37 (.index 0 (.global 36) (.const (I 2))) 1,
  op 38 (.convert 0 3 (.global 37)) 1,
  op 39 (call (.func 177) #[(.global 35), (.global 38)]) 1,
  op 4 (.move (.const (.agg #[(I 0), (I 0), (sl 0 0 0 0)]))),
  op 4 (.insert 3 (.tmp 4) (.tmp 4) (.global 39))])
(.seq (.seq (reg [op 40 (.fieldAddr 2 (.tmp 4) 1) 1,
  op 41 (.lookup 0 (.tmp 4) (.global 40) false) 1,
  op 42 (bi .len #[(.global 41)] 1),
  op 43 (.move (.const (I 0)))])
(.block 0
  (.loop
    (.seq (reg [op 44 (.binOp .lss 0 (.tmp 43) (.tmp 42) 0)])
    (.seq (.cond (.tmp 44)
      .skip
      (.exit 0))
    (.seq (.block 1
      (.seq (reg [op 45 (.move (.tmp 43)) 1,
        op 5 (.move (.global 45))])
      (.seq (reg [op 46 (.move (.tmp 0)) 1,
        op 47 (.move (.tmp 5)) 1,
        op 48 (.binOp .quo 0 (.global 47) (.const (I 5)) 0) 1,
        op 49 (.binOp .add 0 (.const (I 3)) (.global 48) 0) 1,
        op 50 (.index 0 (.global 46) (.global 49)) 1,
        op 51 (.convert 0 3 (.global 50)) 1,
        op 6 (.move (.global 51))])
      (.seq (.seq (reg [op 52 (.move (.tmp 5)) 1,
        op 53 (.binOp .rem 0 (.global 52) (.const (I 5)) 0) 1,
        op 54 (.binOp .sub 0 (.const (I 4)) (.global 53) 0),
        op 55 (.move (.const (I 0)))])
      (.block 2
        (.loop
          (.seq (reg [op 56 (.binOp .lss 0 (.tmp 55) (.tmp 54) 0)])
          (.seq (.cond (.tmp 56)
            .skip
            (.exit 2))
          (.seq (.block 3
            (reg [op 57 (.move (.tmp 6)) 1,
              op 58 (.binOp .quo 0 (.global 57) (.const (I 3)) 0) 1,
              op 6 (.move (.global 58))]))
          (reg [op 59 (.binOp .add 0 (.tmp 55) (.const (I 1)) 0) 1,
            op 55 (.move (.global 59))])))))))
      (reg [op 60 (.fieldAddr 2 (.tmp 4) 1) 1,
        op 61 (.lookup 0 (.tmp 4) (.global 60) false) 1,
        op 62 (.move (.tmp 5)) 1,
        op 63 (.move (.tmp 6)) 1,
        op 64 (.binOp .rem 0 (.global 63) (.const (I 3)) 0) 1,
        op 65 (.indexAddr 3 (.global 61) (.global 62)) 1,
        opn (.store 1 (.global 65) (.global 64))])))))
    (reg [op 66 (.binOp .add 0 (.tmp 43) (.const (I 1)) 0) 1,
      op 43 (.move (.global 66))])))))))
(.seq (reg [op 67 (.lookup 4 (.tmp 4) (.tmp 4) false) 1,
  op 68 (.lookup 4 (.tmp 4) (.tmp 4) false) 1,
  op 69 (call (.func 180) #[(.global 68)]) 1,
  op 70 (.move (.tmp 0)) 1,
  op 71 (.binOp .eql 0 (.global 69) (.global 70) 0) 1,
  op 2 (.insert 3 (.tmp 2) (.tmp 2) (.global 67)),
  op 3 (.move (.global 71))])
.ret))))), [(2, 1000004), (3, 0)]⟩

/-- spec.l27Unpack -/
def fn574 : AFun := ⟨1,
(.seq (reg [op 2 (.move (.const (.agg #[(I 0), (I 0), (sl 0 0 0 0)]))),
  op 3 (.move (.const (I 0)))])
(.seq (.seq (reg [op 11 (.move (.tmp 0)) 1,
  op 12 (bi .len #[(.global 11)] 0) 1,
  op 13 (.binOp .lss 0 (.global 12) (.const (I 5)) 0) 1,
  op 14 (.move (.global 13)) 1,
  op 15 (.move (.tmp 0)) 1 (some (57, false)),
  op 16 (.index 0 (.global 15) (.const (I 0))) 1 (some (57, false)),
  op 17 (.binOp .neq 0 (.global 16) (.const (U 77)) 0) 1 (some (57, false)),
  op 18 (.pick (.global 14) (.const (B true)) (.global 17)) 1,
  op 19 (.move (.global 18)) 1,
  op 20 (.move (.tmp 0)) 1 (some (77, false)),
  op 21 (.index 0 (.global 20) (.const (I 1))) 1 (some (77, false)),
  op 22 (.convert 0 3 (.global 21)) 1 (some (77, false)),
  op 23 (call (.func 457) #[(.global 22)]) 1 (some (77, false)),
  op 24 (.unOp .not 0 (.global 23)) 1 (some (77, false)),
  op 25 (.pick (.global 19) (.const (B true)) (.global 24)) 1,
  op 26 (.move (.global 25)) 1,
  op 27 (.move (.tmp 0)) 1 (some (105, false)),
  op 28 (.index 0 (.global 27) (.const (I 2))) 1 (some (105, false)),
  op 29 (.convert 0 3 (.global 28)) 1 (some (105, false)),
  op 30 (call (.func 457) #[(.global 29)]) 1 (some (105, false)),
  op 31 (.unOp .not 0 (.global 30)) 1 (some (105, false)),
  op 32 (.pick (.global 26) (.const (B true)) (.global 31))])
(.cond (.tmp 32)
  (.seq (reg [op 33 (.build 0 #[(0, (.const (.agg #[(I 0), (I 0), (sl 0 0 0 0)])))]) 1,
    op 2 (.insert 3 (.tmp 2) (.tmp 2) (.global 33)),
    op 3 (.move (.const (I 1)))])
  .ret)
  .skip))
(.seq (reg [op 34 (.move (.tmp 0)) 1,
  op 35 (.index 0 (.global 34) (.const (I 1))) 1,
  op 36 (.convert 0 3 (.global 35)) 1,
  op 4 (.move (.global 36))])
(.seq (reg [op 37 (.move (.tmp 0)) 1,
  op 38 (.index 0 (.global 37) (.const (I 2))) 1,
  op 39 (.convert 0 3 (.global 38)) 1,
  op 5 (.move (.global 39))])
(.seq (.seq (reg [op 40 (.move (.tmp 0)) 1,
  op 41 (bi .len #[(.global 40)] 0) 1,
  op 42 (.move (.tmp 4)) 1,
  op 43 (.move (.tmp 5)) 1,
  op 44 (call (.func 572) #[(.global 42), (.global 43)]) 1,
  op 45 (.binOp .neq 0 (.global 41) (.global 44) 0)])
(.cond (.tmp 45)
  (.seq (reg [op 46 (.build 0 #[(0, (.const (.agg #[(I 0), (I 0), (sl 0 0 0 0)])))]) 1,
    op 2 (.insert 3 (.tmp 2) (.tmp 2) (.global 46)),
    op 3 (.move (.const (I 2)))])
  .ret)
  .skip))
(.seq (.seq (reg [op 47 (.move (.tmp 0)) 1,
  op 48 (call (.func 566) #[(.global 47)]) 1,
  op 49 (.unOp .not 0 (.global 48))])
(.cond (.tmp 49)
  (.seq (reg [op 50 (.build 0 #[(0, (.const (.agg #[(I 0), (I 0), (sl 0 0 0 0)])))]) 1,
    op 2 (.insert 3 (.tmp 2) (.tmp 2) (.global 50)),
    op 3 (.move (.const (I 3)))])
  .ret)
  .skip))
(.seq (reg [op 51 (.move (.tmp 4)) 1,
  op 52 (.move (.tmp 5)) 1,
  op 53 (call (.func 450) #[(.global 51), (.global 52)]) 1,
  op 6 (.box 3 (.const (.agg #[(I 0), (I 0), (sl 0 0 0 0)]))),
  opn (.store 3 (.tmp 6) (.global 53))])
(.seq (.seq (reg [op 7 (.move (.const (I 3)))])
(.block 0
  (.loop
    (.seq (.seq (reg [op 54 (.move (.tmp 7)) 1,
      op 55 (.move (.tmp 0)) 1,
      op 56 (bi .len #[(.global 55)] 0) 1,
      op 57 (.binOp .sub 0 (.global 56) (.const (I 2)) 0) 1,
      op 58 (.binOp .lss 0 (.global 54) (.global 57) 0)])
    (.cond (.tmp 58)
      .skip
      (.exit 0)))
    (.seq (.block 1
      (.seq (reg [op 61 (.move (.tmp 0)) 1,
        op 62 (.move (.tmp 7)) 1,
        op 63 (.index 0 (.global 61) (.global 62)) 1,
        op 64 (.convert 0 3 (.global 63)) 1,
        op 8 (.move (.global 64))])
      (.seq (reg [op 9 (.move (.const (I 4)))])
      (.block 2
        (.loop
          (.seq (.seq (reg [op 65 (.move (.tmp 9)) 1,
            op 66 (.binOp .geq 0 (.global 65) (.const (I 0)) 0)])
          (.cond (.tmp 66)
            .skip
            (.exit 2)))
          (.seq (.block 3
            (.seq (reg [op 69 (.move (.tmp 7)) 1,
              op 70 (.binOp .sub 0 (.global 69) (.const (I 3)) 0) 1,
              op 71 (.binOp .mul 0 (.const (I 5)) (.global 70) 0) 1,
              op 72 (.move (.tmp 9)) 1,
              op 73 (.binOp .add 0 (.global 71) (.global 72) 0) 1,
              op 10 (.move (.global 73))])
            (.seq (.seq (reg [op 74 (.move (.tmp 10)) 1,
              op 75 (.fieldAddr 2 (.tmp 6) 0) 1,
              op 76 (.load 0 (.global 75)) 1,
              op 77 (bi .len #[(.global 76)] 1) 1,
              op 78 (.binOp .lss 0 (.global 74) (.global 77) 0)])
            (.cond (.tmp 78)
              (reg [op 79 (.fieldAddr 2 (.tmp 6) 0) 1,
                op 80 (.load 0 (.global 79)) 1,
                op 81 (.move (.tmp 10)) 1,
                op 82 (.move (.tmp 8)) 1,
                op 83 (.binOp .rem 0 (.global 82) (.const (I 3)) 0) 1,
                op 84 (.indexAddr 3 (.global 80) (.global 81)) 1,
                opn (.store 1 (.global 84) (.global 83))])
              .skip))
            (reg [op 85 (.move (.tmp 8)) 1,
              op 86 (.binOp .quo 0 (.global 85) (.const (I 3)) 0) 1,
              op 8 (.move (.global 86))]))))
          (reg [op 67 (.move (.tmp 9)) 1,
            op 68 (.binOp .sub 0 (.global 67) (.const (I 1)) 0) 1,
            op 9 (.move (.global 68))]))))))))
    (reg [op 59 (.move (.tmp 7)) 1,
      op 60 (.binOp .add 0 (.global 59) (.const (I 1)) 0) 1,
      op 7 (.move (.global 60))]))))))
(.seq (.seq (reg [op 87 (call (.func 571) #[(.tmp 6)]) 1,
  op 88 (.move (.tmp 0)) 1,
  op 89 (.binOp .neq 0 (.global 87) (.global 88) 0)])
(.cond (.tmp 89)
  (.seq (reg [op 90 (.build 0 #[(0, (.const (.agg #[(I 0), (I 0), (sl 0 0 0 0)])))]) 1,
    op 2 (.insert 3 (.tmp 2) (.tmp 2) (.global 90)),
    op 3 (.move (.const (I 4)))])
  .ret)
  .skip))
(.seq (reg [op 91 (.load 4 (.tmp 6)) 1,
  op 2 (.insert 3 (.tmp 2) (.tmp 2) (.global 91)),
  op 3 (.move (.const (I 0)))])
.ret)))))))))), [(2, 1000004), (3, 0)]⟩

/-- impl.validSize -/
def fn198 : AFun := ⟨2,
(.seq (reg [op 4 (.move (.const (B false)))])
(.seq (reg [op 5 (.move (.tmp 0)) 1,
  op 6 (call (.func 164) #[(.global 5), (.const (I 1)), (.const (I 8))]) 1,
  op 7 (.move (.global 6)) 1,
  op 8 (.move (.tmp 1)) 1 (some (29, true)),
  op 9 (call (.func 164) #[(.global 8), (.const (I 1)), (.const (I 8))]) 1 (some (29, true)),
  op 10 (.pick (.global 7) (.global 9) (.const (B false))) 1,
  op 4 (.move (.global 10))])
.ret)), [(4, 0)]⟩

/-- impl.packedSize -/
def fn181 : AFun := ⟨2,
(.seq (reg [op 4 (.move (.const (I 0)))])
(.seq (reg [op 5 (.move (.tmp 0)) 1,
  op 6 (.move (.tmp 1)) 1,
  op 7 (call (.func 166) #[(.global 5), (.global 6)]) 1,
  op 8 (.binOp .add 0 (.global 7) (.const (I 4)) 0) 1,
  op 9 (.binOp .quo 0 (.global 8) (.const (I 5)) 0) 1,
  op 10 (.binOp .add 0 (.const (I 5)) (.global 9) 0) 1,
  op 4 (.move (.global 10))])
.ret)), [(4, 0)]⟩

/-- impl.summed -/
def fn191 : AFun := ⟨1,
(.seq (reg [op 2 (.move (.const (S [])))])
(.seq (reg [op 4 (.move (.tmp 0)) 1,
  op 5 (call (.func 64) #[(.global 4)]) 1,
  op 3 (.move (.global 5))])
(.seq (reg [op 6 (.move (.tmp 0)) 1,
  op 7 (.move (.tmp 3)) 1,
  op 8 (.binOp .quo 0 (.global 7) (.const (I 256)) 0) 1,
  op 9 (.convert 0 4 (.global 8)) 1,
  op 10 (.move (.tmp 3)) 1,
  op 11 (.binOp .rem 0 (.global 10) (.const (I 256)) 0) 1,
  op 12 (.convert 0 4 (.global 11)) 1,
  op 13 (.buildSlice 1 2 #[(0, (.const (.agg #[(U 0), (U 0)]))), (1, (.global 9)), (1001, (.global 12))]) 1,
  op 14 (.convert 0 21 (.global 13)) 1,
  op 15 (.binOp .add 0 (.global 6) (.global 14) 0) 1,
  op 2 (.move (.global 15))])
.ret))), [(2, 0)]⟩

/-- (*spec.l00Src).pick -/
def fn7 : AFun := ⟨2,
(.seq (reg [op 4 (.move (.const (I 0)))])
(.seq (.seq (reg [op 6 (.move (.tmp 1)) 1,
  op 7 (.binOp .leq 0 (.global 6) (.const (I 1)) 0)])
(.cond (.tmp 7)
  (.seq (reg [op 4 (.move (.const (I 0)))])
  .ret)
  .skip))
(.seq (reg [op 8 (.move (.tmp 0)) 1,
  op 9 (call (.func 5) #[(.global 8)]) 1,
  op 5 (.move (.global 9))])
(.seq (.seq (reg [op 10 (.move (.tmp 1)) 1,
  op 11 (.binOp .gtr 0 (.global 10) (.const (I 200)) 0)])
(.cond (.tmp 11)
  (reg [op 12 (.move (.tmp 5)) 1,
    op 13 (.binOp .mul 0 (.global 12) (.const (I 256)) 0) 1,
    op 14 (.move (.tmp 0)) 1,
    op 15 (call (.func 5) #[(.global 14)]) 1,
    op 16 (.binOp .add 0 (.global 13) (.global 15) 0) 1,
    op 5 (.move (.global 16))])
  .skip))
(.seq (reg [op 17 (.move (.tmp 5)) 1,
  op 18 (.move (.tmp 1)) 1,
  op 19 (.binOp .rem 0 (.global 17) (.global 18) 0) 1,
  op 4 (.move (.global 19))])
.ret))))), [(4, 0)]⟩

/-- spec.l02Side -/
def fn457 : AFun := ⟨1,
(.seq (reg [op 2 (.move (.const (B false)))])
(.seq (reg [op 3 (.move (.tmp 0)) 1,
  op 4 (call (.func 432) #[(.global 3), (.const (I 1)), (.const (I 8))]) 1,
  op 2 (.move (.global 4))])
.ret)), [(2, 0)]⟩

/-- spec.l27Size -/
def fn572 : AFun := ⟨2,
(.seq (reg [op 4 (.move (.const (I 0)))])
(.seq (reg [op 5 (.move (.tmp 0)) 1,
  op 6 (.move (.tmp 1)) 1,
  op 7 (call (.func 448) #[(.global 5), (.global 6)]) 1,
  op 8 (.binOp .add 0 (.global 7) (.const (I 4)) 0) 1,
  op 9 (.binOp .quo 0 (.global 8) (.const (I 5)) 0) 1,
  op 10 (.binOp .add 0 (.const (I 3)) (.global 9) 0) 1,
  op 11 (.binOp .add 0 (.global 10) (.const (I 2)) 0) 1,
  op 4 (.move (.global 11))])
.ret)), [(4, 0)]⟩

/-- (*spec.l00Src).one -/
def fn6 : AFun := ⟨2,
(.seq (reg [op 4 (.move (.const (B false)))])
(.seq (reg [op 5 (.move (.tmp 0)) 1,
  op 6 (.move (.tmp 1)) 1,
  op 7 (call (.func 7) #[(.global 5), (.global 6)]) 1,
  op 8 (.binOp .eql 0 (.global 7) (.const (I 0)) 0) 1,
  op 4 (.move (.global 8))])
.ret)), [(4, 0)]⟩

/-- spec.l01Spoil -/
def fn442 : AFun := ⟨2,
(.seq (reg [op 4 (.move (.const (S [])))])
(.seq (.seq (reg [op 7 (.move (.tmp 0)) 1,
  op 8 (call (.func 7) #[(.global 7), (.const (I 5))])])
(.block 0
  (.seq (reg [op 10 (.binOp .eql 0 (.tmp 8) (.const (I 0)) 0) 1,
    op 9 (.move (.global 10))])
  (.cond (.tmp 9)
    (.seq (reg [op 11 (.move (.tmp 0)) 1,
      op 12 (.move (.tmp 1)) 1,
      op 13 (bi .len #[(.global 12)] 0) 1,
      op 14 (.binOp .add 0 (.global 13) (.const (I 1)) 0) 1,
      op 15 (call (.func 7) #[(.global 11), (.global 14)]) 1,
      op 5 (.move (.global 15))])
    (reg [op 16 (.move (.tmp 1)) 1,
      op 17 (.move (.tmp 5)) 1,
      op 18 (.slice 0 (.global 16) none (some (.global 17)) none) 1,
      op 19 (.move (.tmp 0)) 1,
      op 20 (.buildSlice 1 7 #[(0, (.const (.agg #[(S []), (S []), (S []), (S []), (S []), (S []), (S [])]))), (1, (.const (S [32]))), (1001, (.const (S [48]))), (2001, (.const (S [45]))), (3001, (.const (S [120]))), (4001, (.const (S [49]))), (5001, (.const (S [57]))), (6001, (.const (S [46])))]) 1,
      op 21 (call (.func 8) #[(.global 19), (.global 20)]) 1,
      op 22 (.binOp .add 0 (.global 18) (.global 21) 0) 1,
      op 23 (.move (.tmp 1)) 1,
      op 24 (.move (.tmp 5)) 1,
      op 25 (.slice 0 (.global 23) (some (.global 24)) none none) 1,
      op 26 (.binOp .add 0 (.global 22) (.global 25) 0) 1,
      op 1 (.move (.global 26))]))
    (.seq (reg [op 28 (.binOp .eql 0 (.tmp 8) (.const (I 1)) 0) 1,
      op 27 (.move (.global 28))])
    (.cond (.tmp 27)
      (.seq (reg [op 29 (.move (.tmp 1)) 1,
        op 30 (.binOp .neq 0 (.global 29) (.const (S [])) 0)])
      (.cond (.tmp 30)
        (.seq (reg [op 31 (.move (.tmp 0)) 1,
          op 32 (.move (.tmp 1)) 1,
          op 33 (bi .len #[(.global 32)] 0) 1,
          op 34 (call (.func 7) #[(.global 31), (.global 33)]) 1,
          op 6 (.move (.global 34))])
        (reg [op 35 (.move (.tmp 1)) 1,
          op 36 (.move (.tmp 6)) 1,
          op 37 (.slice 0 (.global 35) none (some (.global 36)) none) 1,
          op 38 (.move (.tmp 1)) 1,
          op 39 (.move (.tmp 6)) 1,
          op 40 (.binOp .add 0 (.global 39) (.const (I 1)) 0) 1,
          op 41 (.slice 0 (.global 38) (some (.global 40)) none none) 1,
          op 42 (.binOp .add 0 (.global 37) (.global 41) 0) 1,
          op 1 (.move (.global 42))]))
        .skip))
      .skip))))))
(.seq (reg [op 43 (.move (.tmp 1)) 1,
  op 4 (.move (.global 43))])
.ret))), [(4, 0)]⟩

/-- impl.placeOf -/
def fn183 : AFun := ⟨3,
(.seq (reg [op 6 (.move (.const (I 0)))])
(.seq (.seq (reg [op 8 (.move (.tmp 2)) 1,
  op 7 (.move (.global 8))])
(.block 0
  (.loop
    (.seq (.seq (reg [op 9 (.move (.tmp 7)) 1,
      op 10 (.move (.tmp 0)) 1,
      op 11 (bi .len #[(.global 10)] 0) 1,
      op 12 (.binOp .lss 0 (.global 9) (.global 11) 0)])
    (.cond (.tmp 12)
      .skip
      (.exit 0)))
    (.seq (.block 1
      (.seq (reg [op 15 (.move (.tmp 0)) 1,
        op 16 (.move (.tmp 7)) 1,
        op 17 (.index 0 (.global 15) (.global 16)) 1,
        op 18 (.move (.tmp 1)) 1,
        op 19 (.binOp .eql 0 (.global 17) (.global 18) 0)])
      (.cond (.tmp 19)
        (.seq (reg [op 20 (.move (.tmp 7)) 1,
          op 6 (.move (.global 20))])
        .ret)
        .skip)))
    (reg [op 13 (.move (.tmp 7)) 1,
      op 14 (.binOp .add 0 (.global 13) (.const (I 1)) 0) 1,
      op 7 (.move (.global 14))]))))))
(.seq (reg [op 6 (.move (.const (I (-1))))])
.ret))), [(6, 0)]⟩

/-- spec.l27Digit -/
def fn567 : AFun := ⟨1,
(.seq (reg [op 2 (.move (.const (I 0)))])
(.seq (.block 0
  (.seq (reg [op 4 (.move (.tmp 0)) 1,
    op 5 (.binOp .geq 0 (.global 4) (.const (U 48)) 0) 1,
    op 6 (.move (.global 5)) 1,
    op 7 (.move (.tmp 0)) 1 (some (25, true)),
    op 8 (.binOp .leq 0 (.global 7) (.const (U 57)) 0) 1 (some (25, true)),
    op 9 (.pick (.global 6) (.global 8) (.const (B false))) 1,
    op 3 (.move (.global 9))])
  (.cond (.tmp 3)
    (.seq (reg [op 10 (.move (.tmp 0)) 1,
      op 11 (.binOp .sub 0 (.global 10) (.const (U 48)) 0) 1,
      op 12 (.convert 0 3 (.global 11)) 1,
      op 2 (.move (.global 12))])
    .ret)
    (.seq (reg [op 14 (.move (.tmp 0)) 1,
      op 15 (.binOp .geq 0 (.global 14) (.const (U 97)) 0) 1,
      op 16 (.move (.global 15)) 1,
      op 17 (.move (.tmp 0)) 1 (some (65, true)),
      op 18 (.binOp .leq 0 (.global 17) (.const (U 102)) 0) 1 (some (65, true)),
      op 19 (.pick (.global 16) (.global 18) (.const (B false))) 1,
      op 13 (.move (.global 19))])
    (.cond (.tmp 13)
      (.seq (reg [op 20 (.move (.tmp 0)) 1,
        op 21 (.binOp .sub 0 (.global 20) (.const (U 97)) 0) 1,
        op 22 (.convert 0 3 (.global 21)) 1,
        op 23 (.binOp .add 0 (.global 22) (.const (I 10)) 0) 1,
        op 2 (.move (.global 23))])
      .ret)
      .skip)))))
(.seq (reg [op 2 (.move (.const (I (-1))))])
.ret))), [(2, 0)]⟩

/-- spec.l02Same -/
def fn456 : AFun := ⟨2,
(.seq (reg [op 4 (.move (.const (B false)))])
(.seq (reg [op 5 (.move (.tmp 0)) 1,
  op 6 (.nilCheck (.global 5)) 1,
  op 7 (.fieldAddr 0 (.global 6) 0) 1,
  op 8 (.load 0 (.global 7)) 1,
  op 9 (.move (.tmp 1)) 1,
  op 10 (.nilCheck (.global 9)) 1,
  op 11 (.fieldAddr 0 (.global 10) 0) 1,
  op 12 (.load 0 (.global 11)) 1,
  op 13 (.binOp .eql 0 (.global 8) (.global 12) 0) 1,
  op 14 (.move (.global 13)) 1,
  op 15 (.move (.tmp 0)) 1 (some (57, true)),
  op 16 (.nilCheck (.global 15)) 1 (some (57, true)),
  op 17 (.fieldAddr 1 (.global 16) 0) 1 (some (57, true)),
  op 18 (.load 0 (.global 17)) 1 (some (57, true)),
  op 19 (.move (.tmp 1)) 1 (some (57, true)),
  op 20 (.nilCheck (.global 19)) 1 (some (57, true)),
  op 21 (.fieldAddr 1 (.global 20) 0) 1 (some (57, true)),
  op 22 (.load 0 (.global 21)) 1 (some (57, true)),
  op 23 (.binOp .eql 0 (.global 18) (.global 22) 0) 1 (some (57, true)),
  op 24 (.pick (.global 14) (.global 23) (.const (B false))) 1,
  op 25 (.move (.global 24)) 1,
  op 26 (.move (.tmp 0)) 1 (some (101, true)),
  op 27 (.nilCheck (.global 26)) 1 (some (101, true)),
  op 28 (.fieldAddr 2 (.global 27) 0) 1 (some (101, true)),
  op 29 (.load 0 (.global 28)) 1 (some (101, true)),
  op 30 (.move (.tmp 1)) 1 (some (101, true)),
  op 31 (.nilCheck (.global 30)) 1 (some (101, true)),
  op 32 (.fieldAddr 2 (.global 31) 0) 1 (some (101, true)),
  op 33 (.load 0 (.global 32)) 1 (some (101, true)),
  op 34 (call (.func 436) #[(.global 29), (.global 33)]) 1 (some (101, true)),
  op 35 (.pick (.global 25) (.global 34) (.const (B false))) 1,
  op 4 (.move (.global 35))])
.ret)), [(4, 0)]⟩

/-- spec.l27Sum -/
def fn573 : AFun := ⟨1,
(.seq (reg [op 2 (.move (.const (I 0)))])
(.seq (reg [op 3 (.move (.const (I 1)))])
(.seq (reg [op 4 (.move (.const (I 0)))])
(.seq (.seq (reg [op 5 (.move (.const (I 0)))])
(.block 0
  (.loop
    (.seq (.seq (reg [op 6 (.move (.tmp 5)) 1,
      op 7 (.move (.tmp 0)) 1,
      op 8 (bi .len #[(.global 7)] 0) 1,
      op 9 (.binOp .lss 0 (.global 6) (.global 8) 0)])
    (.cond (.tmp 9)
      .skip
      (.exit 0)))
    (.seq (.block 1
      (.seq (reg [op 12 (.move (.tmp 3)) 1,
        op 13 (.move (.tmp 0)) 1,
        op 14 (.move (.tmp 5)) 1,
        op 15 (.index 0 (.global 13) (.global 14)) 1,
        op 16 (.convert 0 3 (.global 15)) 1,
        op 17 (.binOp .add 0 (.global 12) (.global 16) 0) 1,
        op 18 (.binOp .rem 0 (.global 17) (.const (I 251)) 0) 1,
        op 3 (.move (.global 18))])
      (reg [op 19 (.move (.tmp 4)) 1,
        op 20 (.move (.tmp 3)) 1,
        op 21 (.binOp .add 0 (.global 19) (.global 20) 0) 1,
        op 22 (.binOp .rem 0 (.global 21) (.const (I 251)) 0) 1,
        op 4 (.move (.global 22))])))
    (reg [op 10 (.move (.tmp 5)) 1,
      op 11 (.binOp .add 0 (.global 10) (.const (I 1)) 0) 1,
      op 5 (.move (.global 11))]))))))
(.seq (reg [op 23 (.move (.tmp 4)) 1,
  op 24 (.binOp .mul 0 (.const (I 256)) (.global 23) 0) 1,
  op 25 (.move (.tmp 3)) 1,
  op 26 (.binOp .add 0 (.global 24) (.global 25) 0) 1,
  op 2 (.move (.global 26))])
.ret))))), [(2, 0)]⟩

/-- spec.l26Draw -/
def fn557 : AFun := ⟨2,
(.seq (reg [op 4 (.move (.const (.agg #[(I 0), (I 0), (sl 0 0 0 0), (sl 0 0 0 0), (sl 0 0 0 0)])))])
(.seq (reg [op 8 (.move (.tmp 0)) 1,
  op 9 (call (.func 445) #[(.global 8), (.const (I 4))]) 1,
  op 10 (.build 0 #[(0, (.const (.agg #[(I 0), (I 0), (sl 0 0 0 0), (sl 0 0 0 0), (sl 0 0 0 0)]))), (3, (.global 9))]) 1,
  op 5 (.box 5 (.const (.agg #[(I 0), (I 0), (sl 0 0 0 0), (sl 0 0 0 0), (sl 0 0 0 0)]))),
  opn (.store 5 (.tmp 5) (.global 10))])
(.seq (.seq (reg [op 11 (.move (.tmp 0)) 1,
  op 12 (.move (.tmp 1)) 1,
  op 13 (.binOp .add 0 (.global 12) (.const (I 1)) 0) 1,
  op 14 (call (.func 7) #[(.global 11), (.global 13)]) 1,
  op 6 (.move (.global 14))])
(.block 0
  (.loop
    (.seq (.seq (reg [op 15 (.move (.tmp 6)) 1,
      op 16 (.binOp .gtr 0 (.global 15) (.const (I 0)) 0)])
    (.cond (.tmp 16)
      .skip
      (.exit 0)))
    (.seq (.block 1
      (.seq (reg [op 19 (.move (.tmp 0)) 1,
        op 20 (.fieldAddr 0 (.tmp 5) 0) 1,
        op 21 (.fieldAddr 2 (.global 20) 0) 1,
        op 22 (.load 0 (.global 21)) 1,
        op 23 (bi .len #[(.global 22)] 1) 1,
        op 24 (call (.func 433) #[(.const (I 1)), (.global 23)]) 1,
        op 25 (call (.func 7) #[(.global 19), (.global 24)]) 1,
        op 7 (.move (.global 25))])
      (.seq (reg [op 26 (.move (.tmp 7)) 1,
        op 27 (.move (.tmp 0)) 1,
        op 28 (call (.func 7) #[(.global 27), (.const (I 3))]) 1,
        op 29 (call (.func 556) #[(.tmp 5), (.global 26), (.global 28)]) 1])
      (.seq (reg [op 30 (.fieldAddr 3 (.tmp 5) 0) 1,
        op 31 (.load 0 (.global 30)) 1,
        op 32 (bi .len #[(.global 31)] 1) 1,
        op 33 (.binOp .gtr 0 (.global 32) (.const (I 0)) 0) 1,
        op 34 (.move (.global 33)) 1,
        op 35 (.move (.tmp 0)) 1 (some (137, true)),
        op 36 (call (.func 6) #[(.global 35), (.const (I 4))]) 1 (some (137, true)),
        op 37 (.pick (.global 34) (.global 36) (.const (B false)))])
      (.cond (.tmp 37)
        (reg [op 38 (call (.func 564) #[(.tmp 5)]) 1])
        .skip)))))
    (reg [op 17 (.move (.tmp 6)) 1,
      op 18 (.binOp .sub 0 (.global 17) (.const (I 1)) 0) 1,
      op 6 (.move (.global 18))]))))))
(.seq (reg [op 39 (.load 6 (.tmp 5)) 1,
  op 4 (.insert 5 (.tmp 4) (.tmp 4) (.global 39))])
.ret)))), [(4, 1000006)]⟩

/-- impl.ValidJournal -/
def fn138 : AFun := ⟨1,
(.seq (reg [op 1 (.makeChan 5 (.tmp 0)),
  op 2 (.move (.const (B false)))])
(.seq (.seq (reg [op 8 (.fieldAddr 0 (.tmp 1) 1) 1,
  op 9 (.lookup 4 (.tmp 1) (.global 8) false) 1,
  op 10 (call (.func 140) #[(.global 9)]) 1,
  op 11 (.unOp .not 0 (.global 10)) 1,
  op 12 (.move (.global 11)) 1,
  op 13 (.fieldAddr 3 (.tmp 1) 1) 1 (some (49, false)),
  op 14 (.lookup 0 (.tmp 1) (.global 13) false) 1 (some (49, false)),
  op 15 (bi .len #[(.global 14)] 1) 1 (some (49, false)),
  op 16 (.fieldAddr 4 (.tmp 1) 1) 1 (some (49, false)),
  op 17 (.lookup 0 (.tmp 1) (.global 16) false) 1 (some (49, false)),
  op 18 (bi .len #[(.global 17)] 1) 1 (some (49, false)),
  op 19 (.binOp .add 0 (.global 15) (.global 18) 0) 1 (some (49, false)),
  op 20 (.binOp .gtr 0 (.global 19) (.const (I 50)) 0) 1 (some (49, false)),
  op 21 (.pick (.global 12) (.const (B true)) (.global 20))])
(.cond (.tmp 21)
  (.seq (reg [op 2 (.move (.const (B false)))])
  .ret)
  .skip))
(.seq (reg [op 22 (.fieldAddr 0 (.tmp 1) 1) 1,
  op 23 (.lookup 4 (.tmp 1) (.global 22) false) 1,
  op 24 (call (.func 150) #[(.global 23)]) 1,
  op 3 (.move (.const (.agg #[(I 0), (I 0), (sl 0 0 0 0)]))),
  op 3 (.insert 3 (.tmp 3) (.tmp 3) (.global 24))])
(.seq (.seq (reg [op 25 (.fieldAddr 3 (.tmp 1) 1) 1,
  op 26 (.lookup 0 (.tmp 1) (.global 25) false) 1,
  op 27 (bi .len #[(.global 26)] 1) 1,
  op 28 (.binOp .sub 0 (.global 27) (.const (I 1)) 0) 1,
  op 4 (.move (.global 28))])
(.block 0
  (.loop
    (.seq (.seq (reg [op 29 (.move (.tmp 4)) 1,
      op 30 (.binOp .geq 0 (.global 29) (.const (I 0)) 0)])
    (.cond (.tmp 30)
      .skip
      (.exit 0)))
    (.seq (.block 1
      (.seq (reg [op 33 (.fieldAddr 3 (.tmp 1) 1) 1,
        op 34 (.lookup 0 (.tmp 1) (.global 33) false) 1,
        op 35 (.move (.tmp 4)) 1,
        op 36 (.indexAddr 7 (.global 34) (.global 35)) 1,
        op 37 (.load 4 (.global 36)) 1,
        op 5 (.move (.const (.agg #[(I 0), (I 0), (I 0)]))),
        op 5 (.insert 3 (.tmp 5) (.tmp 5) (.global 37))])
      (.seq (.seq (reg [op 38 (.lookup 4 (.tmp 3) (.tmp 3) false) 1,
        op 39 (.lookup 4 (.tmp 5) (.tmp 5) false) 1,
        op 40 (call (.func 199) #[(.global 38), (.global 39)]) 1,
        op 41 (.unOp .not 0 (.global 40)) 1,
        op 42 (.move (.global 41)) 1,
        op 43 (.fieldAddr 2 (.tmp 3) 1) 1 (some (169, false)),
        op 44 (.lookup 0 (.tmp 3) (.global 43) false) 1 (some (169, false)),
        op 45 (.fieldAddr 0 (.tmp 5) 1) 1 (some (169, false)),
        op 46 (.lookup 0 (.tmp 5) (.global 45) false) 1 (some (169, false)),
        op 47 (.indexAddr 3 (.global 44) (.global 46)) 1 (some (169, false)),
        op 48 (.load 0 (.global 47)) 1 (some (169, false)),
        op 49 (.fieldAddr 2 (.tmp 5) 1) 1 (some (169, false)),
        op 50 (.lookup 0 (.tmp 5) (.global 49) false) 1 (some (169, false)),
        op 51 (.binOp .neq 0 (.global 48) (.global 50) 0) 1 (some (169, false)),
        op 52 (.pick (.global 42) (.const (B true)) (.global 51))])
      (.cond (.tmp 52)
        (.seq (reg [op 2 (.move (.const (B false)))])
        .ret)
        .skip))
      (reg [op 53 (.fieldAddr 2 (.tmp 3) 1) 1,
        op 54 (.lookup 0 (.tmp 3) (.global 53) false) 1,
        op 55 (.fieldAddr 0 (.tmp 5) 1) 1,
        op 56 (.lookup 0 (.tmp 5) (.global 55) false) 1,
        op 57 (.fieldAddr 1 (.tmp 5) 1) 1,
        op 58 (.lookup 0 (.tmp 5) (.global 57) false) 1,
        op 59 (.indexAddr 3 (.global 54) (.global 56)) 1,
        opn (.store 1 (.global 59) (.global 58))]))))
    (reg [op 31 (.move (.tmp 4)) 1,
      op 32 (.binOp .sub 0 (.global 31) (.const (I 1)) 0) 1,
      op 4 (.move (.global 32))]))))))
(.seq (reg [op 60 (.fieldAddr 0 (.tmp 1) 1) 1,
  op 61 (.lookup 4 (.tmp 1) (.global 60) false) 1,
  op 62 (call (.func 150) #[(.global 61)]) 1,
  op 3 (.insert 3 (.tmp 3) (.tmp 3) (.global 62))])
(.seq (.seq (reg [op 63 (.fieldAddr 4 (.tmp 1) 1) 1,
  op 64 (.lookup 0 (.tmp 1) (.global 63) false),
  op 65 (bi .len #[(.tmp 64)] 1),
  op 66 (.move (.const (I 0)))])
(.block 2
  (.loop
    (.seq (reg [op 67 (.binOp .lss 0 (.tmp 66) (.tmp 65) 0)])
    (.seq (.cond (.tmp 67)
      .skip
      (.exit 2))
    (.seq (.block 3
      (.seq (reg [op 68 (.indexAddr 7 (.tmp 64) (.tmp 66)) 1,
        op 69 (.load 4 (.global 68)) 1,
        op 7 (.move (.const (.agg #[(I 0), (I 0), (I 0)]))),
        op 7 (.insert 3 (.tmp 7) (.tmp 7) (.global 69))])
      (.seq (.seq (reg [op 70 (.lookup 4 (.tmp 3) (.tmp 3) false) 1,
        op 71 (.lookup 4 (.tmp 7) (.tmp 7) false) 1,
        op 72 (call (.func 199) #[(.global 70), (.global 71)]) 1,
        op 73 (.unOp .not 0 (.global 72)) 1,
        op 74 (.move (.global 73)) 1,
        op 75 (.fieldAddr 2 (.tmp 3) 1) 1 (some (297, false)),
        op 76 (.lookup 0 (.tmp 3) (.global 75) false) 1 (some (297, false)),
        op 77 (.fieldAddr 0 (.tmp 7) 1) 1 (some (297, false)),
        op 78 (.lookup 0 (.tmp 7) (.global 77) false) 1 (some (297, false)),
        op 79 (.indexAddr 3 (.global 76) (.global 78)) 1 (some (297, false)),
        op 80 (.load 0 (.global 79)) 1 (some (297, false)),
        op 81 (.fieldAddr 1 (.tmp 7) 1) 1 (some (297, false)),
        op 82 (.lookup 0 (.tmp 7) (.global 81) false) 1 (some (297, false)),
        op 83 (.binOp .neq 0 (.global 80) (.global 82) 0) 1 (some (297, false)),
        op 84 (.pick (.global 74) (.const (B true)) (.global 83))])
      (.cond (.tmp 84)
        (.seq (reg [op 2 (.move (.const (B false)))])
        .ret)
        .skip))
      (reg [op 85 (.fieldAddr 2 (.tmp 3) 1) 1,
        op 86 (.lookup 0 (.tmp 3) (.global 85) false) 1,
        op 87 (.fieldAddr 0 (.tmp 7) 1) 1,
        op 88 (.lookup 0 (.tmp 7) (.global 87) false) 1,
        op 89 (.fieldAddr 2 (.tmp 7) 1) 1,
        op 90 (.lookup 0 (.tmp 7) (.global 89) false) 1,
        op 91 (.indexAddr 3 (.global 86) (.global 88)) 1,
        opn (.store 1 (.global 91) (.global 90))]))))
    (reg [op 92 (.binOp .add 0 (.tmp 66) (.const (I 1)) 0) 1,
      op 66 (.move (.global 92))])))))))
(.seq (reg [op 2 (.move (.const (B true)))])
.ret))))))), [(2, 0)]⟩

/-- impl.clonePanel -/
def fn150 : AFun := ⟨1,
(.seq (reg [op 1 (.makeChan 3 (.tmp 0)),
  op 2 (.move (.const (.agg #[(I 0), (I 0), (sl 0 0 0 0)])))])
(.seq (reg [op 3 (.fieldAddr 2 (.tmp 1) 1) 1,
  op 4 (.lookup 0 (.tmp 1) (.global 3) false) 1,
  op 5 (call (.func 308) #[(.global 4)]) 1,
  op 6 (.fieldAddr 2 (.tmp 1) 1) 1,
  op 1 (.insert 1 (.tmp 1) (.global 6) (.global 5))])
(.seq (reg [op 7 (.lookup 4 (.tmp 1) (.tmp 1) false) 1,
  op 2 (.insert 3 (.tmp 2) (.tmp 2) (.global 7))])
.ret))), [(2, 1000004)]⟩

/-- (impl.Journal).start -/
def fn22 : AFun := ⟨1,
(.seq (reg [op 1 (.makeChan 5 (.tmp 0)),
  op 2 (.move (.const (.agg #[(I 0), (I 0), (sl 0 0 0 0)])))])
(.seq (reg [op 5 (.fieldAddr 0 (.tmp 1) 1) 1,
  op 6 (.lookup 4 (.tmp 1) (.global 5) false) 1,
  op 7 (call (.func 150) #[(.global 6)]) 1,
  op 3 (.move (.const (.agg #[(I 0), (I 0), (sl 0 0 0 0)]))),
  op 3 (.insert 3 (.tmp 3) (.tmp 3) (.global 7))])
(.seq (.seq (reg [op 8 (.fieldAddr 3 (.tmp 1) 1) 1,
  op 9 (.lookup 0 (.tmp 1) (.global 8) false) 1,
  op 10 (bi .len #[(.global 9)] 1) 1,
  op 11 (.binOp .sub 0 (.global 10) (.const (I 1)) 0) 1,
  op 4 (.move (.global 11))])
(.block 0
  (.loop
    (.seq (.seq (reg [op 12 (.move (.tmp 4)) 1,
      op 13 (.binOp .geq 0 (.global 12) (.const (I 0)) 0)])
    (.cond (.tmp 13)
      .skip
      (.exit 0)))
    (.seq (.block 1
      (reg [op 16 (.fieldAddr 2 (.tmp 3) 1) 1,
        op 17 (.lookup 0 (.tmp 3) (.global 16) false) 1,
        op 18 (.fieldAddr 3 (.tmp 1) 1) 1,
        op 19 (.lookup 0 (.tmp 1) (.global 18) false) 1,
        op 20 (.move (.tmp 4)) 1,
        op 21 (.indexAddr 7 (.global 19) (.global 20)) 1,
        op 22 (.fieldAddr 0 (.global 21) 0) 1,
        op 23 (.load 0 (.global 22)) 1,
        op 24 (.fieldAddr 3 (.tmp 1) 1) 1,
        op 25 (.lookup 0 (.tmp 1) (.global 24) false) 1,
        op 26 (.move (.tmp 4)) 1,
        op 27 (.indexAddr 7 (.global 25) (.global 26)) 1,
        op 28 (.fieldAddr 1 (.global 27) 0) 1,
        op 29 (.load 0 (.global 28)) 1,
        op 30 (.indexAddr 3 (.global 17) (.global 23)) 1,
        opn (.store 1 (.global 30) (.global 29))]))
    (reg [op 14 (.move (.tmp 4)) 1,
      op 15 (.binOp .sub 0 (.global 14) (.const (I 1)) 0) 1,
      op 4 (.move (.global 15))]))))))
(.seq (reg [op 31 (.lookup 4 (.tmp 3) (.tmp 3) false) 1,
  op 2 (.insert 3 (.tmp 2) (.tmp 2) (.global 31))])
.ret)))), [(2, 1000004)]⟩

/-- spec.l26Ok -/
def fn558 : AFun := ⟨1,
(.seq (reg [op 2 (.move (.const (B false)))])
(.seq (.seq (reg [op 8 (.move (.tmp 0)) 1,
  op 9 (.nilCheck (.global 8)) 1,
  op 10 (.fieldAddr 0 (.global 9) 0) 1,
  op 11 (call (.func 452) #[(.global 10)]) 1,
  op 12 (.unOp .not 0 (.global 11)) 1,
  op 13 (.move (.global 12)) 1,
  op 14 (.move (.tmp 0)) 1 (some (53, false)),
  op 15 (.nilCheck (.global 14)) 1 (some (53, false)),
  op 16 (.fieldAddr 3 (.global 15) 0) 1 (some (53, false)),
  op 17 (.load 0 (.global 16)) 1 (some (53, false)),
  op 18 (bi .len #[(.global 17)] 1) 1 (some (53, false)),
  op 19 (.move (.tmp 0)) 1 (some (53, false)),
  op 20 (.nilCheck (.global 19)) 1 (some (53, false)),
  op 21 (.fieldAddr 4 (.global 20) 0) 1 (some (53, false)),
  op 22 (.load 0 (.global 21)) 1 (some (53, false)),
  op 23 (bi .len #[(.global 22)] 1) 1 (some (53, false)),
  op 24 (.binOp .add 0 (.global 18) (.global 23) 0) 1 (some (53, false)),
  op 25 (.binOp .gtr 0 (.global 24) (.const (I 50)) 0) 1 (some (53, false)),
  op 26 (.pick (.global 13) (.const (B true)) (.global 25))])
(.cond (.tmp 26)
  (.seq (reg [op 2 (.move (.const (B false)))])
  .ret)
  .skip))
(.seq (reg [op 27 (.move (.tmp 0)) 1,
  op 28 (.nilCheck (.global 27)) 1,
  op 29 (.fieldAddr 0 (.global 28) 0) 1,
  op 30 (call (.func 453) #[(.global 29)]) 1,
  op 3 (.box 3 (.const (.agg #[(I 0), (I 0), (sl 0 0 0 0)]))),
  opn (.store 3 (.tmp 3) (.global 30))])
(.seq (.seq (reg [op 31 (.move (.tmp 0)) 1,
  op 32 (.nilCheck (.global 31)) 1,
  op 33 (.fieldAddr 3 (.global 32) 0) 1,
  op 34 (.load 0 (.global 33)) 1,
  op 35 (bi .len #[(.global 34)] 1) 1,
  op 36 (.binOp .sub 0 (.global 35) (.const (I 1)) 0) 1,
  op 4 (.move (.global 36))])
(.block 0
  (.loop
    (.seq (.seq (reg [op 37 (.move (.tmp 4)) 1,
      op 38 (.binOp .geq 0 (.global 37) (.const (I 0)) 0)])
    (.cond (.tmp 38)
      .skip
      (.exit 0)))
    (.seq (.block 1
      (.seq (reg [op 41 (.move (.tmp 0)) 1,
        op 42 (.nilCheck (.global 41)) 1,
        op 43 (.fieldAddr 3 (.global 42) 0) 1,
        op 44 (.load 0 (.global 43)) 1,
        op 45 (.move (.tmp 4)) 1,
        op 46 (.indexAddr 7 (.global 44) (.global 45)) 1,
        op 47 (.load 4 (.global 46)) 1,
        op 5 (.move (.const (.agg #[(I 0), (I 0), (I 0)]))),
        op 5 (.insert 3 (.tmp 5) (.tmp 5) (.global 47))])
      (.seq (.seq (reg [op 48 (.lookup 4 (.tmp 5) (.tmp 5) false) 1,
        op 49 (call (.func 562) #[(.tmp 3), (.global 48)]) 1,
        op 50 (.unOp .not 0 (.global 49)) 1,
        op 51 (.move (.global 50)) 1,
        op 52 (.fieldAddr 2 (.tmp 3) 0) 1 (some (205, false)),
        op 53 (.load 0 (.global 52)) 1 (some (205, false)),
        op 54 (.fieldAddr 0 (.tmp 5) 1) 1 (some (205, false)),
        op 55 (.lookup 0 (.tmp 5) (.global 54) false) 1 (some (205, false)),
        op 56 (.indexAddr 3 (.global 53) (.global 55)) 1 (some (205, false)),
        op 57 (.load 0 (.global 56)) 1 (some (205, false)),
        op 58 (.fieldAddr 2 (.tmp 5) 1) 1 (some (205, false)),
        op 59 (.lookup 0 (.tmp 5) (.global 58) false) 1 (some (205, false)),
        op 60 (.binOp .neq 0 (.global 57) (.global 59) 0) 1 (some (205, false)),
        op 61 (.pick (.global 51) (.const (B true)) (.global 60))])
      (.cond (.tmp 61)
        (.seq (reg [op 2 (.move (.const (B false)))])
        .ret)
        .skip))
      (reg [op 62 (.fieldAddr 2 (.tmp 3) 0) 1,
        op 63 (.load 0 (.global 62)) 1,
        op 64 (.fieldAddr 0 (.tmp 5) 1) 1,
        op 65 (.lookup 0 (.tmp 5) (.global 64) false) 1,
        op 66 (.fieldAddr 1 (.tmp 5) 1) 1,
        op 67 (.lookup 0 (.tmp 5) (.global 66) false) 1,
        op 68 (.indexAddr 3 (.global 63) (.global 65)) 1,
        opn (.store 1 (.global 68) (.global 67))]))))
    (reg [op 39 (.move (.tmp 4)) 1,
      op 40 (.binOp .sub 0 (.global 39) (.const (I 1)) 0) 1,
      op 4 (.move (.global 40))]))))))
(.seq (reg [op 69 (.move (.tmp 0)) 1,
  op 70 (.nilCheck (.global 69)) 1,
  op 71 (.fieldAddr 0 (.global 70) 0) 1,
  op 72 (call (.func 453) #[(.global 71)]) 1,
  opn (.store 3 (.tmp 3) (.global 72))])
(.seq (.seq (reg [op 6 (.move (.const (I 0)))])
(.block 2
  (.loop
    (.seq (.seq (reg [op 73 (.move (.tmp 6)) 1,
      op 74 (.move (.tmp 0)) 1,
      op 75 (.nilCheck (.global 74)) 1,
      op 76 (.fieldAddr 4 (.global 75) 0) 1,
      op 77 (.load 0 (.global 76)) 1,
      op 78 (bi .len #[(.global 77)] 1) 1,
      op 79 (.binOp .lss 0 (.global 73) (.global 78) 0)])
    (.cond (.tmp 79)
      .skip
      (.exit 2)))
    (.seq (.block 3
      (.seq (reg [op 82 (.move (.tmp 0)) 1,
        op 83 (.nilCheck (.global 82)) 1,
        op 84 (.fieldAddr 4 (.global 83) 0) 1,
        op 85 (.load 0 (.global 84)) 1,
        op 86 (.move (.tmp 6)) 1,
        op 87 (.indexAddr 7 (.global 85) (.global 86)) 1,
        op 88 (.load 4 (.global 87)) 1,
        op 7 (.move (.const (.agg #[(I 0), (I 0), (I 0)]))),
        op 7 (.insert 3 (.tmp 7) (.tmp 7) (.global 88))])
      (.seq (.seq (reg [op 89 (.lookup 4 (.tmp 7) (.tmp 7) false) 1,
        op 90 (call (.func 562) #[(.tmp 3), (.global 89)]) 1,
        op 91 (.unOp .not 0 (.global 90)) 1,
        op 92 (.move (.global 91)) 1,
        op 93 (.fieldAddr 2 (.tmp 3) 0) 1 (some (369, false)),
        op 94 (.load 0 (.global 93)) 1 (some (369, false)),
        op 95 (.fieldAddr 0 (.tmp 7) 1) 1 (some (369, false)),
        op 96 (.lookup 0 (.tmp 7) (.global 95) false) 1 (some (369, false)),
        op 97 (.indexAddr 3 (.global 94) (.global 96)) 1 (some (369, false)),
        op 98 (.load 0 (.global 97)) 1 (some (369, false)),
        op 99 (.fieldAddr 1 (.tmp 7) 1) 1 (some (369, false)),
        op 100 (.lookup 0 (.tmp 7) (.global 99) false) 1 (some (369, false)),
        op 101 (.binOp .neq 0 (.global 98) (.global 100) 0) 1 (some (369, false)),
        op 102 (.pick (.global 92) (.const (B true)) (.global 101))])
      (.cond (.tmp 102)
        (.seq (reg [op 2 (.move (.const (B false)))])
        .ret)
        .skip))
      (reg [op 103 (.fieldAddr 2 (.tmp 3) 0) 1,
        op 104 (.load 0 (.global 103)) 1,
        op 105 (.fieldAddr 0 (.tmp 7) 1) 1,
        op 106 (.lookup 0 (.tmp 7) (.global 105) false) 1,
        op 107 (.fieldAddr 2 (.tmp 7) 1) 1,
        op 108 (.lookup 0 (.tmp 7) (.global 107) false) 1,
        op 109 (.indexAddr 3 (.global 104) (.global 106)) 1,
        opn (.store 1 (.global 109) (.global 108))]))))
    (reg [op 80 (.move (.tmp 6)) 1,
      op 81 (.binOp .add 0 (.global 80) (.const (I 1)) 0) 1,
      op 6 (.move (.global 81))]))))))
(.seq (reg [op 2 (.move (.const (B true)))])
.ret))))))), [(2, 0)]⟩

/-- spec.l26Start -/
def fn561 : AFun := ⟨1,
(.seq (reg [op 2 (.move (.const (.agg #[(I 0), (I 0), (sl 0 0 0 0)])))])
(.seq (reg [op 5 (.move (.tmp 0)) 1,
  op 6 (.nilCheck (.global 5)) 1,
  op 7 (.fieldAddr 0 (.global 6) 0) 1,
  op 8 (call (.func 453) #[(.global 7)]) 1,
  op 3 (.move (.const (.agg #[(I 0), (I 0), (sl 0 0 0 0)]))),
  op 3 (.insert 3 (.tmp 3) (.tmp 3) (.global 8))])
(.seq (.seq (reg [op 9 (.move (.tmp 0)) 1,
  op 10 (.nilCheck (.global 9)) 1,
  op 11 (.fieldAddr 3 (.global 10) 0) 1,
  op 12 (.load 0 (.global 11)) 1,
  op 13 (bi .len #[(.global 12)] 1) 1,
  op 14 (.binOp .sub 0 (.global 13) (.const (I 1)) 0) 1,
  op 4 (.move (.global 14))])
(.block 0
  (.loop
    (.seq (.seq (reg [op 15 (.move (.tmp 4)) 1,
      op 16 (.binOp .geq 0 (.global 15) (.const (I 0)) 0)])
    (.cond (.tmp 16)
      .skip
      (.exit 0)))
    (.seq (.block 1
      (reg [op 19 (.fieldAddr 2 (.tmp 3) 1) 1,
        op 20 (.lookup 0 (.tmp 3) (.global 19) false) 1,
        op 21 (.move (.tmp 0)) 1,
        op 22 (.nilCheck (.global 21)) 1,
        op 23 (.fieldAddr 3 (.global 22) 0) 1,
        op 24 (.load 0 (.global 23)) 1,
        op 25 (.move (.tmp 4)) 1,
        op 26 (.indexAddr 7 (.global 24) (.global 25)) 1,
        op 27 (.fieldAddr 0 (.global 26) 0) 1,
        op 28 (.load 0 (.global 27)) 1,
        op 29 (.move (.tmp 0)) 1,
        op 30 (.nilCheck (.global 29)) 1,
        op 31 (.fieldAddr 3 (.global 30) 0) 1,
        op 32 (.load 0 (.global 31)) 1,
        op 33 (.move (.tmp 4)) 1,
        op 34 (.indexAddr 7 (.global 32) (.global 33)) 1,
        op 35 (.fieldAddr 1 (.global 34) 0) 1,
        op 36 (.load 0 (.global 35)) 1,
        op 37 (.indexAddr 3 (.global 20) (.global 28)) 1,
        opn (.store 1 (.global 37) (.global 36))]))
    (reg [op 17 (.move (.tmp 4)) 1,
      op 18 (.binOp .sub 0 (.global 17) (.const (I 1)) 0) 1,
      op 4 (.move (.global 18))]))))))
(.seq (reg [op 38 (.lookup 4 (.tmp 3) (.tmp 3) false) 1,
  op 2 (.insert 3 (.tmp 2) (.tmp 2) (.global 38))])
.ret)))), [(2, 1000004)]⟩

/-- impl.countCurves -/
def fn154 : AFun := ⟨1,
(.seq (reg [op 1 (.makeChan 3 (.tmp 0)),
  op 2 (.move (.const (I 0)))])
(.seq (reg [op 6 (.lookup 4 (.tmp 1) (.tmp 1) false) 1,
  op 7 (call (.func 55) #[(.global 6)]) 1,
  op 5 (.move (.global 7)) 1,
  op 8 (.extract (.global 5) 0) 1,
  op 9 (.extract (.global 5) 1) 1,
  op 3 (.move (.global 8)),
  op 4 (.move (.global 9)) 1])
(.seq (reg [op 10 (.move (.tmp 3)) 1,
  op 11 (bi .len #[(.global 10)] 1) 1,
  op 2 (.move (.global 11))])
.ret))), [(2, 0)]⟩

/-- spec.l04Count -/
def fn465 : AFun := ⟨1,
(.seq (reg [op 2 (.move (.const (I 0)))])
(.seq (reg [op 6 (.move (.tmp 0)) 1,
  op 7 (call (.func 463) #[(.global 6)]) 1,
  op 5 (.move (.global 7)) 1,
  op 8 (.extract (.global 5) 0) 1,
  op 9 (.extract (.global 5) 1) 1,
  op 3 (.move (.global 8)),
  op 4 (.move (.global 9)) 1])
(.seq (reg [op 10 (.move (.tmp 3)) 1,
  op 11 (bi .len #[(.global 10)] 1) 1,
  op 2 (.move (.global 11))])
.ret))), [(2, 0)]⟩

/-- impl.hasIndex -/
def fn163 : AFun := ⟨2,
(.seq (reg [op 4 (.move (.const (B false)))])
(.seq (reg [op 5 (.move (.tmp 0)) 1,
  op 6 (.move (.tmp 1)) 1,
  op 7 (.binOp .sub 0 (.global 6) (.const (I 1)) 0) 1,
  op 8 (call (.func 164) #[(.global 5), (.const (I 0)), (.global 7)]) 1,
  op 4 (.move (.global 8))])
.ret)), [(4, 0)]⟩

/-- impl.validBreak -/
def fn196 : AFun := ⟨1,
(.seq (reg [op 2 (.move (.const (B false)))])
(.seq (reg [op 3 (.move (.tmp 0)) 1,
  op 4 (call (.func 164) #[(.global 3), (.const (I 0)), (.const (I 2))]) 1,
  op 2 (.move (.global 4))])
.ret)), [(2, 0)]⟩

/-- impl.cloneJournal -/
def fn148 : AFun := ⟨1,
(.seq (reg [op 1 (.makeChan 5 (.tmp 0)),
  op 2 (.move (.const (.agg #[(I 0), (I 0), (sl 0 0 0 0), (sl 0 0 0 0), (sl 0 0 0 0)])))])
(.seq (reg [op 3 (.fieldAddr 0 (.tmp 1) 1) 1,
  op 4 (.lookup 4 (.tmp 1) (.global 3) false) 1,
  op 5 (call (.func 150) #[(.global 4)]) 1,
  op 6 (.fieldAddr 3 (.tmp 1) 1) 1,
  op 7 (.lookup 0 (.tmp 1) (.global 6) false) 1,
  op 8 (call (.func 307) #[(.global 7)]) 1,
  op 9 (.fieldAddr 4 (.tmp 1) 1) 1,
  op 10 (.lookup 0 (.tmp 1) (.global 9) false) 1,
  op 11 (call (.func 307) #[(.global 10)]) 1,
  op 12 (.build 0 #[(0, (.const (.agg #[(I 0), (I 0), (sl 0 0 0 0), (sl 0 0 0 0), (sl 0 0 0 0)]))), (3, (.global 5)), (3001, (.global 8)), (4001, (.global 11))]) 1,
  op 2 (.insert 5 (.tmp 2) (.tmp 2) (.global 12))])
.ret)), [(2, 1000006)]⟩

/-- (*impl.Journal).undo -/
def fn2 : AFun := ⟨1,
(.seq (reg [op 4 (.move (.tmp 0)) 1,
  op 5 (.nilCheck (.global 4)) 1,
  op 6 (.fieldAddr 3 (.global 5) 0) 1,
  op 7 (.load 0 (.global 6)) 1,
  op 8 (bi .len #[(.global 7)] 1) 1,
  op 9 (.binOp .sub 0 (.global 8) (.const (I 1)) 0) 1,
  op 2 (.move (.global 9))])
(.seq (reg [op 10 (.move (.tmp 0)) 1,
  op 11 (.nilCheck (.global 10)) 1,
  op 12 (.fieldAddr 3 (.global 11) 0) 1,
  op 13 (.load 0 (.global 12)) 1,
  op 14 (.move (.tmp 2)) 1,
  op 15 (.indexAddr 7 (.global 13) (.global 14)) 1,
  op 16 (.load 4 (.global 15)) 1,
  op 3 (.move (.const (.agg #[(I 0), (I 0), (I 0)]))),
  op 3 (.insert 3 (.tmp 3) (.tmp 3) (.global 16))])
(.seq (reg [op 17 (.move (.tmp 0)) 1,
  op 18 (.nilCheck (.global 17)) 1,
  op 19 (.fieldAddr 0 (.global 18) 0) 1,
  op 20 (.fieldAddr 2 (.global 19) 0) 1,
  op 21 (.load 0 (.global 20)) 1,
  op 22 (.fieldAddr 0 (.tmp 3) 1) 1,
  op 23 (.lookup 0 (.tmp 3) (.global 22) false) 1,
  op 24 (.fieldAddr 1 (.tmp 3) 1) 1,
  op 25 (.lookup 0 (.tmp 3) (.global 24) false) 1,
  op 26 (.indexAddr 3 (.global 21) (.global 23)) 1,
  opn (.store 1 (.global 26) (.global 25))])
(.seq (reg [op 27 (.move (.tmp 0)) 1,
  op 28 (.move (.tmp 0)) 1,
  op 29 (.nilCheck (.global 28)) 1,
  op 30 (.fieldAddr 3 (.global 29) 0) 1,
  op 31 (.load 0 (.global 30)) 1,
  op 32 (.move (.tmp 2)) 1,
  op 33 (.slice 7 (.global 31) none (some (.global 32)) none) 1,
  op 34 (.nilCheck (.global 27)) 1,
  op 35 (.fieldAddr 3 (.global 34) 0) 1,
  opn (.store 1 (.global 35) (.global 33))])
(reg [op 36 (.move (.tmp 0)) 1,
  op 37 (.move (.tmp 0)) 1,
  op 38 (.nilCheck (.global 37)) 1,
  op 39 (.fieldAddr 4 (.global 38) 0) 1,
  op 40 (.load 0 (.global 39)) 1,
  op 41 (.lookup 4 (.tmp 3) (.tmp 3) false) 1,
  op 42 (.buildSlice 3 1 #[(0, (.const (.agg #[(I 0), (I 0), (I 0)]))), (3, (.global 41))]) 1,
  op 43 (call (.func 317) #[(.global 40), (.const (I 0)), (.global 42)]) 1,
  op 44 (.nilCheck (.global 36)) 1,
  op 45 (.fieldAddr 4 (.global 44) 0) 1,
  opn (.store 1 (.global 45) (.global 43))]))))), []⟩

/-- (*impl.Journal).redo -/
def fn1 : AFun := ⟨1,
(.seq (reg [op 3 (.move (.tmp 0)) 1,
  op 4 (.nilCheck (.global 3)) 1,
  op 5 (.fieldAddr 4 (.global 4) 0) 1,
  op 6 (.load 0 (.global 5)) 1,
  op 7 (.indexAddr 7 (.global 6) (.const (I 0))) 1,
  op 8 (.load 4 (.global 7)) 1,
  op 2 (.move (.const (.agg #[(I 0), (I 0), (I 0)]))),
  op 2 (.insert 3 (.tmp 2) (.tmp 2) (.global 8))])
(.seq (reg [op 9 (.move (.tmp 0)) 1,
  op 10 (.nilCheck (.global 9)) 1,
  op 11 (.fieldAddr 0 (.global 10) 0) 1,
  op 12 (.fieldAddr 2 (.global 11) 0) 1,
  op 13 (.load 0 (.global 12)) 1,
  op 14 (.fieldAddr 0 (.tmp 2) 1) 1,
  op 15 (.lookup 0 (.tmp 2) (.global 14) false) 1,
  op 16 (.fieldAddr 2 (.tmp 2) 1) 1,
  op 17 (.lookup 0 (.tmp 2) (.global 16) false) 1,
  op 18 (.indexAddr 3 (.global 13) (.global 15)) 1,
  opn (.store 1 (.global 18) (.global 17))])
(.seq (reg [op 19 (.move (.tmp 0)) 1,
  op 20 (.move (.tmp 0)) 1,
  op 21 (.nilCheck (.global 20)) 1,
  op 22 (.fieldAddr 4 (.global 21) 0) 1,
  op 23 (.load 0 (.global 22)) 1,
  op 24 (call (.func 310) #[(.global 23), (.const (I 0)), (.const (I 1))]) 1,
  op 25 (.nilCheck (.global 19)) 1,
  op 26 (.fieldAddr 4 (.global 25) 0) 1,
  opn (.store 1 (.global 26) (.global 24))])
(reg [op 27 (.move (.tmp 0)) 1,
  op 28 (.move (.tmp 0)) 1,
  op 29 (.nilCheck (.global 28)) 1,
  op 30 (.fieldAddr 3 (.global 29) 0) 1,
  op 31 (.load 0 (.global 30)) 1,
  op 32 (.lookup 4 (.tmp 2) (.tmp 2) false) 1,
  op 33 (.buildSlice 3 1 #[(0, (.const (.agg #[(I 0), (I 0), (I 0)]))), (3, (.global 32))]) 1,
  op 34 (bi .append #[(.global 31), (.global 33)] 3) 1,
  op 35 (.nilCheck (.global 27)) 1,
  op 36 (.fieldAddr 3 (.global 35) 0) 1,
  opn (.store 1 (.global 36) (.global 34))])))), []⟩

/-- spec.l26Steps -/
def fn563 : AFun := ⟨2,
(.seq (reg [op 4 (.move (.const (B false)))])
(.seq (.seq (reg [op 6 (.move (.tmp 0)) 1,
  op 7 (bi .len #[(.global 6)] 1) 1,
  op 8 (.move (.tmp 1)) 1,
  op 9 (bi .len #[(.global 8)] 1) 1,
  op 10 (.binOp .neq 0 (.global 7) (.global 9) 0)])
(.cond (.tmp 10)
  (.seq (reg [op 4 (.move (.const (B false)))])
  .ret)
  .skip))
(.seq (.seq (reg [op 5 (.move (.const (I 0)))])
(.block 0
  (.loop
    (.seq (.seq (reg [op 11 (.move (.tmp 5)) 1,
      op 12 (.move (.tmp 0)) 1,
      op 13 (bi .len #[(.global 12)] 1) 1,
      op 14 (.binOp .lss 0 (.global 11) (.global 13) 0)])
    (.cond (.tmp 14)
      .skip
      (.exit 0)))
    (.seq (.block 1
      (.seq (reg [op 17 (.move (.tmp 0)) 1,
        op 18 (.move (.tmp 5)) 1,
        op 19 (.indexAddr 7 (.global 17) (.global 18)) 1,
        op 20 (.load 4 (.global 19)) 1,
        op 21 (.move (.tmp 1)) 1,
        op 22 (.move (.tmp 5)) 1,
        op 23 (.indexAddr 7 (.global 21) (.global 22)) 1,
        op 24 (.load 4 (.global 23)) 1,
        op 25 (.binOp .neq 5 (.global 20) (.global 24) 0)])
      (.cond (.tmp 25)
        (.seq (reg [op 4 (.move (.const (B false)))])
        .ret)
        .skip)))
    (reg [op 15 (.move (.tmp 5)) 1,
      op 16 (.binOp .add 0 (.global 15) (.const (I 1)) 0) 1,
      op 5 (.move (.global 16))]))))))
(.seq (reg [op 4 (.move (.const (B true)))])
.ret)))), [(4, 0)]⟩

/-- impl.inRange -/
def fn164 : AFun := ⟨3,
(.seq (reg [op 6 (.move (.const (B false)))])
(.seq (reg [op 7 (.move (.tmp 0)) 1,
  op 8 (.move (.tmp 1)) 1,
  op 9 (.binOp .geq 0 (.global 7) (.global 8) 0) 1,
  op 10 (.move (.global 9)) 1,
  op 11 (.move (.tmp 0)) 1 (some (41, true)),
  op 12 (.move (.tmp 2)) 1 (some (41, true)),
  op 13 (.binOp .leq 0 (.global 11) (.global 12) 0) 1 (some (41, true)),
  op 14 (.pick (.global 10) (.global 13) (.const (B false))) 1,
  op 6 (.move (.global 14))])
.ret)), [(6, 0)]⟩

/-- spec.l25Vary -/
def fn555 : AFun := ⟨2,
(.seq (reg [op 4 (.move (.const (.agg #[(I 0), (I 0), (sl 0 0 0 0)])))])
(.seq (reg [op 7 (.move (.tmp 1)) 1,
  op 8 (call (.func 453) #[(.global 7)]) 1,
  op 5 (.move (.const (.agg #[(I 0), (I 0), (sl 0 0 0 0)]))),
  op 5 (.insert 3 (.tmp 5) (.tmp 5) (.global 8))])
(.seq (.seq (reg [op 9 (.move (.tmp 0)) 1,
  op 10 (call (.func 7) #[(.global 9), (.const (I 5))]) 1,
  op 6 (.move (.global 10))])
(.block 0
  (.loop
    (.seq (.seq (reg [op 11 (.move (.tmp 6)) 1,
      op 12 (.binOp .gtr 0 (.global 11) (.const (I 0)) 0) 1,
      op 13 (.move (.global 12)) 1,
      op 14 (.fieldAddr 2 (.tmp 5) 1) 1 (some (53, true)),
      op 15 (.lookup 0 (.tmp 5) (.global 14) false) 1 (some (53, true)),
      op 16 (bi .len #[(.global 15)] 1) 1 (some (53, true)),
      op 17 (.binOp .gtr 0 (.global 16) (.const (I 0)) 0) 1 (some (53, true)),
      op 18 (.pick (.global 13) (.global 17) (.const (B false)))])
    (.cond (.tmp 18)
      .skip
      (.exit 0)))
    (.seq (.block 1
      (reg [op 21 (.fieldAddr 2 (.tmp 5) 1) 1,
        op 22 (.lookup 0 (.tmp 5) (.global 21) false) 1,
        op 23 (.move (.tmp 0)) 1,
        op 24 (.fieldAddr 2 (.tmp 5) 1) 1,
        op 25 (.lookup 0 (.tmp 5) (.global 24) false) 1,
        op 26 (bi .len #[(.global 25)] 1) 1,
        op 27 (call (.func 7) #[(.global 23), (.global 26)]) 1,
        op 28 (.move (.tmp 0)) 1,
        op 29 (call (.func 7) #[(.global 28), (.const (I 3))]) 1,
        op 30 (.indexAddr 3 (.global 22) (.global 27)) 1,
        opn (.store 1 (.global 30) (.global 29))]))
    (reg [op 19 (.move (.tmp 6)) 1,
      op 20 (.binOp .sub 0 (.global 19) (.const (I 1)) 0) 1,
      op 6 (.move (.global 20))]))))))
(.seq (reg [op 31 (.lookup 4 (.tmp 5) (.tmp 5) false) 1,
  op 4 (.insert 3 (.tmp 4) (.tmp 4) (.global 31))])
.ret)))), [(4, 1000004)]⟩

/-- impl.sameSize -/
def fn186 : AFun := ⟨2,
(.seq (reg [op 2 (.makeChan 3 (.tmp 0)),
  op 3 (.makeChan 3 (.tmp 1)),
  op 4 (.move (.const (B false)))])
(.seq (reg [op 5 (.fieldAddr 0 (.tmp 2) 1) 1,
  op 6 (.lookup 0 (.tmp 2) (.global 5) false) 1,
  op 7 (.fieldAddr 0 (.tmp 3) 1) 1,
  op 8 (.lookup 0 (.tmp 3) (.global 7) false) 1,
  op 9 (.binOp .eql 0 (.global 6) (.global 8) 0) 1,
  op 10 (.move (.global 9)) 1,
  op 11 (.fieldAddr 1 (.tmp 2) 1) 1 (some (41, true)),
  op 12 (.lookup 0 (.tmp 2) (.global 11) false) 1 (some (41, true)),
  op 13 (.fieldAddr 1 (.tmp 3) 1) 1 (some (41, true)),
  op 14 (.lookup 0 (.tmp 3) (.global 13) false) 1 (some (41, true)),
  op 15 (.binOp .eql 0 (.global 12) (.global 14) 0) 1 (some (41, true)),
  op 16 (.pick (.global 10) (.global 15) (.const (B false))) 1,
  op 4 (.move (.global 16))])
.ret)), [(4, 0)]⟩

/-- spec.l25Sizes -/
def fn552 : AFun := ⟨1,
(.seq (reg [op 2 (.move (.const (I 0)))])
(.seq (.seq (reg [op 3 (.move (.const (I 0)))])
(.block 0
  (.loop
    (.seq (.seq (reg [op 5 (.move (.tmp 3)) 1,
      op 6 (.move (.tmp 0)) 1,
      op 7 (bi .len #[(.global 6)] 1) 1,
      op 8 (.binOp .lss 0 (.global 5) (.global 7) 0)])
    (.cond (.tmp 8)
      .skip
      (.exit 0)))
    (.seq (.block 1
      (.seq (reg [op 11 (.move (.tmp 0)) 1,
        op 12 (.move (.tmp 3)) 1,
        op 13 (.indexAddr 3 (.global 11) (.global 12)) 1,
        op 14 (.load 0 (.global 13)) 1,
        op 15 (call (.func 452) #[(.global 14)]) 1,
        op 16 (.unOp .not 0 (.global 15))])
      (.cond (.tmp 16)
        (.seq (reg [op 2 (.move (.const (I 1)))])
        .ret)
        .skip)))
    (reg [op 9 (.move (.tmp 3)) 1,
      op 10 (.binOp .add 0 (.global 9) (.const (I 1)) 0) 1,
      op 3 (.move (.global 10))]))))))
(.seq (.seq (reg [op 4 (.move (.const (I 1)))])
(.block 2
  (.loop
    (.seq (.seq (reg [op 17 (.move (.tmp 4)) 1,
      op 18 (.move (.tmp 0)) 1,
      op 19 (bi .len #[(.global 18)] 1) 1,
      op 20 (.binOp .lss 0 (.global 17) (.global 19) 0)])
    (.cond (.tmp 20)
      .skip
      (.exit 2)))
    (.seq (.block 3
      (.seq (reg [op 23 (.move (.tmp 0)) 1,
        op 24 (.move (.tmp 4)) 1,
        op 25 (.indexAddr 3 (.global 23) (.global 24)) 1,
        op 26 (.load 0 (.global 25)) 1,
        op 27 (.nilCheck (.global 26)) 1,
        op 28 (.fieldAddr 0 (.global 27) 0) 1,
        op 29 (.load 0 (.global 28)) 1,
        op 30 (.move (.tmp 0)) 1,
        op 31 (.indexAddr 3 (.global 30) (.const (I 0))) 1,
        op 32 (.load 0 (.global 31)) 1,
        op 33 (.nilCheck (.global 32)) 1,
        op 34 (.fieldAddr 0 (.global 33) 0) 1,
        op 35 (.load 0 (.global 34)) 1,
        op 36 (.binOp .neq 0 (.global 29) (.global 35) 0) 1,
        op 37 (.move (.global 36)) 1,
        op 38 (.move (.tmp 0)) 1 (some (149, false)),
        op 39 (.move (.tmp 4)) 1 (some (149, false)),
        op 40 (.indexAddr 3 (.global 38) (.global 39)) 1 (some (149, false)),
        op 41 (.load 0 (.global 40)) 1 (some (149, false)),
        op 42 (.nilCheck (.global 41)) 1 (some (149, false)),
        op 43 (.fieldAddr 1 (.global 42) 0) 1 (some (149, false)),
        op 44 (.load 0 (.global 43)) 1 (some (149, false)),
        op 45 (.move (.tmp 0)) 1 (some (149, false)),
        op 46 (.indexAddr 3 (.global 45) (.const (I 0))) 1 (some (149, false)),
        op 47 (.load 0 (.global 46)) 1 (some (149, false)),
        op 48 (.nilCheck (.global 47)) 1 (some (149, false)),
        op 49 (.fieldAddr 1 (.global 48) 0) 1 (some (149, false)),
        op 50 (.load 0 (.global 49)) 1 (some (149, false)),
        op 51 (.binOp .neq 0 (.global 44) (.global 50) 0) 1 (some (149, false)),
        op 52 (.pick (.global 37) (.const (B true)) (.global 51))])
      (.cond (.tmp 52)
        (.seq (reg [op 2 (.move (.const (I 6)))])
        .ret)
        .skip)))
    (reg [op 21 (.move (.tmp 4)) 1,
      op 22 (.binOp .add 0 (.global 21) (.const (I 1)) 0) 1,
      op 4 (.move (.global 22))]))))))
(.seq (reg [op 2 (.move (.const (I 0)))])
.ret)))), [(2, 0)]⟩

/-- spec.l25Bent -/
def fn547 : AFun := ⟨2,
(.seq (reg [op 4 (.move (.const (sl 0 0 0 0)))])
(.seq (.seq (reg [op 11 (.move (.tmp 1)) 1,
  op 12 (call (.func 452) #[(.global 11)]) 1,
  op 13 (.unOp .not 0 (.global 12))])
(.cond (.tmp 13)
  (.seq (reg [op 14 (.build 0 #[(0, (.const (.agg #[(I 0), (I 0), (I 0)]))), (2001, (.const (I 1)))]) 1,
    op 15 (.buildSlice 3 1 #[(0, (.const (.agg #[(I 0), (I 0), (I 0)]))), (3, (.global 14))]) 1,
    op 4 (.move (.global 15))])
  .ret)
  .skip))
(.seq (reg [op 16 (.move (.tmp 0)) 1,
  op 17 (.move (.tmp 1)) 1,
  op 18 (call (.func 555) #[(.global 16), (.global 17)]) 1,
  op 5 (.move (.const (.agg #[(I 0), (I 0), (sl 0 0 0 0)]))),
  op 5 (.insert 3 (.tmp 5) (.tmp 5) (.global 18))])
(.seq (reg [op 20 (.move (.tmp 1)) 1,
  op 21 (.nilCheck (.global 20)) 1,
  op 22 (.load 4 (.global 21)) 1,
  op 23 (.lookup 4 (.tmp 5) (.tmp 5) false) 1,
  op 24 (call (.func 346) #[(.global 22), (.global 23)]) 1,
  op 19 (.move (.global 24)) 1,
  op 25 (.extract (.global 19) 0) 1,
  op 26 (.extract (.global 19) 1) 1,
  op 6 (.move (.global 25)),
  op 7 (.move (.global 26)) 1])
(.seq (.seq (reg [op 27 (.move (.tmp 6)) 1,
  op 28 (bi .len #[(.global 27)] 1) 1,
  op 29 (.binOp .eql 0 (.global 28) (.const (I 0)) 0)])
(.cond (.tmp 29)
  (.seq (reg [op 30 (.move (.tmp 6)) 1,
    op 4 (.move (.global 30))])
  .ret)
  .skip))
(.seq (reg [op 31 (.move (.tmp 6)) 1,
  op 32 (.indexAddr 7 (.global 31) (.const (I 0))) 1,
  op 8 (.move (.global 32))])
(.seq (.seq (reg [op 33 (.move (.tmp 0)) 1,
  op 34 (call (.func 7) #[(.global 33), (.const (I 16))])])
(.block 0
  (.seq (reg [op 36 (.binOp .eql 0 (.tmp 34) (.const (I 0)) 0) 1,
    op 35 (.move (.global 36))])
  (.cond (.tmp 35)
    (reg [op 37 (.move (.tmp 8)) 1,
      op 38 (.move (.tmp 0)) 1,
      op 39 (.move (.tmp 1)) 1,
      op 40 (.nilCheck (.global 39)) 1,
      op 41 (.fieldAddr 2 (.global 40) 0) 1,
      op 42 (.load 0 (.global 41)) 1,
      op 43 (bi .len #[(.global 42)] 1) 1,
      op 44 (.buildSlice 1 4 #[(0, (.const (.agg #[(I 0), (I 0), (I 0), (I 0)]))), (1, (.const (I (-1)))), (1001, (.global 43)), (2001, (.const (I 111))), (3001, (.const (I 112)))]) 1,
      op 45 (call (.func 4) #[(.global 38), (.global 44)]) 1,
      op 46 (.nilCheck (.global 37)) 1,
      op 47 (.fieldAddr 0 (.global 46) 0) 1,
      opn (.store 1 (.global 47) (.global 45))])
    (.seq (reg [op 49 (.binOp .eql 0 (.tmp 34) (.const (I 1)) 0) 1,
      op 48 (.move (.global 49))])
    (.cond (.tmp 48)
      (reg [op 50 (.move (.tmp 8)) 1,
        op 51 (.move (.tmp 0)) 1,
        op 52 (.buildSlice 1 3 #[(0, (.const (.agg #[(I 0), (I 0), (I 0)]))), (1, (.const (I (-1)))), (1001, (.const (I 2))), (2001, (.const (I 3)))]) 1,
        op 53 (call (.func 4) #[(.global 51), (.global 52)]) 1,
        op 54 (.nilCheck (.global 50)) 1,
        op 55 (.fieldAddr 2 (.global 54) 0) 1,
        opn (.store 1 (.global 55) (.global 53))])
      (.seq (reg [op 57 (.binOp .eql 0 (.tmp 34) (.const (I 2)) 0) 1,
        op 56 (.move (.global 57))])
      (.cond (.tmp 56)
        (reg [op 58 (.move (.tmp 8)) 1,
          op 59 (.move (.tmp 0)) 1,
          op 60 (call (.func 7) #[(.global 59), (.const (I 4))]) 1,
          op 61 (.nilCheck (.global 58)) 1,
          op 62 (.fieldAddr 1 (.global 61) 0) 1,
          opn (.store 1 (.global 62) (.global 60))])
        .skip))))))))
(.seq (.seq (reg [op 63 (.move (.tmp 0)) 1,
  op 64 (call (.func 6) #[(.global 63), (.const (I 30))])])
(.cond (.tmp 64)
  (.seq (reg [op 65 (.move (.const (sl 0 0 0 3))) 1,
    op 9 (.move (.global 65))])
  (.seq (.seq (reg [op 66 (.move (.tmp 0)) 1,
    op 67 (call (.func 7) #[(.global 66), (.const (I 2))]) 1,
    op 68 (.binOp .add 0 (.const (I 112)) (.global 67) 0) 1,
    op 10 (.move (.global 68))])
  (.block 1
    (.loop
      (.seq (.seq (reg [op 69 (.move (.tmp 10)) 1,
        op 70 (.binOp .gtr 0 (.global 69) (.const (I 0)) 0)])
      (.cond (.tmp 70)
        .skip
        (.exit 1)))
      (.seq (.block 2
        (reg [op 73 (.move (.tmp 9)) 1,
          op 74 (.move (.tmp 1)) 1,
          op 75 (.nilCheck (.global 74)) 1,
          op 76 (.fieldAddr 2 (.global 75) 0) 1,
          op 77 (.load 0 (.global 76)) 1,
          op 78 (.indexAddr 3 (.global 77) (.const (I 0))) 1,
          op 79 (.load 0 (.global 78)) 1,
          op 80 (.move (.tmp 1)) 1,
          op 81 (.nilCheck (.global 80)) 1,
          op 82 (.fieldAddr 2 (.global 81) 0) 1,
          op 83 (.load 0 (.global 82)) 1,
          op 84 (.indexAddr 3 (.global 83) (.const (I 0))) 1,
          op 85 (.load 0 (.global 84)) 1,
          op 86 (.build 0 #[(0, (.const (.agg #[(I 0), (I 0), (I 0)]))), (1, (.const (I 0))), (1001, (.global 79)), (2001, (.global 85))]) 1,
          op 87 (.buildSlice 3 1 #[(0, (.const (.agg #[(I 0), (I 0), (I 0)]))), (3, (.global 86))]) 1,
          op 88 (bi .append #[(.global 73), (.global 87)] 3) 1,
          op 9 (.move (.global 88))]))
      (reg [op 71 (.move (.tmp 10)) 1,
        op 72 (.binOp .sub 0 (.global 71) (.const (I 1)) 0) 1,
        op 10 (.move (.global 72))]))))))
  (.seq (reg [op 89 (.move (.tmp 9)) 1,
    op 4 (.move (.global 89))])
  .ret)))
  .skip))
(.seq (reg [op 90 (.move (.tmp 6)) 1,
  op 4 (.move (.global 90))])
.ret))))))))), [(4, 0)]⟩

/-- spec.l02Own -/
def fn453 : AFun := ⟨1,
(.seq (reg [op 2 (.move (.const (.agg #[(I 0), (I 0), (sl 0 0 0 0)])))])
(.seq (reg [op 3 (.move (.tmp 0)) 1,
  op 4 (.nilCheck (.global 3)) 1,
  op 5 (.fieldAddr 0 (.global 4) 0) 1,
  op 6 (.load 0 (.global 5)) 1,
  op 7 (.move (.tmp 0)) 1,
  op 8 (.nilCheck (.global 7)) 1,
  op 9 (.fieldAddr 1 (.global 8) 0) 1,
  op 10 (.load 0 (.global 9)) 1,
  op 11 (.move (.tmp 0)) 1,
  op 12 (.nilCheck (.global 11)) 1,
  op 13 (.fieldAddr 2 (.global 12) 0) 1,
  op 14 (.load 0 (.global 13)) 1,
  op 15 (call (.func 435) #[(.global 14)]) 3,
  op 16 (.build 0 #[(0, (.const (.agg #[(I 0), (I 0), (sl 0 0 0 0)]))), (1, (.global 6)), (1001, (.global 10)), (2001, (.global 15))]) 1,
  op 2 (.insert 3 (.tmp 2) (.tmp 2) (.global 16))])
.ret)), [(2, 1000004)]⟩

/-- spec.l00In -/
def fn432 : AFun := ⟨3,
(.seq (reg [op 6 (.move (.const (B false)))])
(.seq (reg [op 7 (.move (.tmp 0)) 1,
  op 8 (.move (.tmp 1)) 1,
  op 9 (.binOp .geq 0 (.global 7) (.global 8) 0) 1,
  op 10 (.move (.global 9)) 1,
  op 11 (.move (.tmp 0)) 1 (some (41, true)),
  op 12 (.move (.tmp 2)) 1 (some (41, true)),
  op 13 (.binOp .leq 0 (.global 11) (.global 12) 0) 1 (some (41, true)),
  op 14 (.pick (.global 10) (.global 13) (.const (B false))) 1,
  op 6 (.move (.global 14))])
.ret)), [(6, 0)]⟩

/-- spec.l02Kind -/
def fn449 : AFun := ⟨1,
(.seq (reg [op 2 (.move (.const (B false)))])
(.seq (reg [op 3 (.move (.tmp 0)) 1,
  op 4 (call (.func 432) #[(.global 3), (.const (I 0)), (.const (I 2))]) 1,
  op 2 (.move (.global 4))])
.ret)), [(2, 0)]⟩

/-- spec.DrawInverseDiff -/
def fn354 : AFun := ⟨1,
(.seq (reg [op 2 (.move (.const (sl 0 0 0 0)))])
(.seq (reg [op 6 (.move (.tmp 0)) 1,
  op 7 (call (.func 350) #[(.global 6)]) 1,
  op 5 (.move (.global 7)) 1,
  op 8 (.extract (.global 5) 0) 1,
  op 9 (.extract (.global 5) 1) 1,
  op 3 (.move (.const (.agg #[(I 0), (I 0), (sl 0 0 0 0)]))),
  op 3 (.insert 3 (.tmp 3) (.tmp 3) (.global 8)),
  op 4 (.move (.global 9))])
(.seq (reg [op 10 (.move (.tmp 4)) 1,
  op 2 (.move (.global 10))])
.ret))), [(2, 0)]⟩

/-- impl.validDiff -/
def fn197 : AFun := ⟨1,
(.seq (reg [op 2 (.move (.const (B false)))])
(.seq (.seq (reg [op 5 (.move (.tmp 0)),
  op 6 (bi .len #[(.tmp 5)] 1),
  op 7 (.move (.const (I 0)))])
(.block 0
  (.loop
    (.seq (reg [op 8 (.binOp .lss 0 (.tmp 7) (.tmp 6) 0)])
    (.seq (.cond (.tmp 8)
      .skip
      (.exit 0))
    (.seq (.block 1
      (.seq (reg [op 9 (.indexAddr 7 (.tmp 5) (.tmp 7)) 1,
        op 10 (.load 4 (.global 9)) 1,
        op 4 (.move (.const (.agg #[(I 0), (I 0), (I 0)]))),
        op 4 (.insert 3 (.tmp 4) (.tmp 4) (.global 10))])
      (.seq (reg [op 11 (.fieldAddr 0 (.tmp 4) 1) 1,
        op 12 (.lookup 0 (.tmp 4) (.global 11) false) 1,
        op 13 (call (.func 164) #[(.global 12), (.const (I 0)), (.const (I 111))]) 1,
        op 14 (.unOp .not 0 (.global 13)) 1,
        op 15 (.move (.global 14)) 1,
        op 16 (.fieldAddr 1 (.tmp 4) 1) 1 (some (61, false)),
        op 17 (.lookup 0 (.tmp 4) (.global 16) false) 1 (some (61, false)),
        op 18 (call (.func 196) #[(.global 17)]) 1 (some (61, false)),
        op 19 (.unOp .not 0 (.global 18)) 1 (some (61, false)),
        op 20 (.pick (.global 15) (.const (B true)) (.global 19)) 1,
        op 21 (.move (.global 20)) 1,
        op 22 (.fieldAddr 2 (.tmp 4) 1) 1 (some (85, false)),
        op 23 (.lookup 0 (.tmp 4) (.global 22) false) 1 (some (85, false)),
        op 24 (call (.func 196) #[(.global 23)]) 1 (some (85, false)),
        op 25 (.unOp .not 0 (.global 24)) 1 (some (85, false)),
        op 26 (.pick (.global 21) (.const (B true)) (.global 25))])
      (.cond (.tmp 26)
        (.seq (reg [op 2 (.move (.const (B false)))])
        .ret)
        .skip))))
    (reg [op 27 (.binOp .add 0 (.tmp 7) (.const (I 1)) 0) 1,
      op 7 (.move (.global 27))])))))))
(.seq (reg [op 28 (.move (.tmp 0)) 1,
  op 29 (bi .len #[(.global 28)] 1) 1,
  op 30 (.binOp .leq 0 (.global 29) (.const (I 112)) 0) 1,
  op 2 (.move (.global 30))])
.ret))), [(2, 0)]⟩

/-- impl.Decimal -/
def fn75 : AFun := ⟨1,
(.seq (reg [op 2 (.move (.const (S [])))])
(.seq (.seq (reg [op 6 (.move (.tmp 0)) 1,
  op 7 (.binOp .eql 0 (.global 6) (.const (I 0)) 0)])
(.cond (.tmp 7)
  (.seq (reg [op 2 (.move (.const (S [48])))])
  .ret)
  .skip))
(.seq (reg [op 8 (.build 0 #[(0, (.const (.agg #[(U 0), (U 0), (U 0), (U 0), (U 0), (U 0), (U 0), (U 0), (U 0), (U 0), (U 0), (U 0), (U 0), (U 0), (U 0), (U 0), (U 0), (U 0), (U 0), (U 0)])))]) 1,
  op 3 (.box 20 (.const (.agg #[(U 0), (U 0), (U 0), (U 0), (U 0), (U 0), (U 0), (U 0), (U 0), (U 0), (U 0), (U 0), (U 0), (U 0), (U 0), (U 0), (U 0), (U 0), (U 0), (U 0)]))),
  opn (.store 20 (.tmp 3) (.global 8))])
(.seq (reg [op 4 (.move (.const (I 20)))])
(.seq (reg [op 9 (.move (.tmp 0)) 1,
  op 10 (.convert 0 7 (.global 9)) 1,
  op 5 (.move (.global 10))])
(.seq (.seq (reg [op 11 (.move (.tmp 0)) 1,
  op 12 (.binOp .lss 0 (.global 11) (.const (I 0)) 0)])
(.cond (.tmp 12)
  (reg [op 13 (.move (.tmp 5)) 1,
    op 14 (.unOp .neg 0 (.global 13)) 1,
    op 5 (.move (.global 14))])
  .skip))
(.seq (.block 0
  (.loop
    (.seq (.seq (reg [op 15 (.move (.tmp 5)) 1,
      op 16 (.binOp .gtr 0 (.global 15) (.const (.int .u64 0)) 0)])
    (.cond (.tmp 16)
      .skip
      (.exit 0)))
    (.block 1
      (.seq (reg [op 17 (.move (.tmp 4)) 1,
        op 18 (.binOp .sub 0 (.global 17) (.const (I 1)) 0) 1,
        op 4 (.move (.global 18))])
      (.seq (reg [op 19 (.move (.tmp 4)) 1,
        op 20 (.move (.tmp 5)) 1,
        op 21 (.binOp .rem 0 (.global 20) (.const (.int .u64 10)) 0) 1,
        op 22 (.binOp .add 0 (.const (.int .u64 48)) (.global 21) 0) 1,
        op 23 (.convert 0 4 (.global 22)) 1,
        op 24 (.indexAddr 1020001 (.tmp 3) (.global 19)) 1,
        opn (.store 1 (.global 24) (.global 23))])
      (reg [op 25 (.move (.tmp 5)) 1,
        op 26 (.binOp .quo 0 (.global 25) (.const (.int .u64 10)) 0) 1,
        op 5 (.move (.global 26))])))))))
(.seq (.seq (reg [op 27 (.move (.tmp 0)) 1,
  op 28 (.binOp .lss 0 (.global 27) (.const (I 0)) 0)])
(.cond (.tmp 28)
  (.seq (reg [op 29 (.move (.tmp 4)) 1,
    op 30 (.binOp .sub 0 (.global 29) (.const (I 1)) 0) 1,
    op 4 (.move (.global 30))])
  (reg [op 31 (.move (.tmp 4)) 1,
    op 32 (.indexAddr 1020001 (.tmp 3) (.global 31)) 1,
    opn (.store 1 (.global 32) (.const (U 45)))]))
  .skip))
(.seq (reg [op 33 (.move (.tmp 4)) 1,
  op 34 (.slice 1020001 (.tmp 3) (some (.global 33)) none none) 1,
  op 35 (.convert 0 21 (.global 34)) 1,
  op 2 (.move (.global 35))])
.ret))))))))), [(2, 0)]⟩

/-- impl.joined -/
def fn167 : AFun := ⟨2,
(.seq (reg [op 4 (.move (.const (S [])))])
(.seq (reg [op 5 (.move (.const (S [])))])
(.seq (.seq (reg [op 8 (.move (.tmp 0)),
  op 9 (bi .len #[(.tmp 8)] 1),
  op 10 (.move (.const (I 0)))])
(.block 0
  (.loop
    (.seq (reg [op 11 (.binOp .lss 0 (.tmp 10) (.tmp 9) 0)])
    (.seq (.cond (.tmp 11)
      .skip
      (.exit 0))
    (.seq (.block 1
      (.seq (reg [op 12 (.move (.tmp 10)) 1,
        op 13 (.indexAddr 3 (.tmp 8) (.tmp 10)) 1,
        op 14 (.load 0 (.global 13)) 1,
        op 6 (.move (.global 12)),
        op 7 (.move (.global 14))])
      (.seq (.seq (reg [op 15 (.move (.tmp 6)) 1,
        op 16 (.binOp .gtr 0 (.global 15) (.const (I 0)) 0)])
      (.cond (.tmp 16)
        (reg [op 17 (.move (.tmp 5)) 1,
          op 18 (.move (.tmp 1)) 1,
          op 19 (.binOp .add 0 (.global 17) (.global 18) 0) 1,
          op 5 (.move (.global 19))])
        .skip))
      (reg [op 20 (.move (.tmp 5)) 1,
        op 21 (.move (.tmp 7)) 1,
        op 22 (.binOp .add 0 (.global 20) (.global 21) 0) 1,
        op 5 (.move (.global 22))]))))
    (reg [op 23 (.binOp .add 0 (.tmp 10) (.const (I 1)) 0) 1,
      op 10 (.move (.global 23))])))))))
(.seq (reg [op 24 (.move (.tmp 5)) 1,
  op 4 (.move (.global 24))])
.ret)))), [(4, 0)]⟩

/-- impl.splitAt -/
def fn189 : AFun := ⟨2,
(.seq (reg [op 4 (.move (.const (sl 0 0 0 0)))])
(.seq (reg [op 8 (.move (.const (sl 0 0 0 1))) 1,
  op 5 (.move (.global 8))])
(.seq (reg [op 6 (.move (.const (I 0)))])
(.seq (.seq (reg [op 9 (.move (.tmp 0)) 1,
  op 10 (bi .len #[(.global 9)] 0),
  op 11 (.move (.const (I 0)))])
(.block 0
  (.loop
    (.seq (reg [op 12 (.binOp .lss 0 (.tmp 11) (.tmp 10) 0)])
    (.seq (.cond (.tmp 12)
      .skip
      (.exit 0))
    (.seq (.block 1
      (.seq (reg [op 13 (.move (.tmp 11)) 1,
        op 7 (.move (.global 13))])
      (.seq (reg [op 14 (.move (.tmp 0)) 1,
        op 15 (.move (.tmp 7)) 1,
        op 16 (.index 0 (.global 14) (.global 15)) 1,
        op 17 (.move (.tmp 1)) 1,
        op 18 (.binOp .eql 0 (.global 16) (.global 17) 0)])
      (.cond (.tmp 18)
        (.seq (reg [op 19 (.move (.tmp 5)) 1,
          op 20 (.move (.tmp 0)) 1,
          op 21 (.move (.tmp 6)) 1,
          op 22 (.move (.tmp 7)) 1,
          op 23 (.slice 0 (.global 20) (some (.global 21)) (some (.global 22)) none) 1,
          op 24 (.buildSlice 1 1 #[(0, (.const (.agg #[(S [])]))), (1, (.global 23))]) 1,
          op 25 (bi .append #[(.global 19), (.global 24)] 1) 1,
          op 5 (.move (.global 25))])
        (reg [op 26 (.move (.tmp 7)) 1,
          op 27 (.binOp .add 0 (.global 26) (.const (I 1)) 0) 1,
          op 6 (.move (.global 27))]))
        .skip))))
    (reg [op 28 (.binOp .add 0 (.tmp 11) (.const (I 1)) 0) 1,
      op 11 (.move (.global 28))])))))))
(.seq (reg [op 29 (.move (.tmp 5)) 1,
  op 30 (.move (.tmp 0)) 1,
  op 31 (.move (.tmp 6)) 1,
  op 32 (.slice 0 (.global 30) (some (.global 31)) none none) 1,
  op 33 (.buildSlice 1 1 #[(0, (.const (.agg #[(S [])]))), (1, (.global 32))]) 1,
  op 34 (bi .append #[(.global 29), (.global 33)] 1) 1,
  op 4 (.move (.global 34))])
.ret))))), [(4, 0)]⟩

/-- impl.ReadDecimal -/
def fn118 : AFun := ⟨1,
(.seq (reg [op 2 (.move (.const (I 0))),
  op 3 (.move (.const (B false)))])
(.seq (reg [op 7 (.move (.tmp 0)) 1,
  op 4 (.move (.global 7))])
(.seq (.seq (reg [op 8 (.move (.tmp 0)) 1,
  op 9 (bi .len #[(.global 8)] 0) 1,
  op 10 (.binOp .gtr 0 (.global 9) (.const (I 0)) 0) 1,
  op 11 (.move (.global 10)) 1,
  op 12 (.move (.tmp 0)) 1 (some (45, true)),
  op 13 (.index 0 (.global 12) (.const (I 0))) 1 (some (45, true)),
  op 14 (.binOp .eql 0 (.global 13) (.const (U 45)) 0) 1 (some (45, true)),
  op 15 (.pick (.global 11) (.global 14) (.const (B false)))])
(.cond (.tmp 15)
  (reg [op 16 (.move (.tmp 0)) 1,
    op 17 (.slice 0 (.global 16) (some (.const (I 1))) none none) 1,
    op 4 (.move (.global 17))])
  .skip))
(.seq (.seq (reg [op 18 (.move (.tmp 4)) 1,
  op 19 (bi .len #[(.global 18)] 0) 1,
  op 20 (.binOp .lss 0 (.global 19) (.const (I 1)) 0) 1,
  op 21 (.move (.global 20)) 1,
  op 22 (.move (.tmp 4)) 1 (some (85, false)),
  op 23 (bi .len #[(.global 22)] 0) 1 (some (85, false)),
  op 24 (.binOp .gtr 0 (.global 23) (.const (I 18)) 0) 1 (some (85, false)),
  op 25 (.pick (.global 21) (.const (B true)) (.global 24))])
(.cond (.tmp 25)
  (.seq (reg [op 2 (.move (.const (I 0))),
    op 3 (.move (.const (B false)))])
  .ret)
  .skip))
(.seq (reg [op 5 (.move (.const (I 0)))])
(.seq (.seq (reg [op 26 (.move (.tmp 4)) 1,
  op 27 (bi .len #[(.global 26)] 0),
  op 28 (.move (.const (I 0)))])
(.block 0
  (.loop
    (.seq (reg [op 29 (.binOp .lss 0 (.tmp 28) (.tmp 27) 0)])
    (.seq (.cond (.tmp 29)
      .skip
      (.exit 0))
    (.seq (.block 1
      (.seq (reg [op 30 (.move (.tmp 28)) 1,
        op 6 (.move (.global 30))])
      (.seq (.seq (reg [op 31 (.move (.tmp 4)) 1,
        op 32 (.move (.tmp 6)) 1,
        op 33 (.index 0 (.global 31) (.global 32)) 1,
        op 34 (.binOp .lss 0 (.global 33) (.const (U 48)) 0) 1,
        op 35 (.move (.global 34)) 1,
        op 36 (.move (.tmp 4)) 1 (some (141, false)),
        op 37 (.move (.tmp 6)) 1 (some (141, false)),
        op 38 (.index 0 (.global 36) (.global 37)) 1 (some (141, false)),
        op 39 (.binOp .gtr 0 (.global 38) (.const (U 57)) 0) 1 (some (141, false)),
        op 40 (.pick (.global 35) (.const (B true)) (.global 39))])
      (.cond (.tmp 40)
        (.seq (reg [op 2 (.move (.const (I 0))),
          op 3 (.move (.const (B false)))])
        .ret)
        .skip))
      (reg [op 41 (.move (.tmp 5)) 1,
        op 42 (.binOp .mul 0 (.const (I 10)) (.global 41) 0) 1,
        op 43 (.move (.tmp 4)) 1,
        op 44 (.move (.tmp 6)) 1,
        op 45 (.index 0 (.global 43) (.global 44)) 1,
        op 46 (.binOp .sub 0 (.global 45) (.const (U 48)) 0) 1,
        op 47 (.convert 0 3 (.global 46)) 1,
        op 48 (.binOp .add 0 (.global 42) (.global 47) 0) 1,
        op 5 (.move (.global 48))]))))
    (reg [op 49 (.binOp .add 0 (.tmp 28) (.const (I 1)) 0) 1,
      op 28 (.move (.global 49))])))))))
(.seq (.seq (reg [op 50 (.move (.tmp 4)) 1,
  op 51 (bi .len #[(.global 50)] 0) 1,
  op 52 (.move (.tmp 0)) 1,
  op 53 (bi .len #[(.global 52)] 0) 1,
  op 54 (.binOp .lss 0 (.global 51) (.global 53) 0)])
(.cond (.tmp 54)
  (reg [op 55 (.move (.tmp 5)) 1,
    op 56 (.unOp .neg 0 (.global 55)) 1,
    op 5 (.move (.global 56))])
  .skip))
(.seq (.seq (reg [op 57 (.move (.tmp 5)) 1,
  op 58 (call (.func 75) #[(.global 57)]) 1,
  op 59 (.move (.tmp 0)) 1,
  op 60 (.binOp .neq 0 (.global 58) (.global 59) 0)])
(.cond (.tmp 60)
  (.seq (reg [op 2 (.move (.const (I 0))),
    op 3 (.move (.const (B false)))])
  .ret)
  .skip))
(.seq (reg [op 61 (.move (.tmp 5)) 1,
  op 2 (.move (.global 61)),
  op 3 (.move (.const (B true)))])
.ret))))))))), [(2, 0), (3, 0)]⟩

/-- impl.markKind -/
def fn174 : AFun := ⟨1,
(.seq (reg [op 2 (.move (.const (I 0)))])
(.seq (.seq (reg [op 4 (.move (.const (I 0)))])
(.block 0
  (.loop
    (.seq (reg [op 5 (.binOp .lss 0 (.tmp 4) (.const (I 3)) 0)])
    (.seq (.cond (.tmp 5)
      .skip
      (.exit 0))
    (.seq (.block 1
      (.seq (reg [op 6 (.move (.tmp 4)) 1,
        op 3 (.move (.global 6))])
      (.seq (reg [op 7 (.move (.tmp 3)) 1,
        op 8 (.index 0 (.const (S [43, 124, 45])) (.global 7)) 1,
        op 9 (.move (.tmp 0)) 1,
        op 10 (.binOp .eql 0 (.global 8) (.global 9) 0)])
      (.cond (.tmp 10)
        (.seq (reg [op 11 (.move (.tmp 3)) 1,
          op 2 (.move (.global 11))])
        .ret)
        .skip))))
    (reg [op 12 (.binOp .add 0 (.tmp 4) (.const (I 1)) 0) 1,
      op 4 (.move (.global 12))])))))))
(.seq (reg [op 2 (.move (.const (I (-1))))])
.ret))), [(2, 0)]⟩

/-- spec.l25List -/
def fn550 : AFun := ⟨1,
(.seq (reg [op 2 (.move (.const (B false)))])
(.seq (.seq (reg [op 3 (.move (.const (I 0)))])
(.block 0
  (.loop
    (.seq (.seq (reg [op 4 (.move (.tmp 3)) 1,
      op 5 (.move (.tmp 0)) 1,
      op 6 (bi .len #[(.global 5)] 1) 1,
      op 7 (.binOp .lss 0 (.global 4) (.global 6) 0)])
    (.cond (.tmp 7)
      .skip
      (.exit 0)))
    (.seq (.block 1
      (.seq (reg [op 10 (.move (.tmp 0)) 1,
        op 11 (.move (.tmp 3)) 1,
        op 12 (.indexAddr 7 (.global 10) (.global 11)) 1,
        op 13 (.fieldAddr 0 (.global 12) 0) 1,
        op 14 (.load 0 (.global 13)) 1,
        op 15 (call (.func 432) #[(.global 14), (.const (I 0)), (.const (I 111))]) 1,
        op 16 (.unOp .not 0 (.global 15)) 1,
        op 17 (.move (.global 16)) 1,
        op 18 (.move (.tmp 0)) 1 (some (69, false)),
        op 19 (.move (.tmp 3)) 1 (some (69, false)),
        op 20 (.indexAddr 7 (.global 18) (.global 19)) 1 (some (69, false)),
        op 21 (.fieldAddr 1 (.global 20) 0) 1 (some (69, false)),
        op 22 (.load 0 (.global 21)) 1 (some (69, false)),
        op 23 (call (.func 449) #[(.global 22)]) 1 (some (69, false)),
        op 24 (.unOp .not 0 (.global 23)) 1 (some (69, false)),
        op 25 (.pick (.global 17) (.const (B true)) (.global 24)) 1,
        op 26 (.move (.global 25)) 1,
        op 27 (.move (.tmp 0)) 1 (some (105, false)),
        op 28 (.move (.tmp 3)) 1 (some (105, false)),
        op 29 (.indexAddr 7 (.global 27) (.global 28)) 1 (some (105, false)),
        op 30 (.fieldAddr 2 (.global 29) 0) 1 (some (105, false)),
        op 31 (.load 0 (.global 30)) 1 (some (105, false)),
        op 32 (call (.func 449) #[(.global 31)]) 1 (some (105, false)),
        op 33 (.unOp .not 0 (.global 32)) 1 (some (105, false)),
        op 34 (.pick (.global 26) (.const (B true)) (.global 33))])
      (.cond (.tmp 34)
        (.seq (reg [op 2 (.move (.const (B false)))])
        .ret)
        .skip)))
    (reg [op 8 (.move (.tmp 3)) 1,
      op 9 (.binOp .add 0 (.global 8) (.const (I 1)) 0) 1,
      op 3 (.move (.global 9))]))))))
(.seq (reg [op 35 (.move (.tmp 0)) 1,
  op 36 (bi .len #[(.global 35)] 1) 1,
  op 37 (.binOp .leq 0 (.global 36) (.const (I 112)) 0) 1,
  op 2 (.move (.global 37))])
.ret))), [(2, 0)]⟩

/-- (*spec.l00Src).text -/
def fn8 : AFun := ⟨2,
(.seq (reg [op 4 (.move (.const (S [])))])
(.seq (reg [op 5 (.move (.tmp 1)) 1,
  op 6 (.move (.tmp 0)) 1,
  op 7 (.move (.tmp 1)) 1,
  op 8 (bi .len #[(.global 7)] 1) 1,
  op 9 (call (.func 7) #[(.global 6), (.global 8)]) 1,
  op 10 (.indexAddr 3 (.global 5) (.global 9)) 1,
  op 11 (.load 0 (.global 10)) 1,
  op 4 (.move (.global 11))])
.ret)), [(4, 0)]⟩

/-- spec.l25Text -/
def fn553 : AFun := ⟨1,
(.seq (reg [op 2 (.move (.const (S [])))])
(.seq (reg [op 5 (.move (.const (sl 0 0 0 1))) 1,
  op 3 (.move (.global 5))])
(.seq (.seq (reg [op 4 (.move (.const (I 0)))])
(.block 0
  (.loop
    (.seq (.seq (reg [op 6 (.move (.tmp 4)) 1,
      op 7 (.move (.tmp 0)) 1,
      op 8 (bi .len #[(.global 7)] 1) 1,
      op 9 (.binOp .lss 0 (.global 6) (.global 8) 0)])
    (.cond (.tmp 9)
      .skip
      (.exit 0)))
    (.seq (.block 1
      (.seq (.seq (reg [op 12 (.move (.tmp 4)) 1,
        op 13 (.binOp .gtr 0 (.global 12) (.const (I 0)) 0)])
      (.cond (.tmp 13)
        (reg [op 14 (.move (.tmp 3)) 1,
          op 15 (.buildSlice 1 1 #[(0, (.const (.agg #[(U 0)]))), (1, (.const (U 32)))]) 1,
          op 16 (bi .append #[(.global 14), (.global 15)] 1) 1,
          op 3 (.move (.global 16))])
        .skip))
      (.seq (reg [op 17 (.move (.tmp 3)) 1,
        op 18 (.move (.tmp 0)) 1,
        op 19 (.move (.tmp 4)) 1,
        op 20 (.indexAddr 7 (.global 18) (.global 19)) 1,
        op 21 (.fieldAddr 0 (.global 20) 0) 1,
        op 22 (.load 0 (.global 21)) 1,
        op 23 (call (.func 437) #[(.global 22)]) 1,
        op 24 (bi .append #[(.global 17), (.global 23)] 1) 1,
        op 3 (.move (.global 24))])
      (reg [op 25 (.move (.tmp 3)) 1,
        op 26 (.move (.tmp 0)) 1,
        op 27 (.move (.tmp 4)) 1,
        op 28 (.indexAddr 7 (.global 26) (.global 27)) 1,
        op 29 (.fieldAddr 1 (.global 28) 0) 1,
        op 30 (.load 0 (.global 29)) 1,
        op 31 (call (.func 470) #[(.global 30)]) 3,
        op 32 (.move (.tmp 0)) 1,
        op 33 (.move (.tmp 4)) 1,
        op 34 (.indexAddr 7 (.global 32) (.global 33)) 1,
        op 35 (.fieldAddr 2 (.global 34) 0) 1,
        op 36 (.load 0 (.global 35)) 1,
        op 37 (call (.func 470) #[(.global 36)]) 1,
        op 38 (.buildSlice 1 2 #[(0, (.const (.agg #[(U 0), (U 0)]))), (1, (.global 31)), (1001, (.global 37))]) 1,
        op 39 (bi .append #[(.global 25), (.global 38)] 1) 1,
        op 3 (.move (.global 39))]))))
    (reg [op 10 (.move (.tmp 4)) 1,
      op 11 (.binOp .add 0 (.global 10) (.const (I 1)) 0) 1,
      op 4 (.move (.global 11))]))))))
(.seq (reg [op 40 (.move (.tmp 3)) 1,
  op 41 (.convert 0 21 (.global 40)) 1,
  op 2 (.move (.global 41))])
.ret)))), [(2, 0)]⟩

/-- spec.l01Split -/
def fn441 : AFun := ⟨2,
(.seq (reg [op 4 (.move (.const (sl 0 0 0 0)))])
(.seq (reg [op 8 (.move (.const (sl 0 0 0 1))) 1,
  op 5 (.move (.global 8))])
(.seq (reg [op 6 (.move (.const (I 0)))])
(.seq (.seq (reg [op 7 (.move (.const (I 0)))])
(.block 0
  (.loop
    (.seq (.seq (reg [op 9 (.move (.tmp 7)) 1,
      op 10 (.move (.tmp 0)) 1,
      op 11 (bi .len #[(.global 10)] 0) 1,
      op 12 (.binOp .lss 0 (.global 9) (.global 11) 0)])
    (.cond (.tmp 12)
      .skip
      (.exit 0)))
    (.seq (.block 1
      (.seq (reg [op 15 (.move (.tmp 0)) 1,
        op 16 (.move (.tmp 7)) 1,
        op 17 (.index 0 (.global 15) (.global 16)) 1,
        op 18 (.move (.tmp 1)) 1,
        op 19 (.binOp .eql 0 (.global 17) (.global 18) 0)])
      (.cond (.tmp 19)
        (.seq (reg [op 20 (.move (.tmp 5)) 1,
          op 21 (.move (.tmp 0)) 1,
          op 22 (.move (.tmp 6)) 1,
          op 23 (.move (.tmp 7)) 1,
          op 24 (.slice 0 (.global 21) (some (.global 22)) (some (.global 23)) none) 1,
          op 25 (.buildSlice 1 1 #[(0, (.const (.agg #[(S [])]))), (1, (.global 24))]) 1,
          op 26 (bi .append #[(.global 20), (.global 25)] 1) 1,
          op 5 (.move (.global 26))])
        (reg [op 27 (.move (.tmp 7)) 1,
          op 28 (.binOp .add 0 (.global 27) (.const (I 1)) 0) 1,
          op 6 (.move (.global 28))]))
        .skip)))
    (reg [op 13 (.move (.tmp 7)) 1,
      op 14 (.binOp .add 0 (.global 13) (.const (I 1)) 0) 1,
      op 7 (.move (.global 14))]))))))
(.seq (reg [op 29 (.move (.tmp 5)) 1,
  op 30 (.move (.tmp 0)) 1,
  op 31 (.move (.tmp 6)) 1,
  op 32 (.slice 0 (.global 30) (some (.global 31)) none none) 1,
  op 33 (.buildSlice 1 1 #[(0, (.const (.agg #[(S [])]))), (1, (.global 32))]) 1,
  op 34 (bi .append #[(.global 29), (.global 33)] 1) 1,
  op 4 (.move (.global 34))])
.ret))))), [(4, 0)]⟩

/-- spec.l01Number -/
def fn439 : AFun := ⟨1,
(.seq (reg [op 2 (.move (.const (I 0))),
  op 3 (.move (.const (B false)))])
(.seq (reg [op 7 (.move (.tmp 0)) 1,
  op 4 (.move (.global 7))])
(.seq (.seq (reg [op 8 (.move (.tmp 4)) 1,
  op 9 (.binOp .neq 0 (.global 8) (.const (S [])) 0) 1,
  op 10 (.move (.global 9)) 1,
  op 11 (.move (.tmp 4)) 1 (some (41, true)),
  op 12 (.index 0 (.global 11) (.const (I 0))) 1 (some (41, true)),
  op 13 (.binOp .eql 0 (.global 12) (.const (U 45)) 0) 1 (some (41, true)),
  op 14 (.pick (.global 10) (.global 13) (.const (B false)))])
(.cond (.tmp 14)
  (reg [op 15 (.move (.tmp 4)) 1,
    op 16 (.slice 0 (.global 15) (some (.const (I 1))) none none) 1,
    op 4 (.move (.global 16))])
  .skip))
(.seq (.seq (reg [op 17 (.move (.tmp 4)) 1,
  op 18 (bi .len #[(.global 17)] 0) 1,
  op 19 (.binOp .lss 0 (.global 18) (.const (I 1)) 0) 1,
  op 20 (.move (.global 19)) 1,
  op 21 (.move (.tmp 4)) 1 (some (81, false)),
  op 22 (bi .len #[(.global 21)] 0) 1 (some (81, false)),
  op 23 (.binOp .gtr 0 (.global 22) (.const (I 18)) 0) 1 (some (81, false)),
  op 24 (.pick (.global 20) (.const (B true)) (.global 23))])
(.cond (.tmp 24)
  (.seq (reg [op 2 (.move (.const (I 0))),
    op 3 (.move (.const (B false)))])
  .ret)
  .skip))
(.seq (reg [op 5 (.move (.const (I 0)))])
(.seq (.seq (reg [op 6 (.move (.const (I 0)))])
(.block 0
  (.loop
    (.seq (.seq (reg [op 25 (.move (.tmp 6)) 1,
      op 26 (.move (.tmp 4)) 1,
      op 27 (bi .len #[(.global 26)] 0) 1,
      op 28 (.binOp .lss 0 (.global 25) (.global 27) 0)])
    (.cond (.tmp 28)
      .skip
      (.exit 0)))
    (.seq (.block 1
      (.seq (.seq (reg [op 31 (.move (.tmp 4)) 1,
        op 32 (.move (.tmp 6)) 1,
        op 33 (.index 0 (.global 31) (.global 32)) 1,
        op 34 (call (.func 438) #[(.global 33)]) 1,
        op 35 (.unOp .not 0 (.global 34))])
      (.cond (.tmp 35)
        (.seq (reg [op 2 (.move (.const (I 0))),
          op 3 (.move (.const (B false)))])
        .ret)
        .skip))
      (reg [op 36 (.move (.tmp 5)) 1,
        op 37 (.binOp .mul 0 (.const (I 10)) (.global 36) 0) 1,
        op 38 (.move (.tmp 4)) 1,
        op 39 (.move (.tmp 6)) 1,
        op 40 (.index 0 (.global 38) (.global 39)) 1,
        op 41 (.binOp .sub 0 (.global 40) (.const (U 48)) 0) 1,
        op 42 (.convert 0 3 (.global 41)) 1,
        op 43 (.binOp .add 0 (.global 37) (.global 42) 0) 1,
        op 5 (.move (.global 43))])))
    (reg [op 29 (.move (.tmp 6)) 1,
      op 30 (.binOp .add 0 (.global 29) (.const (I 1)) 0) 1,
      op 6 (.move (.global 30))]))))))
(.seq (.seq (reg [op 44 (.move (.tmp 4)) 1,
  op 45 (bi .len #[(.global 44)] 0) 1,
  op 46 (.move (.tmp 0)) 1,
  op 47 (bi .len #[(.global 46)] 0) 1,
  op 48 (.binOp .lss 0 (.global 45) (.global 47) 0)])
(.cond (.tmp 48)
  (reg [op 49 (.move (.tmp 5)) 1,
    op 50 (.unOp .neg 0 (.global 49)) 1,
    op 5 (.move (.global 50))])
  .skip))
(.seq (.seq (reg [op 51 (.move (.tmp 5)) 1,
  op 52 (call (.func 437) #[(.global 51)]) 1,
  op 53 (.move (.tmp 0)) 1,
  op 54 (.binOp .neq 0 (.global 52) (.global 53) 0)])
(.cond (.tmp 54)
  (.seq (reg [op 2 (.move (.const (I 0))),
    op 3 (.move (.const (B false)))])
  .ret)
  .skip))
(.seq (reg [op 55 (.move (.tmp 5)) 1,
  op 2 (.move (.global 55)),
  op 3 (.move (.const (B true)))])
.ret))))))))), [(2, 0), (3, 0)]⟩

/-- spec.l05Kind -/
def fn467 : AFun := ⟨1,
(.seq (reg [op 2 (.move (.const (I 0)))])
(.seq (.seq (reg [op 3 (.move (.tmp 0))])
(.block 0
  (.seq (reg [op 5 (.binOp .eql 0 (.tmp 3) (.const (U 43)) 0) 1,
    op 4 (.move (.global 5))])
  (.cond (.tmp 4)
    (.seq (reg [op 2 (.move (.const (I 0)))])
    .ret)
    (.seq (reg [op 7 (.binOp .eql 0 (.tmp 3) (.const (U 124)) 0) 1,
      op 6 (.move (.global 7))])
    (.cond (.tmp 6)
      (.seq (reg [op 2 (.move (.const (I 1)))])
      .ret)
      (.seq (reg [op 9 (.binOp .eql 0 (.tmp 3) (.const (U 45)) 0) 1,
        op 8 (.move (.global 9))])
      (.cond (.tmp 8)
        (.seq (reg [op 2 (.move (.const (I 2)))])
        .ret)
        .skip))))))))
(.seq (reg [op 2 (.move (.const (I (-1))))])
.ret))), [(2, 0)]⟩

/-- spec.l25Three -/
def fn554 : AFun := ⟨1,
(.seq (reg [op 2 (.move (.const (.agg #[(I 0), (I 0), (sl 0 0 0 0)]))),
  op 3 (.move (.const (.agg #[(I 0), (I 0), (sl 0 0 0 0)]))),
  op 4 (.move (.const (.agg #[(I 0), (I 0), (sl 0 0 0 0)])))])
(.seq (reg [op 8 (.move (.tmp 0)) 1,
  op 9 (call (.func 431) #[(.global 8)]) 1,
  op 5 (.move (.global 9))])
(.seq (reg [op 10 (.move (.tmp 5)) 1,
  op 11 (call (.func 443) #[(.global 10)]) 1,
  op 6 (.box 3 (.const (.agg #[(I 0), (I 0), (sl 0 0 0 0)]))),
  opn (.store 3 (.tmp 6) (.global 11))])
(.seq (reg [op 12 (.move (.tmp 5)) 1,
  op 13 (call (.func 555) #[(.global 12), (.tmp 6)]) 1,
  op 7 (.move (.const (.agg #[(I 0), (I 0), (sl 0 0 0 0)]))),
  op 7 (.insert 3 (.tmp 7) (.tmp 7) (.global 13))])
(.seq (.seq (reg [op 14 (.move (.tmp 5)) 1,
  op 15 (call (.func 6) #[(.global 14), (.const (I 10))])])
(.cond (.tmp 15)
  (.seq (reg [op 16 (.load 4 (.tmp 6)) 1,
    op 17 (.lookup 4 (.tmp 7) (.tmp 7) false) 1,
    op 18 (.move (.tmp 5)) 1,
    op 19 (call (.func 443) #[(.global 18)]) 3,
    op 2 (.insert 3 (.tmp 2) (.tmp 2) (.global 16)),
    op 3 (.insert 3 (.tmp 3) (.tmp 3) (.global 17)),
    op 4 (.insert 3 (.tmp 4) (.tmp 4) (.global 19))])
  .ret)
  .skip))
(.seq (reg [op 20 (.load 4 (.tmp 6)) 1,
  op 21 (.lookup 4 (.tmp 7) (.tmp 7) false) 1,
  op 22 (.move (.tmp 5)) 1,
  op 23 (call (.func 555) #[(.global 22), (.tmp 6)]) 3,
  op 2 (.insert 3 (.tmp 2) (.tmp 2) (.global 20)),
  op 3 (.insert 3 (.tmp 3) (.tmp 3) (.global 21)),
  op 4 (.insert 3 (.tmp 4) (.tmp 4) (.global 23))])
.ret)))))), [(2, 1000004), (3, 1000004), (4, 1000004)]⟩

/-- spec.l25Clashes -/
def fn548 : AFun := ⟨3,
(.seq (reg [op 6 (.move (.const (sl 0 0 0 0)))])
(.seq (reg [op 11 (.move (.const (sl 0 0 0 1))) 1,
  op 7 (.move (.global 11))])
(.seq (.seq (reg [op 8 (.move (.const (I 0)))])
(.block 0
  (.loop
    (.seq (.seq (reg [op 12 (.move (.tmp 8)) 1,
      op 13 (.move (.tmp 0)) 1,
      op 14 (.nilCheck (.global 13)) 1,
      op 15 (.fieldAddr 2 (.global 14) 0) 1,
      op 16 (.load 0 (.global 15)) 1,
      op 17 (bi .len #[(.global 16)] 1) 1,
      op 18 (.binOp .lss 0 (.global 12) (.global 17) 0)])
    (.cond (.tmp 18)
      .skip
      (.exit 0)))
    (.seq (.block 1
      (.seq (reg [op 21 (.move (.tmp 1)) 1,
        op 22 (.nilCheck (.global 21)) 1,
        op 23 (.fieldAddr 2 (.global 22) 0) 1,
        op 24 (.load 0 (.global 23)) 1,
        op 25 (.move (.tmp 8)) 1,
        op 26 (.indexAddr 3 (.global 24) (.global 25)) 1,
        op 27 (.load 0 (.global 26)) 1,
        op 9 (.move (.global 27))])
      (.seq (reg [op 28 (.move (.tmp 2)) 1,
        op 29 (.nilCheck (.global 28)) 1,
        op 30 (.fieldAddr 2 (.global 29) 0) 1,
        op 31 (.load 0 (.global 30)) 1,
        op 32 (.move (.tmp 8)) 1,
        op 33 (.indexAddr 3 (.global 31) (.global 32)) 1,
        op 34 (.load 0 (.global 33)) 1,
        op 10 (.move (.global 34))])
      (.seq (reg [op 35 (.move (.tmp 9)) 1,
        op 36 (.move (.tmp 0)) 1,
        op 37 (.nilCheck (.global 36)) 1,
        op 38 (.fieldAddr 2 (.global 37) 0) 1,
        op 39 (.load 0 (.global 38)) 1,
        op 40 (.move (.tmp 8)) 1,
        op 41 (.indexAddr 3 (.global 39) (.global 40)) 1,
        op 42 (.load 0 (.global 41)) 1,
        op 43 (.binOp .neq 0 (.global 35) (.global 42) 0) 1,
        op 44 (.move (.global 43)) 1,
        op 45 (.move (.tmp 10)) 1 (some (177, true)),
        op 46 (.move (.tmp 0)) 1 (some (177, true)),
        op 47 (.nilCheck (.global 46)) 1 (some (177, true)),
        op 48 (.fieldAddr 2 (.global 47) 0) 1 (some (177, true)),
        op 49 (.load 0 (.global 48)) 1 (some (177, true)),
        op 50 (.move (.tmp 8)) 1 (some (177, true)),
        op 51 (.indexAddr 3 (.global 49) (.global 50)) 1 (some (177, true)),
        op 52 (.load 0 (.global 51)) 1 (some (177, true)),
        op 53 (.binOp .neq 0 (.global 45) (.global 52) 0) 1 (some (177, true)),
        op 54 (.pick (.global 44) (.global 53) (.const (B false))) 1,
        op 55 (.move (.global 54)) 1,
        op 56 (.move (.tmp 9)) 1 (some (221, true)),
        op 57 (.move (.tmp 10)) 1 (some (221, true)),
        op 58 (.binOp .neq 0 (.global 56) (.global 57) 0) 1 (some (221, true)),
        op 59 (.pick (.global 55) (.global 58) (.const (B false)))])
      (.cond (.tmp 59)
        (reg [op 60 (.move (.tmp 7)) 1,
          op 61 (.move (.tmp 8)) 1,
          op 62 (.buildSlice 1 1 #[(0, (.const (.agg #[(I 0)]))), (1, (.global 61))]) 1,
          op 63 (bi .append #[(.global 60), (.global 62)] 1) 1,
          op 7 (.move (.global 63))])
        .skip)))))
    (reg [op 19 (.move (.tmp 8)) 1,
      op 20 (.binOp .add 0 (.global 19) (.const (I 1)) 0) 1,
      op 8 (.move (.global 20))]))))))
(.seq (reg [op 64 (.move (.tmp 7)) 1,
  op 6 (.move (.global 64))])
.ret)))), [(6, 0)]⟩

/-- spec.l02Draw -/
def fn445 : AFun := ⟨2,
(.seq (reg [op 4 (.move (.const (.agg #[(I 0), (I 0), (sl 0 0 0 0)])))])
(.seq (reg [op 9 (.move (.tmp 0)) 1,
  op 10 (.move (.tmp 1)) 1,
  op 11 (call (.func 7) #[(.global 9), (.global 10)]) 1,
  op 12 (.binOp .add 0 (.const (I 1)) (.global 11) 0) 1,
  op 5 (.move (.global 12))])
(.seq (reg [op 13 (.move (.tmp 5)) 1,
  op 14 (.move (.tmp 0)) 1,
  op 15 (.move (.tmp 1)) 1,
  op 16 (call (.func 7) #[(.global 14), (.global 15)]) 1,
  op 17 (.binOp .add 0 (.const (I 1)) (.global 16) 0) 1,
  op 18 (call (.func 450) #[(.global 13), (.global 17)]) 1,
  op 6 (.move (.const (.agg #[(I 0), (I 0), (sl 0 0 0 0)]))),
  op 6 (.insert 3 (.tmp 6) (.tmp 6) (.global 18))])
(.seq (reg [op 19 (.move (.tmp 0)) 1,
  op 20 (call (.func 7) #[(.global 19), (.const (I 4))]) 1,
  op 7 (.move (.global 20))])
(.seq (.seq (reg [op 8 (.move (.const (I 0)))])
(.block 0
  (.loop
    (.seq (.seq (reg [op 21 (.move (.tmp 8)) 1,
      op 22 (.fieldAddr 2 (.tmp 6) 1) 1,
      op 23 (.lookup 0 (.tmp 6) (.global 22) false) 1,
      op 24 (bi .len #[(.global 23)] 1) 1,
      op 25 (.binOp .lss 0 (.global 21) (.global 24) 0)])
    (.cond (.tmp 25)
      .skip
      (.exit 0)))
    (.seq (.block 1
      (.seq (reg [op 28 (.move (.tmp 0)) 1,
        op 29 (call (.func 7) #[(.global 28), (.const (I 4))]) 1,
        op 30 (.move (.tmp 7)) 1,
        op 31 (.binOp .lss 0 (.global 29) (.global 30) 0)])
      (.cond (.tmp 31)
        (reg [op 32 (.fieldAddr 2 (.tmp 6) 1) 1,
          op 33 (.lookup 0 (.tmp 6) (.global 32) false) 1,
          op 34 (.move (.tmp 8)) 1,
          op 35 (.move (.tmp 0)) 1,
          op 36 (call (.func 7) #[(.global 35), (.const (I 2))]) 1,
          op 37 (.binOp .add 0 (.const (I 1)) (.global 36) 0) 1,
          op 38 (.indexAddr 3 (.global 33) (.global 34)) 1,
          opn (.store 1 (.global 38) (.global 37))])
        .skip)))
    (reg [op 26 (.move (.tmp 8)) 1,
      op 27 (.binOp .add 0 (.global 26) (.const (I 1)) 0) 1,
      op 8 (.move (.global 27))]))))))
(.seq (reg [op 39 (.lookup 4 (.tmp 6) (.tmp 6) false) 1,
  op 4 (.insert 3 (.tmp 4) (.tmp 4) (.global 39))])
.ret)))))), [(4, 1000004)]⟩

/-- (impl.Panel).hasPart -/
def fn33 : AFun := ⟨5,
(.seq (reg [op 5 (.makeChan 3 (.tmp 0)),
  op 10 (.move (.const (B false)))])
(.seq (reg [op 11 (.move (.tmp 3)) 1,
  op 12 (.fieldAddr 0 (.tmp 5) 1) 1,
  op 13 (.lookup 0 (.tmp 5) (.global 12) false) 1,
  op 14 (call (.func 164) #[(.global 11), (.const (I 1)), (.global 13)]) 1,
  op 15 (.move (.global 14)) 1,
  op 16 (.move (.tmp 4)) 1 (some (61, true)),
  op 17 (.fieldAddr 1 (.tmp 5) 1) 1 (some (61, true)),
  op 18 (.lookup 0 (.tmp 5) (.global 17) false) 1 (some (61, true)),
  op 19 (call (.func 164) #[(.global 16), (.const (I 1)), (.global 18)]) 1 (some (61, true)),
  op 20 (.pick (.global 15) (.global 19) (.const (B false))) 1,
  op 21 (.move (.global 20)) 1,
  op 22 (.move (.tmp 1)) 1 (some (85, true)),
  op 23 (.fieldAddr 0 (.tmp 5) 1) 1 (some (85, true)),
  op 24 (.lookup 0 (.tmp 5) (.global 23) false) 1 (some (85, true)),
  op 25 (.move (.tmp 3)) 1 (some (85, true)),
  op 26 (.binOp .sub 0 (.global 24) (.global 25) 0) 1 (some (85, true)),
  op 27 (call (.func 164) #[(.global 22), (.const (I 0)), (.global 26)]) 1 (some (85, true)),
  op 28 (.pick (.global 21) (.global 27) (.const (B false))) 1,
  op 29 (.move (.global 28)) 1,
  op 30 (.move (.tmp 2)) 1 (some (117, true)),
  op 31 (.fieldAddr 1 (.tmp 5) 1) 1 (some (117, true)),
  op 32 (.lookup 0 (.tmp 5) (.global 31) false) 1 (some (117, true)),
  op 33 (.move (.tmp 4)) 1 (some (117, true)),
  op 34 (.binOp .sub 0 (.global 32) (.global 33) 0) 1 (some (117, true)),
  op 35 (call (.func 164) #[(.global 30), (.const (I 0)), (.global 34)]) 1 (some (117, true)),
  op 36 (.pick (.global 29) (.global 35) (.const (B false))) 1,
  op 10 (.move (.global 36))])
.ret)), [(10, 0)]⟩

/-- (impl.Panel).paste -/
def fn46 : AFun := ⟨4,
(.seq (reg [op 4 (.makeChan 3 (.tmp 0)),
  op 7 (.makeChan 3 (.tmp 3))])
(.seq (reg [op 10 (.lookup 4 (.tmp 7) (.tmp 7) false) 1,
  op 11 (call (.func 49) #[(.global 10)]),
  op 12 (bi .len #[(.tmp 11)] 1),
  op 13 (.move (.const (I 0)))])
(.block 0
  (.loop
    (.seq (reg [op 14 (.binOp .lss 0 (.tmp 13) (.tmp 12) 0)])
    (.seq (.cond (.tmp 14)
      .skip
      (.exit 0))
    (.seq (.block 1
      (.seq (reg [op 15 (.move (.tmp 13)) 1,
        op 16 (.indexAddr 5 (.tmp 11) (.tmp 13)) 1,
        op 17 (.load 3 (.global 16)) 1,
        op 9 (.move (.const (.agg #[(I 0), (I 0)]))),
        op 8 (.move (.global 15)),
        op 9 (.insert 2 (.tmp 9) (.tmp 9) (.global 17))])
      (reg [op 18 (.fieldAddr 2 (.tmp 4) 1) 1,
        op 19 (.lookup 0 (.tmp 4) (.global 18) false) 1,
        op 20 (.lookup 4 (.tmp 4) (.tmp 4) false) 1,
        op 21 (.lookup 3 (.tmp 9) (.tmp 9) false) 1,
        op 22 (.move (.tmp 1)) 1,
        op 23 (.move (.tmp 2)) 1,
        op 24 (call (.func 188) #[(.global 21), (.global 22), (.global 23)]) 3,
        op 25 (call (.func 40) #[(.global 20), (.global 24)]) 3,
        op 26 (.fieldAddr 2 (.tmp 7) 1) 1,
        op 27 (.lookup 0 (.tmp 7) (.global 26) false) 1,
        op 28 (.move (.tmp 8)) 1,
        op 29 (.indexAddr 3 (.global 27) (.global 28)) 1,
        op 30 (.load 0 (.global 29)) 1,
        op 31 (.indexAddr 3 (.global 19) (.global 25)) 1,
        opn (.store 1 (.global 31) (.global 30))])))
    (reg [op 32 (.binOp .add 0 (.tmp 13) (.const (I 1)) 0) 1,
      op 13 (.move (.global 32))])))))))), []⟩

/-- spec.l25In -/
def fn549 : AFun := ⟨5,
(.seq (reg [op 10 (.move (.const (B false)))])
(.seq (reg [op 11 (.move (.tmp 3)) 1,
  op 12 (.move (.tmp 0)) 1,
  op 13 (.nilCheck (.global 12)) 1,
  op 14 (.fieldAddr 0 (.global 13) 0) 1,
  op 15 (.load 0 (.global 14)) 1,
  op 16 (call (.func 432) #[(.global 11), (.const (I 1)), (.global 15)]) 1,
  op 17 (.move (.global 16)) 1,
  op 18 (.move (.tmp 4)) 1 (some (69, true)),
  op 19 (.move (.tmp 0)) 1 (some (69, true)),
  op 20 (.nilCheck (.global 19)) 1 (some (69, true)),
  op 21 (.fieldAddr 1 (.global 20) 0) 1 (some (69, true)),
  op 22 (.load 0 (.global 21)) 1 (some (69, true)),
  op 23 (call (.func 432) #[(.global 18), (.const (I 1)), (.global 22)]) 1 (some (69, true)),
  op 24 (.pick (.global 17) (.global 23) (.const (B false))) 1,
  op 25 (.move (.global 24)) 1,
  op 26 (.move (.tmp 1)) 1 (some (101, true)),
  op 27 (.move (.tmp 0)) 1 (some (101, true)),
  op 28 (.nilCheck (.global 27)) 1 (some (101, true)),
  op 29 (.fieldAddr 0 (.global 28) 0) 1 (some (101, true)),
  op 30 (.load 0 (.global 29)) 1 (some (101, true)),
  op 31 (.move (.tmp 3)) 1 (some (101, true)),
  op 32 (.binOp .sub 0 (.global 30) (.global 31) 0) 1 (some (101, true)),
  op 33 (call (.func 432) #[(.global 26), (.const (I 0)), (.global 32)]) 1 (some (101, true)),
  op 34 (.pick (.global 25) (.global 33) (.const (B false))) 1,
  op 35 (.move (.global 34)) 1,
  op 36 (.move (.tmp 2)) 1 (some (141, true)),
  op 37 (.move (.tmp 0)) 1 (some (141, true)),
  op 38 (.nilCheck (.global 37)) 1 (some (141, true)),
  op 39 (.fieldAddr 1 (.global 38) 0) 1 (some (141, true)),
  op 40 (.load 0 (.global 39)) 1 (some (141, true)),
  op 41 (.move (.tmp 4)) 1 (some (141, true)),
  op 42 (.binOp .sub 0 (.global 40) (.global 41) 0) 1 (some (141, true)),
  op 43 (call (.func 432) #[(.global 36), (.const (I 0)), (.global 42)]) 1 (some (141, true)),
  op 44 (.pick (.global 35) (.global 43) (.const (B false))) 1,
  op 10 (.move (.global 44))])
.ret)), [(10, 0)]⟩

/-- spec.l25Paste -/
def fn551 : AFun := ⟨4,
(.seq (reg [op 8 (.move (.const (I 0)))])
(.block 0
  (.loop
    (.seq (.seq (reg [op 10 (.move (.tmp 8)) 1,
      op 11 (.move (.tmp 3)) 1,
      op 12 (.nilCheck (.global 11)) 1,
      op 13 (.fieldAddr 2 (.global 12) 0) 1,
      op 14 (.load 0 (.global 13)) 1,
      op 15 (bi .len #[(.global 14)] 1) 1,
      op 16 (.binOp .lss 0 (.global 10) (.global 15) 0)])
    (.cond (.tmp 16)
      .skip
      (.exit 0)))
    (.seq (.block 1
      (.seq (reg [op 19 (.move (.tmp 3)) 1,
        op 20 (.move (.tmp 8)) 1,
        op 21 (call (.func 454) #[(.global 19), (.global 20)]) 1,
        op 9 (.move (.const (.agg #[(I 0), (I 0)]))),
        op 9 (.insert 2 (.tmp 9) (.tmp 9) (.global 21))])
      (reg [op 22 (.move (.tmp 0)) 1,
        op 23 (.nilCheck (.global 22)) 1,
        op 24 (.fieldAddr 2 (.global 23) 0) 1,
        op 25 (.load 0 (.global 24)) 1,
        op 26 (.move (.tmp 0)) 1,
        op 27 (.fieldAddr 0 (.tmp 9) 1) 1,
        op 28 (.lookup 0 (.tmp 9) (.global 27) false) 1,
        op 29 (.move (.tmp 1)) 1,
        op 30 (.binOp .mul 0 (.const (I 2)) (.global 29) 0) 1,
        op 31 (.binOp .add 0 (.global 28) (.global 30) 0) 1,
        op 32 (.fieldAddr 1 (.tmp 9) 1) 1,
        op 33 (.lookup 0 (.tmp 9) (.global 32) false) 1,
        op 34 (.move (.tmp 2)) 1,
        op 35 (.binOp .mul 0 (.const (I 2)) (.global 34) 0) 1,
        op 36 (.binOp .add 0 (.global 33) (.global 35) 0) 1,
        op 37 (.build 0 #[(0, (.const (.agg #[(I 0), (I 0)]))), (1, (.global 31)), (1001, (.global 36))]) 1,
        op 38 (call (.func 451) #[(.global 26), (.global 37)]) 3,
        op 39 (.move (.tmp 3)) 1,
        op 40 (.nilCheck (.global 39)) 1,
        op 41 (.fieldAddr 2 (.global 40) 0) 1,
        op 42 (.load 0 (.global 41)) 1,
        op 43 (.move (.tmp 8)) 1,
        op 44 (.indexAddr 3 (.global 42) (.global 43)) 1,
        op 45 (.load 0 (.global 44)) 1,
        op 46 (.indexAddr 3 (.global 25) (.global 38)) 1,
        opn (.store 1 (.global 46) (.global 45))])))
    (reg [op 17 (.move (.tmp 8)) 1,
      op 18 (.binOp .add 0 (.global 17) (.const (I 1)) 0) 1,
      op 8 (.move (.global 18))])))))), []⟩

/-- impl.newPanel -/
def fn177 : AFun := ⟨2,
(.seq (reg [op 4 (.move (.const (.agg #[(I 0), (I 0), (sl 0 0 0 0)])))])
(.seq (reg [op 5 (.move (.tmp 0)) 1,
  op 6 (.move (.tmp 1)) 1,
  op 7 (.move (.tmp 0)) 1,
  op 8 (.move (.tmp 1)) 1,
  op 9 (call (.func 166) #[(.global 7), (.global 8)]) 1,
  op 10 (.mapUpdate 1 (.global 9) (.global 9) (.const (.agg #[(I 0)]))) 1,
  op 11 (.build 0 #[(0, (.const (.agg #[(I 0), (I 0), (sl 0 0 0 0)]))), (1, (.global 5)), (1001, (.global 6)), (2001, (.global 10))]) 1,
  op 4 (.insert 3 (.tmp 4) (.tmp 4) (.global 11))])
.ret)), [(4, 1000004)]⟩

/-- (impl.Panel).points -/
def fn49 : AFun := ⟨1,
(.seq (reg [op 1 (.makeChan 3 (.tmp 0)),
  op 2 (.move (.const (sl 0 0 0 0)))])
(.seq (reg [op 6 (.move (.const (sl 0 0 0 2))) 1,
  op 3 (.move (.global 6))])
(.seq (.seq (reg [op 4 (.move (.const (I 1)))])
(.block 0
  (.loop
    (.seq (.seq (reg [op 7 (.move (.tmp 4)) 1,
      op 8 (.fieldAddr 1 (.tmp 1) 1) 1,
      op 9 (.lookup 0 (.tmp 1) (.global 8) false) 1,
      op 10 (.binOp .mul 0 (.const (I 2)) (.global 9) 0) 1,
      op 11 (.binOp .lss 0 (.global 7) (.global 10) 0)])
    (.cond (.tmp 11)
      .skip
      (.exit 0)))
    (.seq (.block 1
      (.seq (reg [op 14 (.move (.tmp 4)) 1,
        op 15 (.binOp .rem 0 (.global 14) (.const (I 2)) 0) 1,
        op 16 (.binOp .add 0 (.const (I 1)) (.global 15) 0) 1,
        op 5 (.move (.global 16))])
      (.block 2
        (.loop
          (.seq (.seq (reg [op 17 (.move (.tmp 5)) 1,
            op 18 (.fieldAddr 0 (.tmp 1) 1) 1,
            op 19 (.lookup 0 (.tmp 1) (.global 18) false) 1,
            op 20 (.binOp .mul 0 (.const (I 2)) (.global 19) 0) 1,
            op 21 (.binOp .lss 0 (.global 17) (.global 20) 0)])
          (.cond (.tmp 21)
            .skip
            (.exit 2)))
          (.seq (.block 3
            (reg [op 24 (.move (.tmp 3)) 1,
              op 25 (.move (.tmp 5)) 1,
              op 26 (.move (.tmp 4)) 1,
              op 27 (.build 0 #[(0, (.const (.agg #[(I 0), (I 0)]))), (1, (.global 25)), (1001, (.global 26))]) 1,
              op 28 (.buildSlice 2 1 #[(0, (.const (.agg #[(I 0), (I 0)]))), (2, (.global 27))]) 1,
              op 29 (bi .append #[(.global 24), (.global 28)] 2) 1,
              op 3 (.move (.global 29))]))
          (reg [op 22 (.move (.tmp 5)) 1,
            op 23 (.binOp .add 0 (.global 22) (.const (I 2)) 0) 1,
            op 5 (.move (.global 23))])))))))
    (reg [op 12 (.move (.tmp 4)) 1,
      op 13 (.binOp .add 0 (.global 12) (.const (I 1)) 0) 1,
      op 4 (.move (.global 13))]))))))
(.seq (reg [op 30 (.move (.tmp 3)) 1,
  op 2 (.move (.global 30))])
.ret)))), [(2, 0)]⟩

/-- (impl.Panel).number -/
def fn40 : AFun := ⟨2,
(.seq (reg [op 2 (.makeChan 3 (.tmp 0)),
  op 3 (.makeChan 2 (.tmp 1)),
  op 4 (.move (.const (I 0)))])
(.seq (reg [op 6 (.fieldAddr 1 (.tmp 3) 1) 1,
  op 7 (.lookup 0 (.tmp 3) (.global 6) false) 1,
  op 8 (.binOp .quo 0 (.global 7) (.const (I 2)) 0) 1,
  op 9 (.fieldAddr 0 (.tmp 2) 1) 1,
  op 10 (.lookup 0 (.tmp 2) (.global 9) false) 1,
  op 11 (.binOp .sub 0 (.global 10) (.const (I 1)) 0) 1,
  op 12 (.binOp .mul 0 (.global 8) (.global 11) 0) 1,
  op 13 (.fieldAddr 1 (.tmp 3) 1) 1,
  op 14 (.lookup 0 (.tmp 3) (.global 13) false) 1,
  op 15 (.binOp .sub 0 (.global 14) (.const (I 1)) 0) 1,
  op 16 (.binOp .quo 0 (.global 15) (.const (I 2)) 0) 1,
  op 17 (.fieldAddr 0 (.tmp 2) 1) 1,
  op 18 (.lookup 0 (.tmp 2) (.global 17) false) 1,
  op 19 (.binOp .mul 0 (.global 16) (.global 18) 0) 1,
  op 20 (.binOp .add 0 (.global 12) (.global 19) 0) 1,
  op 5 (.move (.global 20))])
(.seq (.seq (reg [op 21 (.fieldAddr 1 (.tmp 3) 1) 1,
  op 22 (.lookup 0 (.tmp 3) (.global 21) false) 1,
  op 23 (.binOp .rem 0 (.global 22) (.const (I 2)) 0) 1,
  op 24 (.binOp .eql 0 (.global 23) (.const (I 1)) 0)])
(.cond (.tmp 24)
  (.seq (reg [op 25 (.move (.tmp 5)) 1,
    op 26 (.fieldAddr 0 (.tmp 3) 1) 1,
    op 27 (.lookup 0 (.tmp 3) (.global 26) false) 1,
    op 28 (.binOp .quo 0 (.global 27) (.const (I 2)) 0) 1,
    op 29 (.binOp .add 0 (.global 25) (.global 28) 0) 1,
    op 30 (.binOp .sub 0 (.global 29) (.const (I 1)) 0) 1,
    op 4 (.move (.global 30))])
  .ret)
  .skip))
(.seq (reg [op 31 (.move (.tmp 5)) 1,
  op 32 (.fieldAddr 0 (.tmp 3) 1) 1,
  op 33 (.lookup 0 (.tmp 3) (.global 32) false) 1,
  op 34 (.binOp .quo 0 (.global 33) (.const (I 2)) 0) 1,
  op 35 (.binOp .add 0 (.global 31) (.global 34) 0) 1,
  op 4 (.move (.global 35))])
.ret)))), [(4, 0)]⟩

/-- impl.shifted -/
def fn188 : AFun := ⟨3,
(.seq (reg [op 3 (.makeChan 2 (.tmp 0)),
  op 6 (.move (.const (.agg #[(I 0), (I 0)])))])
(.seq (reg [op 7 (.fieldAddr 0 (.tmp 3) 1) 1,
  op 8 (.lookup 0 (.tmp 3) (.global 7) false) 1,
  op 9 (.move (.tmp 1)) 1,
  op 10 (.binOp .mul 0 (.const (I 2)) (.global 9) 0) 1,
  op 11 (.binOp .add 0 (.global 8) (.global 10) 0) 1,
  op 12 (.fieldAddr 1 (.tmp 3) 1) 1,
  op 13 (.lookup 0 (.tmp 3) (.global 12) false) 1,
  op 14 (.move (.tmp 2)) 1,
  op 15 (.binOp .mul 0 (.const (I 2)) (.global 14) 0) 1,
  op 16 (.binOp .add 0 (.global 13) (.global 15) 0) 1,
  op 17 (.build 0 #[(0, (.const (.agg #[(I 0), (I 0)]))), (1, (.global 11)), (1001, (.global 16))]) 1,
  op 6 (.insert 2 (.tmp 6) (.tmp 6) (.global 17))])
.ret)), [(6, 1000003)]⟩

/-- spec.l02New -/
def fn450 : AFun := ⟨2,
(.seq (reg [op 4 (.move (.const (.agg #[(I 0), (I 0), (sl 0 0 0 0)])))])
(.seq (reg [op 5 (.move (.tmp 0)) 1,
  op 6 (.move (.tmp 1)) 1,
  op 7 (.move (.tmp 0)) 1,
  op 8 (.move (.tmp 1)) 1,
  op 9 (call (.func 448) #[(.global 7), (.global 8)]) 1,
  op 10 (.mapUpdate 1 (.global 9) (.global 9) (.const (.agg #[(I 0)]))) 1,
  op 11 (.build 0 #[(0, (.const (.agg #[(I 0), (I 0), (sl 0 0 0 0)]))), (1, (.global 5)), (1001, (.global 6)), (2001, (.global 10))]) 1,
  op 4 (.insert 3 (.tmp 4) (.tmp 4) (.global 11))])
.ret)), [(4, 1000004)]⟩

/-- spec.l02Point -/
def fn454 : AFun := ⟨2,
(.seq (reg [op 4 (.move (.const (.agg #[(I 0), (I 0)])))])
(.seq (reg [op 5 (.move (.const (I 1)))])
(.seq (.block 0
  (.loop
    (.seq (.seq (reg [op 6 (.move (.tmp 5)) 1,
      op 7 (.binOp .add 0 (.global 6) (.const (I 1)) 0) 1,
      op 8 (.move (.tmp 0)) 1,
      op 9 (.nilCheck (.global 8)) 1,
      op 10 (.fieldAddr 1 (.global 9) 0) 1,
      op 11 (.load 0 (.global 10)) 1,
      op 12 (.binOp .mul 0 (.const (I 2)) (.global 11) 0) 1,
      op 13 (.binOp .lss 0 (.global 7) (.global 12) 0) 1,
      op 14 (.move (.global 13)) 1,
      op 15 (.move (.tmp 0)) 1 (some (57, true)),
      op 16 (.move (.tmp 5)) 1 (some (57, true)),
      op 17 (.binOp .add 0 (.global 16) (.const (I 1)) 0) 1 (some (57, true)),
      op 18 (call (.func 455) #[(.global 15), (.global 17)]) 1 (some (57, true)),
      op 19 (.move (.tmp 1)) 1 (some (57, true)),
      op 20 (.binOp .leq 0 (.global 18) (.global 19) 0) 1 (some (57, true)),
      op 21 (.pick (.global 14) (.global 20) (.const (B false)))])
    (.cond (.tmp 21)
      .skip
      (.exit 0)))
    (.block 1
      (reg [op 22 (.move (.tmp 5)) 1,
        op 23 (.binOp .add 0 (.global 22) (.const (I 1)) 0) 1,
        op 5 (.move (.global 23))])))))
(.seq (reg [op 24 (.move (.tmp 1)) 1,
  op 25 (.move (.tmp 0)) 1,
  op 26 (.move (.tmp 5)) 1,
  op 27 (call (.func 455) #[(.global 25), (.global 26)]) 1,
  op 28 (.binOp .sub 0 (.global 24) (.global 27) 0) 1,
  op 29 (.binOp .mul 0 (.const (I 2)) (.global 28) 0) 1,
  op 30 (.binOp .add 0 (.global 29) (.const (I 1)) 0) 1,
  op 31 (.move (.tmp 5)) 1,
  op 32 (.binOp .rem 0 (.global 31) (.const (I 2)) 0) 1,
  op 33 (.binOp .add 0 (.global 30) (.global 32) 0) 1,
  op 34 (.move (.tmp 5)) 1,
  op 35 (.build 0 #[(0, (.const (.agg #[(I 0), (I 0)]))), (1, (.global 33)), (1001, (.global 34))]) 1,
  op 4 (.insert 2 (.tmp 4) (.tmp 4) (.global 35))])
.ret)))), [(4, 1000003)]⟩

/-- spec.l02Number -/
def fn451 : AFun := ⟨2,
(.seq (reg [op 3 (.makeChan 2 (.tmp 1)),
  op 4 (.move (.const (I 0)))])
(.seq (reg [op 5 (.move (.tmp 0)) 1,
  op 6 (.fieldAddr 1 (.tmp 3) 1) 1,
  op 7 (.lookup 0 (.tmp 3) (.global 6) false) 1,
  op 8 (call (.func 455) #[(.global 5), (.global 7)]) 1,
  op 9 (.fieldAddr 0 (.tmp 3) 1) 1,
  op 10 (.lookup 0 (.tmp 3) (.global 9) false) 1,
  op 11 (.binOp .sub 0 (.global 10) (.const (I 1)) 0) 1,
  op 12 (.binOp .quo 0 (.global 11) (.const (I 2)) 0) 1,
  op 13 (.binOp .add 0 (.global 8) (.global 12) 0) 1,
  op 4 (.move (.global 13))])
.ret)), [(4, 0)]⟩

/-- laws.szPanel -/
def fn295 : AFun := ⟨2,
(.seq (reg [op 2 (.makeChan 3 (.tmp 0)),
  op 4 (.move (.const (I 0)))])
(.seq (reg [op 5 (.fieldAddr 2 (.tmp 2) 1) 1,
  op 6 (.lookup 0 (.tmp 2) (.global 5) false) 1,
  op 7 (.move (.tmp 1)) 1,
  op 8 (call (.func 290) #[(.global 6), (.global 7)]) 1,
  op 1 (.move (.global 8))])
(.seq (.seq (reg [op 9 (.move (.tmp 1)) 1,
  op 10 (.binOp .lss 0 (.global 9) (.const (I 0)) 0)])
(.cond (.tmp 10)
  (.seq (reg [op 4 (.move (.const (I (-1))))])
  .ret)
  .skip))
(.seq (reg [op 11 (.move (.tmp 1)) 1,
  op 4 (.move (.global 11))])
.ret)))), [(4, 0)]⟩

/-- laws.szJournalStepS -/
def fn292 : AFun := ⟨2,
(.seq (reg [op 4 (.move (.const (I 0)))])
(.seq (reg [op 5 (.move (.tmp 1)) 1,
  op 6 (.move (.tmp 0)) 1,
  op 7 (bi .len #[(.global 6)] 1) 1,
  op 8 (.binOp .sub 0 (.global 5) (.global 7) 0) 1,
  op 1 (.move (.global 8))])
(.seq (.seq (reg [op 9 (.move (.tmp 1)) 1,
  op 10 (.binOp .lss 0 (.global 9) (.const (I 0)) 0)])
(.cond (.tmp 10)
  (.seq (reg [op 4 (.move (.const (I (-1))))])
  .ret)
  .skip))
(.seq (reg [op 11 (.move (.tmp 1)) 1,
  op 4 (.move (.global 11))])
.ret)))), [(4, 0)]⟩

/-- laws.toPanel -/
def fn303 : AFun := ⟨1,
(.seq (reg [op 1 (.makeChan 3 (.tmp 0)),
  op 2 (.move (.const (.agg #[(I 0), (I 0), (sl 0 0 0 0)])))])
(.seq (reg [op 3 (.move (.const (.agg #[(I 0), (I 0), (sl 0 0 0 0)])))])
(.seq (reg [op 4 (.fieldAddr 0 (.tmp 1) 1) 1,
  op 5 (.lookup 0 (.tmp 1) (.global 4) false) 1,
  op 6 (.fieldAddr 0 (.tmp 3) 1) 1,
  op 3 (.insert 1 (.tmp 3) (.global 6) (.global 5))])
(.seq (reg [op 7 (.fieldAddr 1 (.tmp 1) 1) 1,
  op 8 (.lookup 0 (.tmp 1) (.global 7) false) 1,
  op 9 (.fieldAddr 1 (.tmp 3) 1) 1,
  op 3 (.insert 1 (.tmp 3) (.global 9) (.global 8))])
(.seq (reg [op 10 (.fieldAddr 2 (.tmp 1) 1) 1,
  op 11 (.lookup 0 (.tmp 1) (.global 10) false) 1,
  op 12 (call (.func 297) #[(.global 11)]) 1,
  op 13 (.fieldAddr 2 (.tmp 3) 1) 1,
  op 3 (.insert 1 (.tmp 3) (.global 13) (.global 12))])
(.seq (reg [op 14 (.lookup 4 (.tmp 3) (.tmp 3) false) 1,
  op 2 (.insert 3 (.tmp 2) (.tmp 2) (.global 14))])
.ret)))))), [(2, 1000004)]⟩

/-- laws.toJournalStepS -/
def fn300 : AFun := ⟨1,
(.seq (reg [op 2 (.move (.const (sl 0 0 0 0)))])
(.seq (reg [op 5 (.move (.tmp 0)) 1,
  op 6 (bi .len #[(.global 5)] 1) 1,
  op 7 (.mapUpdate 3 (.global 6) (.global 6) (.const (.agg #[(I 0), (I 0), (I 0)]))) 1,
  op 3 (.move (.global 7))])
(.seq (.seq (reg [op 4 (.move (.const (I 0)))])
(.block 0
  (.loop
    (.seq (.seq (reg [op 8 (.move (.tmp 4)) 1,
      op 9 (.move (.tmp 0)) 1,
      op 10 (bi .len #[(.global 9)] 1) 1,
      op 11 (.binOp .lss 0 (.global 8) (.global 10) 0)])
    (.cond (.tmp 11)
      .skip
      (.exit 0)))
    (.seq (.block 1
      (reg [op 14 (.move (.tmp 3)) 1,
        op 15 (.move (.tmp 4)) 1,
        op 16 (.move (.tmp 0)) 1,
        op 17 (.move (.tmp 4)) 1,
        op 18 (.indexAddr 7 (.global 16) (.global 17)) 1,
        op 19 (.load 4 (.global 18)) 1,
        op 20 (call (.func 299) #[(.global 19)]) 1,
        op 21 (.indexAddr 7 (.global 14) (.global 15)) 1,
        opn (.store 3 (.global 21) (.global 20))]))
    (reg [op 12 (.move (.tmp 4)) 1,
      op 13 (.binOp .add 0 (.global 12) (.const (I 1)) 0) 1,
      op 4 (.move (.global 13))]))))))
(.seq (reg [op 22 (.move (.tmp 3)) 1,
  op 2 (.move (.global 22))])
.ret)))), [(2, 0)]⟩

/-- laws.eqPanel -/
def fn265 : AFun := ⟨2,
(.seq (reg [op 2 (.makeChan 3 (.tmp 0)),
  op 3 (.makeChan 3 (.tmp 1)),
  op 4 (.move (.const (B false)))])
(.seq (.seq (reg [op 5 (.fieldAddr 0 (.tmp 2) 1) 1,
  op 6 (.lookup 0 (.tmp 2) (.global 5) false) 1,
  op 7 (.fieldAddr 0 (.tmp 3) 1) 1,
  op 8 (.lookup 0 (.tmp 3) (.global 7) false) 1,
  op 9 (.binOp .neq 0 (.global 6) (.global 8) 0)])
(.cond (.tmp 9)
  (.seq (reg [op 4 (.move (.const (B false)))])
  .ret)
  .skip))
(.seq (.seq (reg [op 10 (.fieldAddr 1 (.tmp 2) 1) 1,
  op 11 (.lookup 0 (.tmp 2) (.global 10) false) 1,
  op 12 (.fieldAddr 1 (.tmp 3) 1) 1,
  op 13 (.lookup 0 (.tmp 3) (.global 12) false) 1,
  op 14 (.binOp .neq 0 (.global 11) (.global 13) 0)])
(.cond (.tmp 14)
  (.seq (reg [op 4 (.move (.const (B false)))])
  .ret)
  .skip))
(.seq (.seq (reg [op 15 (.fieldAddr 2 (.tmp 2) 1) 1,
  op 16 (.lookup 0 (.tmp 2) (.global 15) false) 1,
  op 17 (.fieldAddr 2 (.tmp 3) 1) 1,
  op 18 (.lookup 0 (.tmp 3) (.global 17) false) 1,
  op 19 (call (.func 259) #[(.global 16), (.global 18)]) 1,
  op 20 (.unOp .not 0 (.global 19))])
(.cond (.tmp 20)
  (.seq (reg [op 4 (.move (.const (B false)))])
  .ret)
  .skip))
(.seq (reg [op 4 (.move (.const (B true)))])
.ret))))), [(4, 0)]⟩

/-- laws.eqJournalStepS -/
def fn262 : AFun := ⟨2,
(.seq (reg [op 4 (.move (.const (B false)))])
(.seq (.seq (reg [op 6 (.move (.tmp 0)) 1,
  op 7 (bi .len #[(.global 6)] 1) 1,
  op 8 (.move (.tmp 1)) 1,
  op 9 (bi .len #[(.global 8)] 1) 1,
  op 10 (.binOp .neq 0 (.global 7) (.global 9) 0)])
(.cond (.tmp 10)
  (.seq (reg [op 4 (.move (.const (B false)))])
  .ret)
  .skip))
(.seq (.seq (reg [op 5 (.move (.const (I 0)))])
(.block 0
  (.loop
    (.seq (.seq (reg [op 11 (.move (.tmp 5)) 1,
      op 12 (.move (.tmp 0)) 1,
      op 13 (bi .len #[(.global 12)] 1) 1,
      op 14 (.binOp .lss 0 (.global 11) (.global 13) 0)])
    (.cond (.tmp 14)
      .skip
      (.exit 0)))
    (.seq (.block 1
      (.seq (reg [op 17 (.move (.tmp 0)) 1,
        op 18 (.move (.tmp 5)) 1,
        op 19 (.indexAddr 7 (.global 17) (.global 18)) 1,
        op 20 (.load 4 (.global 19)) 1,
        op 21 (.move (.tmp 1)) 1,
        op 22 (.move (.tmp 5)) 1,
        op 23 (.indexAddr 7 (.global 21) (.global 22)) 1,
        op 24 (.load 4 (.global 23)) 1,
        op 25 (call (.func 261) #[(.global 20), (.global 24)]) 1,
        op 26 (.unOp .not 0 (.global 25))])
      (.cond (.tmp 26)
        (.seq (reg [op 4 (.move (.const (B false)))])
        .ret)
        .skip)))
    (reg [op 15 (.move (.tmp 5)) 1,
      op 16 (.binOp .add 0 (.global 15) (.const (I 1)) 0) 1,
      op 5 (.move (.global 16))]))))))
(.seq (reg [op 4 (.move (.const (B true)))])
.ret)))), [(4, 0)]⟩

/-- laws.markPanel -/
def fn286 : AFun := ⟨2,
(.seq (reg [op 2 (.makeChan 3 (.tmp 0)),
  op 4 (.move (.const (I 0)))])
(.seq (reg [op 5 (.fieldAddr 2 (.tmp 2) 1) 1,
  op 6 (.lookup 0 (.tmp 2) (.global 5) false) 1,
  op 7 (.move (.tmp 1)) 1,
  op 8 (call (.func 282) #[(.global 6), (.global 7)]) 1,
  op 1 (.move (.global 8))])
(.seq (reg [op 9 (.move (.tmp 1)) 1,
  op 4 (.move (.global 9))])
.ret))), [(4, 0)]⟩

/-- laws.markJournalStepS -/
def fn284 : AFun := ⟨2,
(.seq (reg [op 4 (.move (.const (I 0)))])
(.seq (.seq (reg [op 5 (.move (.const (I 0)))])
(.block 0
  (.loop
    (.seq (.seq (reg [op 6 (.move (.tmp 5)) 1,
      op 7 (.move (.tmp 0)) 1,
      op 8 (bi .len #[(.global 7)] 1) 1,
      op 9 (.binOp .lss 0 (.global 6) (.global 8) 0)])
    (.cond (.tmp 9)
      .skip
      (.exit 0)))
    (.seq (.block 1
      (.seq (reg [op 12 (.move (.tmp 0)) 1,
        op 13 (.move (.tmp 5)) 1,
        op 14 (.move (.tmp 1)) 1,
        op 15 (.indexAddr 7 (.global 12) (.global 13)) 1,
        op 16 (.fieldAddr 0 (.global 15) 0) 1,
        opn (.store 1 (.global 16) (.global 14))])
      (.seq (reg [op 17 (.move (.tmp 1)) 1,
        op 18 (.binOp .add 0 (.global 17) (.const (I 1)) 0) 1,
        op 1 (.move (.global 18))])
      (.seq (reg [op 19 (.move (.tmp 0)) 1,
        op 20 (.move (.tmp 5)) 1,
        op 21 (.move (.tmp 1)) 1,
        op 22 (.indexAddr 7 (.global 19) (.global 20)) 1,
        op 23 (.fieldAddr 1 (.global 22) 0) 1,
        opn (.store 1 (.global 23) (.global 21))])
      (.seq (reg [op 24 (.move (.tmp 1)) 1,
        op 25 (.binOp .add 0 (.global 24) (.const (I 1)) 0) 1,
        op 1 (.move (.global 25))])
      (.seq (reg [op 26 (.move (.tmp 0)) 1,
        op 27 (.move (.tmp 5)) 1,
        op 28 (.move (.tmp 1)) 1,
        op 29 (.indexAddr 7 (.global 26) (.global 27)) 1,
        op 30 (.fieldAddr 2 (.global 29) 0) 1,
        opn (.store 1 (.global 30) (.global 28))])
      (reg [op 31 (.move (.tmp 1)) 1,
        op 32 (.binOp .add 0 (.global 31) (.const (I 1)) 0) 1,
        op 1 (.move (.global 32))])))))))
    (reg [op 10 (.move (.tmp 5)) 1,
      op 11 (.binOp .add 0 (.global 10) (.const (I 1)) 0) 1,
      op 5 (.move (.global 11))]))))))
(.seq (reg [op 33 (.move (.tmp 1)) 1,
  op 4 (.move (.global 33))])
.ret))), [(4, 0)]⟩

/-- spec.l23Ask -/
def fn528 : AFun := ⟨1,
(.seq (reg [op 2 (.move (.const (I 0))),
  op 3 (.move (.const (sl 0 0 0 0)))])
(.seq (reg [op 4 (.move (.tmp 0)) 1,
  op 5 (call (.func 431) #[(.global 4)]) 1,
  op 6 (call (.func 529) #[(.global 5)]) 1,
  op 7 (.extract (.global 6) 0) 1,
  op 8 (.extract (.global 6) 1) 1,
  op 2 (.move (.global 7)),
  op 3 (.move (.global 8))])
.ret)), [(2, 0), (3, 0)]⟩

/-- impl.ValidWord -/
def fn142 : AFun := ⟨2,
(.seq (reg [op 4 (.move (.const (B false)))])
(.seq (.seq (reg [op 7 (.move (.tmp 1)),
  op 8 (bi .len #[(.tmp 7)] 1),
  op 9 (.move (.const (I 0)))])
(.block 0
  (.loop
    (.seq (reg [op 10 (.binOp .lss 0 (.tmp 9) (.tmp 8) 0)])
    (.seq (.cond (.tmp 10)
      .skip
      (.exit 0))
    (.seq (.block 1
      (.seq (reg [op 11 (.indexAddr 3 (.tmp 7) (.tmp 9)) 1,
        op 12 (.load 0 (.global 11)) 1,
        op 6 (.move (.global 12))])
      (.seq (reg [op 13 (.move (.tmp 6)) 1,
        op 14 (.binOp .eql 0 (.global 13) (.const (I 0)) 0) 1,
        op 15 (.move (.global 14)) 1,
        op 16 (.move (.tmp 6)) 1 (some (61, false)),
        op 17 (.move (.tmp 0)) 1 (some (61, false)),
        op 18 (.binOp .sub 0 (.const (I 1)) (.global 17) 0) 1 (some (61, false)),
        op 19 (.move (.tmp 0)) 1 (some (61, false)),
        op 20 (.binOp .sub 0 (.global 19) (.const (I 1)) 0) 1 (some (61, false)),
        op 21 (call (.func 164) #[(.global 16), (.global 18), (.global 20)]) 1 (some (61, false)),
        op 22 (.unOp .not 0 (.global 21)) 1 (some (61, false)),
        op 23 (.pick (.global 15) (.const (B true)) (.global 22))])
      (.cond (.tmp 23)
        (.seq (reg [op 4 (.move (.const (B false)))])
        .ret)
        .skip))))
    (reg [op 24 (.binOp .add 0 (.tmp 9) (.const (I 1)) 0) 1,
      op 9 (.move (.global 24))])))))))
(.seq (reg [op 25 (.move (.tmp 0)) 1,
  op 26 (call (.func 164) #[(.global 25), (.const (I 2)), (.const (I 12))]) 1,
  op 27 (.move (.global 26)) 1,
  op 28 (.move (.tmp 1)) 1 (some (109, true)),
  op 29 (bi .len #[(.global 28)] 1) 1 (some (109, true)),
  op 30 (.binOp .leq 0 (.global 29) (.const (I 200)) 0) 1 (some (109, true)),
  op 31 (.pick (.global 27) (.global 30) (.const (B false))) 1,
  op 4 (.move (.global 31))])
.ret))), [(4, 0)]⟩

/-- impl.rightOf -/
def fn185 : AFun := ⟨1,
(.seq (reg [op 2 (.move (.const (I 0)))])
(.seq (reg [op 3 (.move (.tmp 0)) 1,
  op 4 (.move (.tmp 0)) 1,
  op 5 (.unOp .neg 0 (.global 4)) 1,
  op 6 (bi .max #[(.global 3), (.global 5)] 0) 1,
  op 2 (.move (.global 6))])
.ret)), [(2, 0)]⟩

/-- spec.l23Ok -/
def fn531 : AFun := ⟨2,
(.seq (reg [op 4 (.move (.const (B false)))])
(.seq (.seq (reg [op 6 (.move (.tmp 0)) 1,
  op 7 (call (.func 432) #[(.global 6), (.const (I 2)), (.const (I 12))]) 1,
  op 8 (.unOp .not 0 (.global 7)) 1,
  op 9 (.move (.global 8)) 1,
  op 10 (.move (.tmp 1)) 1 (some (37, false)),
  op 11 (bi .len #[(.global 10)] 1) 1 (some (37, false)),
  op 12 (.binOp .gtr 0 (.global 11) (.const (I 200)) 0) 1 (some (37, false)),
  op 13 (.pick (.global 9) (.const (B true)) (.global 12))])
(.cond (.tmp 13)
  (.seq (reg [op 4 (.move (.const (B false)))])
  .ret)
  .skip))
(.seq (.seq (reg [op 5 (.move (.const (I 0)))])
(.block 0
  (.loop
    (.seq (.seq (reg [op 14 (.move (.tmp 5)) 1,
      op 15 (.move (.tmp 1)) 1,
      op 16 (bi .len #[(.global 15)] 1) 1,
      op 17 (.binOp .lss 0 (.global 14) (.global 16) 0)])
    (.cond (.tmp 17)
      .skip
      (.exit 0)))
    (.seq (.block 1
      (.seq (reg [op 20 (.move (.tmp 1)) 1,
        op 21 (.move (.tmp 5)) 1,
        op 22 (.indexAddr 3 (.global 20) (.global 21)) 1,
        op 23 (.load 0 (.global 22)) 1,
        op 24 (.binOp .eql 0 (.global 23) (.const (I 0)) 0) 1,
        op 25 (.move (.global 24)) 1,
        op 26 (.move (.tmp 1)) 1 (some (101, false)),
        op 27 (.move (.tmp 5)) 1 (some (101, false)),
        op 28 (.indexAddr 3 (.global 26) (.global 27)) 1 (some (101, false)),
        op 29 (.load 0 (.global 28)) 1 (some (101, false)),
        op 30 (.move (.tmp 0)) 1 (some (101, false)),
        op 31 (.binOp .sub 0 (.const (I 1)) (.global 30) 0) 1 (some (101, false)),
        op 32 (.move (.tmp 0)) 1 (some (101, false)),
        op 33 (.binOp .sub 0 (.global 32) (.const (I 1)) 0) 1 (some (101, false)),
        op 34 (call (.func 432) #[(.global 29), (.global 31), (.global 33)]) 1 (some (101, false)),
        op 35 (.unOp .not 0 (.global 34)) 1 (some (101, false)),
        op 36 (.pick (.global 25) (.const (B true)) (.global 35))])
      (.cond (.tmp 36)
        (.seq (reg [op 4 (.move (.const (B false)))])
        .ret)
        .skip)))
    (reg [op 18 (.move (.tmp 5)) 1,
      op 19 (.binOp .add 0 (.global 18) (.const (I 1)) 0) 1,
      op 5 (.move (.global 19))]))))))
(.seq (reg [op 4 (.move (.const (B true)))])
.ret)))), [(4, 0)]⟩

/-- spec.l15Size -/
def fn512 : AFun := ⟨1,
(.seq (reg [op 2 (.move (.const (I 0)))])
(.seq (reg [op 3 (.move (.tmp 0)) 1,
  op 4 (.move (.tmp 0)) 1,
  op 5 (.unOp .neg 0 (.global 4)) 1,
  op 6 (call (.func 433) #[(.global 3), (.global 5)]) 1,
  op 2 (.move (.global 6))])
.ret)), [(2, 0)]⟩

/-- spec.l00Max -/
def fn433 : AFun := ⟨2,
(.seq (reg [op 4 (.move (.const (I 0)))])
(.seq (.seq (reg [op 5 (.move (.tmp 0)) 1,
  op 6 (.move (.tmp 1)) 1,
  op 7 (.binOp .gtr 0 (.global 5) (.global 6) 0)])
(.cond (.tmp 7)
  (.seq (reg [op 8 (.move (.tmp 0)) 1,
    op 4 (.move (.global 8))])
  .ret)
  .skip))
(.seq (reg [op 9 (.move (.tmp 1)) 1,
  op 4 (.move (.global 9))])
.ret))), [(4, 0)]⟩

/-- slices.Index[[]int64,int64] -/
def fn316 : AFun := ⟨2,
(.seq (reg [op 4 (.move (.const (I 0)))])
(.seq (.seq (reg [op 6 (.move (.tmp 0)) 1,
  op 7 (bi .len #[(.global 6)] 1),
  op 8 (.move (.const (I 0)))])
(.block 0
  (.loop
    (.seq (reg [op 9 (.binOp .lss 0 (.tmp 8) (.tmp 7) 0)])
    (.seq (.cond (.tmp 9)
      .skip
      (.exit 0))
    (.seq (.block 1
      (.seq (reg [op 10 (.move (.tmp 8)) 1,
        op 5 (.move (.global 10))])
      (.seq (reg [op 11 (.move (.tmp 1)) 1,
        op 12 (.move (.tmp 0)) 1,
        op 13 (.move (.tmp 5)) 1,
        op 14 (.indexAddr 3 (.global 12) (.global 13)) 1,
        op 15 (.load 0 (.global 14)) 1,
        op 16 (.binOp .eql 0 (.global 11) (.global 15) 0)])
      (.cond (.tmp 16)
        (.seq (reg [op 17 (.move (.tmp 5)) 1,
          op 4 (.move (.global 17))])
        .ret)
        .skip))))
    (reg [op 18 (.binOp .add 0 (.tmp 8) (.const (I 1)) 0) 1,
      op 8 (.move (.global 18))])))))))
(.seq (reg [op 4 (.move (.const (I (-1))))])
.ret))), [(4, 0)]⟩

/-- spec.l23Order -/
def fn532 : AFun := ⟨2,
(.seq (reg [op 4 (.move (.const (sl 0 0 0 0)))])
(.seq (reg [op 7 (.move (.tmp 0)) 1,
  op 8 (call (.func 530) #[(.global 7)]) 1,
  op 5 (.move (.global 8))])
(.seq (.seq (reg [op 6 (.move (.const (I 0)))])
(.block 0
  (.loop
    (.seq (.seq (reg [op 9 (.move (.tmp 6)) 1,
      op 10 (.move (.tmp 1)) 1,
      op 11 (bi .len #[(.global 10)] 1) 1,
      op 12 (.binOp .lss 0 (.global 9) (.global 11) 0)])
    (.cond (.tmp 12)
      .skip
      (.exit 0)))
    (.seq (.block 1
      (reg [op 15 (.move (.tmp 5)) 1,
        op 16 (.move (.tmp 1)) 1,
        op 17 (.move (.tmp 6)) 1,
        op 18 (.indexAddr 3 (.global 16) (.global 17)) 1,
        op 19 (.load 0 (.global 18)) 1,
        op 20 (call (.func 534) #[(.global 15), (.global 19)]) 1]))
    (reg [op 13 (.move (.tmp 6)) 1,
      op 14 (.binOp .add 0 (.global 13) (.const (I 1)) 0) 1,
      op 6 (.move (.global 14))]))))))
(.seq (reg [op 21 (.move (.tmp 5)) 1,
  op 4 (.move (.global 21))])
.ret)))), [(4, 0)]⟩

/-- spec.l23Place -/
def fn533 : AFun := ⟨2,
(.seq (reg [op 4 (.move (.const (I 0)))])
(.seq (.seq (reg [op 5 (.move (.const (I 0)))])
(.block 0
  (.loop
    (.seq (.seq (reg [op 6 (.move (.tmp 5)) 1,
      op 7 (.move (.tmp 0)) 1,
      op 8 (bi .len #[(.global 7)] 1) 1,
      op 9 (.binOp .lss 0 (.global 6) (.global 8) 0)])
    (.cond (.tmp 9)
      .skip
      (.exit 0)))
    (.seq (.block 1
      (.seq (reg [op 12 (.move (.tmp 0)) 1,
        op 13 (.move (.tmp 5)) 1,
        op 14 (.indexAddr 3 (.global 12) (.global 13)) 1,
        op 15 (.load 0 (.global 14)) 1,
        op 16 (.move (.tmp 1)) 1,
        op 17 (.binOp .eql 0 (.global 15) (.global 16) 0)])
      (.cond (.tmp 17)
        (.seq (reg [op 18 (.move (.tmp 5)) 1,
          op 4 (.move (.global 18))])
        .ret)
        .skip)))
    (reg [op 10 (.move (.tmp 5)) 1,
      op 11 (.binOp .add 0 (.global 10) (.const (I 1)) 0) 1,
      op 5 (.move (.global 11))]))))))
(.seq (reg [op 4 (.move (.const (I (-1))))])
.ret))), [(4, 0)]⟩

/-- (*spec.l00Src).among -/
def fn4 : AFun := ⟨2,
(.seq (reg [op 4 (.move (.const (I 0)))])
(.seq (reg [op 5 (.move (.tmp 1)) 1,
  op 6 (.move (.tmp 0)) 1,
  op 7 (.move (.tmp 1)) 1,
  op 8 (bi .len #[(.global 7)] 1) 1,
  op 9 (call (.func 7) #[(.global 6), (.global 8)]) 1,
  op 10 (.indexAddr 3 (.global 5) (.global 9)) 1,
  op 11 (.load 0 (.global 10)) 1,
  op 4 (.move (.global 11))])
.ret)), [(4, 0)]⟩

/-- impl.decimals -/
def fn156 : AFun := ⟨2,
(.seq (reg [op 4 (.move (.const (S [])))])
(.seq (reg [op 8 (.move (.const (sl 0 0 0 1))) 1,
  op 5 (.move (.global 8))])
(.seq (.seq (reg [op 9 (.move (.tmp 0)),
  op 10 (bi .len #[(.tmp 9)] 1),
  op 11 (.move (.const (I 0)))])
(.block 0
  (.loop
    (.seq (reg [op 12 (.binOp .lss 0 (.tmp 11) (.tmp 10) 0)])
    (.seq (.cond (.tmp 12)
      .skip
      (.exit 0))
    (.seq (.block 1
      (.seq (reg [op 13 (.indexAddr 3 (.tmp 9) (.tmp 11)) 1,
        op 14 (.load 0 (.global 13)) 1,
        op 7 (.move (.global 14))])
      (reg [op 15 (.move (.tmp 5)) 1,
        op 16 (.move (.tmp 7)) 1,
        op 17 (call (.func 75) #[(.global 16)]) 1,
        op 18 (.buildSlice 1 1 #[(0, (.const (.agg #[(S [])]))), (1, (.global 17))]) 1,
        op 19 (bi .append #[(.global 15), (.global 18)] 1) 1,
        op 5 (.move (.global 19))])))
    (reg [op 20 (.binOp .add 0 (.tmp 11) (.const (I 1)) 0) 1,
      op 11 (.move (.global 20))])))))))
(.seq (reg [op 21 (.move (.tmp 5)) 1,
  op 22 (.move (.tmp 1)) 1,
  op 23 (call (.func 167) #[(.global 21), (.global 22)]) 1,
  op 4 (.move (.global 23))])
.ret)))), [(4, 0)]⟩

/-- spec.l01Dec -/
def fn437 : AFun := ⟨1,
(.seq (reg [op 2 (.move (.const (S [])))])
(.seq (reg [op 6 (.move (.const (sl 0 0 0 1))) 1,
  op 3 (.move (.global 6))])
(.seq (.seq (reg [op 7 (.move (.tmp 0)) 1,
  op 4 (.move (.global 7))])
(.block 0
  (.loop
    (.seq (.seq (reg [op 8 (.move (.tmp 4)) 1,
      op 9 (.binOp .neq 0 (.global 8) (.const (I 0)) 0)])
    (.cond (.tmp 9)
      .skip
      (.exit 0)))
    (.seq (.block 1
      (.seq (reg [op 12 (.move (.tmp 4)) 1,
        op 13 (.binOp .rem 0 (.global 12) (.const (I 10)) 0) 1,
        op 5 (.move (.global 13))])
      (.seq (.seq (reg [op 14 (.move (.tmp 5)) 1,
        op 15 (.binOp .lss 0 (.global 14) (.const (I 0)) 0)])
      (.cond (.tmp 15)
        (reg [op 16 (.move (.tmp 5)) 1,
          op 17 (.unOp .neg 0 (.global 16)) 1,
          op 5 (.move (.global 17))])
        .skip))
      (reg [op 18 (.move (.tmp 5)) 1,
        op 19 (.binOp .add 0 (.const (I 48)) (.global 18) 0) 1,
        op 20 (.convert 0 4 (.global 19)) 1,
        op 21 (.buildSlice 1 1 #[(0, (.const (.agg #[(U 0)]))), (1, (.global 20))]) 1,
        op 22 (.move (.tmp 3)) 1,
        op 23 (bi .append #[(.global 21), (.global 22)] 1) 1,
        op 3 (.move (.global 23))]))))
    (reg [op 10 (.move (.tmp 4)) 1,
      op 11 (.binOp .quo 0 (.global 10) (.const (I 10)) 0) 1,
      op 4 (.move (.global 11))]))))))
(.seq (.seq (reg [op 24 (.move (.tmp 3)) 1,
  op 25 (bi .len #[(.global 24)] 1) 1,
  op 26 (.binOp .eql 0 (.global 25) (.const (I 0)) 0)])
(.cond (.tmp 26)
  (.seq (reg [op 2 (.move (.const (S [48])))])
  .ret)
  .skip))
(.seq (.seq (reg [op 27 (.move (.tmp 0)) 1,
  op 28 (.binOp .lss 0 (.global 27) (.const (I 0)) 0)])
(.cond (.tmp 28)
  (.seq (reg [op 29 (.move (.tmp 3)) 1,
    op 30 (.convert 0 21 (.global 29)) 1,
    op 31 (.binOp .add 0 (.const (S [45])) (.global 30) 0) 1,
    op 2 (.move (.global 31))])
  .ret)
  .skip))
(.seq (reg [op 32 (.move (.tmp 3)) 1,
  op 33 (.convert 0 21 (.global 32)) 1,
  op 2 (.move (.global 33))])
.ret)))))), [(2, 0)]⟩

/-- impl.plait -/
def fn184 : AFun := ⟨3,
(.seq (reg [op 6 (.move (.const (sl 0 0 0 0)))])
(.seq (reg [op 13 (.move (.const (sl 0 0 0 1))) 1,
  op 7 (.move (.global 13))])
(.seq (.seq (reg [op 14 (.move (.tmp 0)),
  op 15 (.move (.const (I 0)))])
(.block 0
  (.loop
    (.seq (reg [op 16 (.binOp .lss 0 (.tmp 15) (.tmp 14) 0)])
    (.seq (.cond (.tmp 16)
      .skip
      (.exit 0))
    (.seq (.block 1
      (.seq (reg [op 17 (.move (.tmp 15)) 1,
        op 8 (.move (.global 17))])
      (reg [op 18 (.move (.tmp 7)) 1,
        op 19 (.move (.tmp 8)) 1,
        op 20 (.buildSlice 1 1 #[(0, (.const (.agg #[(I 0)]))), (1, (.global 19))]) 1,
        op 21 (bi .append #[(.global 18), (.global 20)] 1) 1,
        op 7 (.move (.global 21))])))
    (reg [op 22 (.binOp .add 0 (.tmp 15) (.const (I 1)) 0) 1,
      op 15 (.move (.global 22))])))))))
(.seq (.seq (reg [op 23 (.move (.tmp 1)),
  op 24 (bi .len #[(.tmp 23)] 1),
  op 25 (.move (.const (I 0)))])
(.block 2
  (.loop
    (.seq (reg [op 26 (.binOp .lss 0 (.tmp 25) (.tmp 24) 0)])
    (.seq (.cond (.tmp 26)
      .skip
      (.exit 2))
    (.seq (.block 3
      (.seq (reg [op 27 (.indexAddr 3 (.tmp 23) (.tmp 25)) 1,
        op 28 (.load 0 (.global 27)) 1,
        op 10 (.move (.global 28))])
      (.seq (reg [op 29 (.move (.tmp 10)) 1,
        op 30 (call (.func 185) #[(.global 29)]) 1,
        op 11 (.move (.global 30))])
      (.seq (reg [op 31 (.move (.tmp 7)) 1,
        op 32 (.move (.tmp 11)) 1,
        op 33 (.binOp .sub 0 (.global 32) (.const (I 1)) 0) 1,
        op 34 (.indexAddr 3 (.global 31) (.global 33)) 1,
        op 35 (.load 0 (.global 34)) 1,
        op 12 (.move (.global 35))])
      (.seq (.seq (reg [op 36 (.move (.tmp 10)) 1,
        op 37 (.binOp .lss 0 (.global 36) (.const (I 0)) 0)])
      (.cond (.tmp 37)
        (reg [op 38 (.move (.tmp 7)) 1,
          op 39 (.move (.tmp 11)) 1,
          op 40 (.indexAddr 3 (.global 38) (.global 39)) 1,
          op 41 (.load 0 (.global 40)) 1,
          op 12 (.move (.global 41))])
        .skip))
      (.seq (reg [op 42 (.move (.tmp 7)) 1,
        op 43 (.move (.tmp 11)) 1,
        op 44 (.binOp .sub 0 (.global 43) (.const (I 1)) 0) 1,
        op 45 (.move (.tmp 7)) 1,
        op 46 (.move (.tmp 11)) 1,
        op 47 (.move (.tmp 7)) 1,
        op 48 (.move (.tmp 11)) 1,
        op 49 (.indexAddr 3 (.global 47) (.global 48)) 1,
        op 50 (.load 0 (.global 49)) 1,
        op 51 (.move (.tmp 7)) 1,
        op 52 (.move (.tmp 11)) 1,
        op 53 (.binOp .sub 0 (.global 52) (.const (I 1)) 0) 1,
        op 54 (.indexAddr 3 (.global 51) (.global 53)) 1,
        op 55 (.load 0 (.global 54)) 1,
        op 56 (.indexAddr 3 (.global 42) (.global 44)) 1,
        opn (.store 1 (.global 56) (.global 50)),
        op 57 (.indexAddr 3 (.global 45) (.global 46)) 1,
        opn (.store 1 (.global 57) (.global 55))])
      (reg [op 58 (.move (.tmp 2)) 1,
        op 59 (.move (.tmp 7)) 1,
        op 60 (.move (.tmp 12)) 1,
        op 61 (call (.global 58) #[(.global 59), (.global 60)]) 1])))))))
    (reg [op 62 (.binOp .add 0 (.tmp 25) (.const (I 1)) 0) 1,
      op 25 (.move (.global 62))])))))))
(.seq (reg [op 63 (.move (.tmp 7)) 1,
  op 6 (.move (.global 63))])
.ret))))), [(6, 0)]⟩

/-- impl.OrderAfter$1 -/
def fn105 : AFun := ⟨2,
.skip, []⟩

/-- impl.innerPoints -/
def fn166 : AFun := ⟨2,
(.seq (reg [op 4 (.move (.const (I 0)))])
(.seq (reg [op 5 (.move (.tmp 0)) 1,
  op 6 (.move (.tmp 1)) 1,
  op 7 (.binOp .sub 0 (.global 6) (.const (I 1)) 0) 1,
  op 8 (.binOp .mul 0 (.global 5) (.global 7) 0) 1,
  op 9 (.move (.tmp 1)) 1,
  op 10 (.move (.tmp 0)) 1,
  op 11 (.binOp .sub 0 (.global 10) (.const (I 1)) 0) 1,
  op 12 (.binOp .mul 0 (.global 9) (.global 11) 0) 1,
  op 13 (.binOp .add 0 (.global 8) (.global 12) 0) 1,
  op 4 (.move (.global 13))])
.ret)), [(4, 0)]⟩

/-- spec.l02Inner -/
def fn448 : AFun := ⟨2,
(.seq (reg [op 4 (.move (.const (I 0)))])
(.seq (reg [op 5 (.move (.tmp 0)) 1,
  op 6 (.move (.tmp 1)) 1,
  op 7 (.binOp .sub 0 (.global 6) (.const (I 1)) 0) 1,
  op 8 (.binOp .mul 0 (.global 5) (.global 7) 0) 1,
  op 9 (.move (.tmp 1)) 1,
  op 10 (.move (.tmp 0)) 1,
  op 11 (.binOp .sub 0 (.global 10) (.const (I 1)) 0) 1,
  op 12 (.binOp .mul 0 (.global 9) (.global 11) 0) 1,
  op 13 (.binOp .add 0 (.global 8) (.global 12) 0) 1,
  op 4 (.move (.global 13))])
.ret)), [(4, 0)]⟩

/-- spec.l27Ended -/
def fn568 : AFun := ⟨1,
(.seq (reg [op 2 (.move (.const (S [])))])
(.seq (reg [op 4 (.move (.tmp 0)) 1,
  op 5 (.convert 0 21 (.global 4)) 1,
  op 6 (call (.func 573) #[(.global 5)]) 1,
  op 3 (.move (.global 6))])
(.seq (reg [op 7 (.move (.tmp 0)) 1,
  op 8 (.move (.tmp 3)) 1,
  op 9 (.binOp .quo 0 (.global 8) (.const (I 256)) 0) 1,
  op 10 (.convert 0 4 (.global 9)) 1,
  op 11 (.move (.tmp 3)) 1,
  op 12 (.binOp .rem 0 (.global 11) (.const (I 256)) 0) 1,
  op 13 (.convert 0 4 (.global 12)) 1,
  op 14 (.buildSlice 1 2 #[(0, (.const (.agg #[(U 0), (U 0)]))), (1, (.global 10)), (1001, (.global 13))]) 1,
  op 15 (bi .append #[(.global 7), (.global 14)] 1) 1,
  op 16 (.convert 0 21 (.global 15)) 1,
  op 2 (.move (.global 16))])
.ret))), [(2, 0)]⟩

/-- spec.l27Checked -/
def fn566 : AFun := ⟨1,
(.seq (reg [op 2 (.move (.const (B false)))])
(.seq (reg [op 4 (.move (.tmp 0)) 1,
  op 5 (bi .len #[(.global 4)] 0) 1,
  op 3 (.move (.global 5))])
(.seq (.seq (reg [op 6 (.move (.tmp 3)) 1,
  op 7 (.binOp .lss 0 (.global 6) (.const (I 2)) 0)])
(.cond (.tmp 7)
  (.seq (reg [op 2 (.move (.const (B false)))])
  .ret)
  .skip))
(.seq (reg [op 8 (.move (.tmp 0)) 1,
  op 9 (.move (.tmp 3)) 1,
  op 10 (.binOp .sub 0 (.global 9) (.const (I 2)) 0) 1,
  op 11 (.slice 0 (.global 8) none (some (.global 10)) none) 1,
  op 12 (call (.func 573) #[(.global 11)]) 1,
  op 13 (.move (.tmp 0)) 1,
  op 14 (.move (.tmp 3)) 1,
  op 15 (.binOp .sub 0 (.global 14) (.const (I 2)) 0) 1,
  op 16 (.index 0 (.global 13) (.global 15)) 1,
  op 17 (.convert 0 3 (.global 16)) 1,
  op 18 (.binOp .mul 0 (.const (I 256)) (.global 17) 0) 1,
  op 19 (.move (.tmp 0)) 1,
  op 20 (.move (.tmp 3)) 1,
  op 21 (.binOp .sub 0 (.global 20) (.const (I 1)) 0) 1,
  op 22 (.index 0 (.global 19) (.global 21)) 1,
  op 23 (.convert 0 3 (.global 22)) 1,
  op 24 (.binOp .add 0 (.global 18) (.global 23) 0) 1,
  op 25 (.binOp .eql 0 (.global 12) (.global 24) 0) 1,
  op 2 (.move (.global 25))])
.ret)))), [(2, 0)]⟩

/-- (*spec.l00Src).next -/
def fn5 : AFun := ⟨1,
(.seq (reg [op 2 (.move (.const (I 0)))])
(.seq (reg [op 3 (.move (.const (I 0)))])
(.seq (.seq (reg [op 4 (.move (.tmp 0)) 1,
  op 5 (.nilCheck (.global 4)) 1,
  op 6 (.fieldAddr 1 (.global 5) 0) 1,
  op 7 (.load 0 (.global 6)) 1,
  op 8 (.move (.tmp 0)) 1,
  op 9 (.nilCheck (.global 8)) 1,
  op 10 (.fieldAddr 0 (.global 9) 0) 1,
  op 11 (.load 0 (.global 10)) 1,
  op 12 (bi .len #[(.global 11)] 1) 1,
  op 13 (.binOp .lss 0 (.global 7) (.global 12) 0)])
(.cond (.tmp 13)
  (reg [op 14 (.move (.tmp 0)) 1,
    op 15 (.nilCheck (.global 14)) 1,
    op 16 (.fieldAddr 0 (.global 15) 0) 1,
    op 17 (.load 0 (.global 16)) 1,
    op 18 (.move (.tmp 0)) 1,
    op 19 (.nilCheck (.global 18)) 1,
    op 20 (.fieldAddr 1 (.global 19) 0) 1,
    op 21 (.load 0 (.global 20)) 1,
    op 22 (.indexAddr 3 (.global 17) (.global 21)) 1,
    op 23 (.load 0 (.global 22)) 1,
    op 24 (.convert 0 3 (.global 23)) 1,
    op 3 (.move (.global 24))])
  .skip))
(.seq (reg [op 25 (.move (.tmp 0)) 1,
  op 26 (.nilCheck (.global 25)) 1,
  op 27 (.fieldAddr 1 (.global 26) 0) 1,
  op 28 (.load 0 (.global 27)) 1,
  op 29 (.binOp .add 0 (.global 28) (.const (I 1)) 0) 1,
  op 30 (.nilCheck (.global 25)) 1,
  op 31 (.fieldAddr 1 (.global 30) 0) 1,
  opn (.store 1 (.global 31) (.global 29))])
(.seq (reg [op 32 (.move (.tmp 0)) 1,
  op 33 (.move (.tmp 0)) 1,
  op 34 (.nilCheck (.global 33)) 1,
  op 35 (.fieldAddr 2 (.global 34) 0) 1,
  op 36 (.load 0 (.global 35)) 1,
  op 37 (.binOp .mul 0 (.global 36) (.const (.int .u64 6364136223846793005)) 0) 1,
  op 38 (.move (.tmp 3)) 1,
  op 39 (.convert 0 7 (.global 38)) 1,
  op 40 (.binOp .add 0 (.global 37) (.global 39) 0) 1,
  op 41 (.binOp .add 0 (.global 40) (.const (.int .u64 1442695040888963407)) 0) 1,
  op 42 (.nilCheck (.global 32)) 1,
  op 43 (.fieldAddr 2 (.global 42) 0) 1,
  opn (.store 1 (.global 43) (.global 41))])
(.seq (.seq (reg [op 44 (.move (.tmp 0)) 1,
  op 45 (.nilCheck (.global 44)) 1,
  op 46 (.fieldAddr 1 (.global 45) 0) 1,
  op 47 (.load 0 (.global 46)) 1,
  op 48 (.move (.tmp 0)) 1,
  op 49 (.nilCheck (.global 48)) 1,
  op 50 (.fieldAddr 0 (.global 49) 0) 1,
  op 51 (.load 0 (.global 50)) 1,
  op 52 (bi .len #[(.global 51)] 1) 1,
  op 53 (.binOp .leq 0 (.global 47) (.global 52) 0)])
(.cond (.tmp 53)
  (.seq (reg [op 54 (.move (.tmp 3)) 1,
    op 2 (.move (.global 54))])
  .ret)
  .skip))
(.seq (reg [op 55 (.move (.tmp 0)) 1,
  op 56 (.nilCheck (.global 55)) 1,
  op 57 (.fieldAddr 2 (.global 56) 0) 1,
  op 58 (.load 0 (.global 57)) 1,
  op 59 (.binOp .shr 0 (.global 58) (.const (.int .u64 40)) 0) 1,
  op 60 (.binOp .and 0 (.global 59) (.const (.int .u64 255)) 0) 1,
  op 61 (.convert 0 3 (.global 60)) 1,
  op 2 (.move (.global 61))])
.ret))))))), [(2, 0)]⟩

/-- spec.l00Same -/
def fn436 : AFun := ⟨2,
(.seq (reg [op 4 (.move (.const (B false)))])
(.seq (.seq (reg [op 6 (.move (.tmp 0)) 1,
  op 7 (bi .len #[(.global 6)] 1) 1,
  op 8 (.move (.tmp 1)) 1,
  op 9 (bi .len #[(.global 8)] 1) 1,
  op 10 (.binOp .neq 0 (.global 7) (.global 9) 0)])
(.cond (.tmp 10)
  (.seq (reg [op 4 (.move (.const (B false)))])
  .ret)
  .skip))
(.seq (.seq (reg [op 5 (.move (.const (I 0)))])
(.block 0
  (.loop
    (.seq (.seq (reg [op 11 (.move (.tmp 5)) 1,
      op 12 (.move (.tmp 0)) 1,
      op 13 (bi .len #[(.global 12)] 1) 1,
      op 14 (.binOp .lss 0 (.global 11) (.global 13) 0)])
    (.cond (.tmp 14)
      .skip
      (.exit 0)))
    (.seq (.block 1
      (.seq (reg [op 17 (.move (.tmp 0)) 1,
        op 18 (.move (.tmp 5)) 1,
        op 19 (.indexAddr 3 (.global 17) (.global 18)) 1,
        op 20 (.load 0 (.global 19)) 1,
        op 21 (.move (.tmp 1)) 1,
        op 22 (.move (.tmp 5)) 1,
        op 23 (.indexAddr 3 (.global 21) (.global 22)) 1,
        op 24 (.load 0 (.global 23)) 1,
        op 25 (.binOp .neq 0 (.global 20) (.global 24) 0)])
      (.cond (.tmp 25)
        (.seq (reg [op 4 (.move (.const (B false)))])
        .ret)
        .skip)))
    (reg [op 15 (.move (.tmp 5)) 1,
      op 16 (.binOp .add 0 (.global 15) (.const (I 1)) 0) 1,
      op 5 (.move (.global 16))]))))))
(.seq (reg [op 4 (.move (.const (B true)))])
.ret)))), [(4, 0)]⟩

/-- spec.l26Do -/
def fn556 : AFun := ⟨3,
(.seq (reg [op 6 (.move (.const (I 0)))])
(.seq (.seq (reg [op 8 (.move (.tmp 1)) 1,
  op 9 (.move (.tmp 0)) 1,
  op 10 (.nilCheck (.global 9)) 1,
  op 11 (.fieldAddr 0 (.global 10) 0) 1,
  op 12 (.fieldAddr 2 (.global 11) 0) 1,
  op 13 (.load 0 (.global 12)) 1,
  op 14 (bi .len #[(.global 13)] 1) 1,
  op 15 (.binOp .sub 0 (.global 14) (.const (I 1)) 0) 1,
  op 16 (call (.func 432) #[(.global 8), (.const (I 0)), (.global 15)]) 1,
  op 17 (.unOp .not 0 (.global 16)) 1,
  op 18 (.move (.global 17)) 1,
  op 19 (.move (.tmp 2)) 1 (some (73, false)),
  op 20 (call (.func 449) #[(.global 19)]) 1 (some (73, false)),
  op 21 (.unOp .not 0 (.global 20)) 1 (some (73, false)),
  op 22 (.pick (.global 18) (.const (B true)) (.global 21))])
(.cond (.tmp 22)
  (.seq (reg [op 6 (.move (.const (I 2)))])
  .ret)
  .skip))
(.seq (reg [op 23 (.move (.tmp 0)) 1,
  op 24 (.nilCheck (.global 23)) 1,
  op 25 (.fieldAddr 0 (.global 24) 0) 1,
  op 26 (.fieldAddr 2 (.global 25) 0) 1,
  op 27 (.load 0 (.global 26)) 1,
  op 28 (.move (.tmp 1)) 1,
  op 29 (.indexAddr 3 (.global 27) (.global 28)) 1,
  op 30 (.load 0 (.global 29)) 1,
  op 7 (.move (.global 30))])
(.seq (.seq (reg [op 31 (.move (.tmp 7)) 1,
  op 32 (.move (.tmp 2)) 1,
  op 33 (.binOp .eql 0 (.global 31) (.global 32) 0)])
(.cond (.tmp 33)
  (.seq (reg [op 6 (.move (.const (I 6)))])
  .ret)
  .skip))
(.seq (.seq (reg [op 34 (.move (.tmp 0)) 1,
  op 35 (.nilCheck (.global 34)) 1,
  op 36 (.fieldAddr 3 (.global 35) 0) 1,
  op 37 (.load 0 (.global 36)) 1,
  op 38 (bi .len #[(.global 37)] 1) 1,
  op 39 (.binOp .geq 0 (.global 38) (.const (I 50)) 0)])
(.cond (.tmp 39)
  (.seq (reg [op 6 (.move (.const (I 5)))])
  .ret)
  .skip))
(.seq (reg [op 40 (.move (.tmp 0)) 1,
  op 41 (.nilCheck (.global 40)) 1,
  op 42 (.fieldAddr 0 (.global 41) 0) 1,
  op 43 (.fieldAddr 2 (.global 42) 0) 1,
  op 44 (.load 0 (.global 43)) 1,
  op 45 (.move (.tmp 1)) 1,
  op 46 (.move (.tmp 2)) 1,
  op 47 (.indexAddr 3 (.global 44) (.global 45)) 1,
  opn (.store 1 (.global 47) (.global 46))])
(.seq (reg [op 48 (.move (.tmp 0)) 1,
  op 49 (.move (.tmp 0)) 1,
  op 50 (.nilCheck (.global 49)) 1,
  op 51 (.fieldAddr 3 (.global 50) 0) 1,
  op 52 (.load 0 (.global 51)) 1,
  op 53 (.move (.tmp 1)) 1,
  op 54 (.move (.tmp 7)) 1,
  op 55 (.move (.tmp 2)) 1,
  op 56 (.build 0 #[(0, (.const (.agg #[(I 0), (I 0), (I 0)]))), (1, (.global 53)), (1001, (.global 54)), (2001, (.global 55))]) 1,
  op 57 (.buildSlice 3 1 #[(0, (.const (.agg #[(I 0), (I 0), (I 0)]))), (3, (.global 56))]) 1,
  op 58 (bi .append #[(.global 52), (.global 57)] 3) 1,
  op 59 (.nilCheck (.global 48)) 1,
  op 60 (.fieldAddr 3 (.global 59) 0) 1,
  opn (.store 1 (.global 60) (.global 58))])
(.seq (reg [op 61 (.move (.tmp 0)) 1,
  op 62 (.nilCheck (.global 61)) 1,
  op 63 (.fieldAddr 4 (.global 62) 0) 1,
  opn (.store 1 (.global 63) (.const (sl 0 0 0 0)))])
(.seq (reg [op 6 (.move (.const (I 0)))])
.ret))))))))), [(6, 0)]⟩

/-- spec.l26Undo -/
def fn564 : AFun := ⟨1,
(.seq (reg [op 4 (.move (.tmp 0)) 1,
  op 5 (.nilCheck (.global 4)) 1,
  op 6 (.fieldAddr 3 (.global 5) 0) 1,
  op 7 (.load 0 (.global 6)) 1,
  op 8 (bi .len #[(.global 7)] 1) 1,
  op 2 (.move (.global 8))])
(.seq (reg [op 9 (.move (.tmp 0)) 1,
  op 10 (.nilCheck (.global 9)) 1,
  op 11 (.fieldAddr 3 (.global 10) 0) 1,
  op 12 (.load 0 (.global 11)) 1,
  op 13 (.move (.tmp 2)) 1,
  op 14 (.binOp .sub 0 (.global 13) (.const (I 1)) 0) 1,
  op 15 (.indexAddr 7 (.global 12) (.global 14)) 1,
  op 16 (.load 4 (.global 15)) 1,
  op 3 (.move (.const (.agg #[(I 0), (I 0), (I 0)]))),
  op 3 (.insert 3 (.tmp 3) (.tmp 3) (.global 16))])
(.seq (reg [op 17 (.move (.tmp 0)) 1,
  op 18 (.nilCheck (.global 17)) 1,
  op 19 (.fieldAddr 0 (.global 18) 0) 1,
  op 20 (.fieldAddr 2 (.global 19) 0) 1,
  op 21 (.load 0 (.global 20)) 1,
  op 22 (.fieldAddr 0 (.tmp 3) 1) 1,
  op 23 (.lookup 0 (.tmp 3) (.global 22) false) 1,
  op 24 (.fieldAddr 1 (.tmp 3) 1) 1,
  op 25 (.lookup 0 (.tmp 3) (.global 24) false) 1,
  op 26 (.indexAddr 3 (.global 21) (.global 23)) 1,
  opn (.store 1 (.global 26) (.global 25))])
(.seq (reg [op 27 (.move (.tmp 0)) 1,
  op 28 (.move (.tmp 0)) 1,
  op 29 (.nilCheck (.global 28)) 1,
  op 30 (.fieldAddr 3 (.global 29) 0) 1,
  op 31 (.load 0 (.global 30)) 1,
  op 32 (.move (.tmp 2)) 1,
  op 33 (.binOp .sub 0 (.global 32) (.const (I 1)) 0) 1,
  op 34 (.slice 7 (.global 31) none (some (.global 33)) none) 1,
  op 35 (.nilCheck (.global 27)) 1,
  op 36 (.fieldAddr 3 (.global 35) 0) 1,
  opn (.store 1 (.global 36) (.global 34))])
(reg [op 37 (.move (.tmp 0)) 1,
  op 38 (.lookup 4 (.tmp 3) (.tmp 3) false) 1,
  op 39 (.buildSlice 3 1 #[(0, (.const (.agg #[(I 0), (I 0), (I 0)]))), (3, (.global 38))]) 1,
  op 40 (.move (.tmp 0)) 1,
  op 41 (.nilCheck (.global 40)) 1,
  op 42 (.fieldAddr 4 (.global 41) 0) 1,
  op 43 (.load 0 (.global 42)) 1,
  op 44 (bi .append #[(.global 39), (.global 43)] 3) 1,
  op 45 (.nilCheck (.global 37)) 1,
  op 46 (.fieldAddr 4 (.global 45) 0) 1,
  opn (.store 1 (.global 46) (.global 44))]))))), []⟩
end Am
