/- The functions of the program that a statement reaches, in the small language of this session's own, each held against the program's own text by the kernel. -/
import Derived.Laws.Externs
import Derived.Test.YtifemfnjoobiiaaRunR
import Derived.Test.YtifemfnjoobiiaaProg
namespace Go.Proofs.Ytifemfnjoobiiaa.Run
open Go
set_option linter.unusedVariables false
def bs (l : List Nat) : ByteArray := ⟨(l.map UInt8.ofNat).toArray⟩
def idf : FuncId → Bool := fun f => f == 104 || f == 106
instance (n : Nat) : OfNat Operand n := ⟨.tmp n⟩
instance (n : Nat) : OfNat RVar n := ⟨.tmp n⟩
def o2 (k : Nat) (e : MOp) := MOper.mk (some k) none 2 e
def o1 (k : Nat) (e : MOp) := MOper.mk (some k) none 1 e
def o0 (k : Nat) (e : MOp) := MOper.mk (some k) none 0 e
def ot (k i : Nat) (e : MOp) := MOper.mk (some k) (some (i, true)) 2 e
def oF (k i : Nat) (e : MOp) := MOper.mk (some k) (some (i, false)) 2 e
def on (e : MOp) := MOper.mk none none 2 e
def ov (k i : Nat) := MOper.mk (some k) none 2 (.val (.tmp i))
def ci (n : Int) : Operand := .const (.int .i64 n)
def cb (b : Bool) : Operand := .const (.bool b)
def R (l : List MOper) : MCode := .region false l
def ZL : List Value := [(.int .i32 0), (.int .i32 0), (.int .i32 0), (.int .u8 0), (.int .u8 0), (.int .u8 0), (.int .u8 0), (.int .u8 0), (.int .u8 0), (.int .u8 0), (.int .u8 0), (.int .u8 0), (.int .u16 0), (.int .u8 0)]
def ZA : Array Value := #[(.int .i32 0), (.int .i32 0), (.int .i32 0), (.int .u8 0), (.int .u8 0), (.int .u8 0), (.int .u8 0), (.int .u8 0), (.int .u8 0), (.int .u8 0), (.int .u8 0), (.int .u8 0), (.int .u16 0), (.int .u8 0)]
set_option maxRecDepth 100000
def law11_GridAsks_c4 : MCode := (.seq (R [(ov 138 8), (o2 139 (.call (.func 18) [138])), (ov 15 139)]) (.seq (R [(ov 140 15), (o2 141 (.fieldAddr 0 11)), (o2 142 (.load none 141)), (ov 143 2), (o2 144 (.call (.func 19) [140, 142, 143])), (ov 16 144)]) (.seq (.region true [(o0 145 (.val 16)), (o0 146 (.fieldAddr 0 11)), (o2 147 (.load none 146)), (o0 148 (.bin .geq 0 [] 147 (ci 0))), (o0 149 (.val 148)), (MOper.mk (some 150) (some (149, true)) 0 (.fieldAddr 0 11)), (MOper.mk (some 151) (some (149, true)) 1 (.load none 150)), (MOper.mk (some 152) (some (149, true)) 0 (.fieldAddr 0 7)), (MOper.mk (some 153) (some (149, true)) 1 (.load none 152)), (MOper.mk (some 154) (some (149, true)) 0 (.len 1 153)), (MOper.mk (some 155) (some (149, true)) 0 (.bin .lss 0 [] 151 154)), (o0 156 (.pick 149 155 (cb false))), (o0 157 (.val 156)), (MOper.mk (some 158) (some (157, true)) 0 (.val 2)), (MOper.mk (some 159) (some (157, true)) 0 (.len 1 158)), (MOper.mk (some 160) (some (157, true)) 0 (.fieldAddr 0 7)), (ot 161 157 (.load none 160)), (MOper.mk (some 162) (some (157, true)) 0 (.addrL 1 161 (ci 0))), (ot 163 157 (.load none 162)), (MOper.mk (some 164) (some (157, true)) 0 (.len 1 163)), (MOper.mk (some 165) (some (157, true)) 0 (.bin .eql 0 [] 159 164)), (o0 166 (.pick 157 165 (cb false))), (o0 167 (.bin .neq 1 [] 145 166)), (o0 168 (.val 167)), (MOper.mk (some 169) (some (168, false)) 0 (.val 15)), (MOper.mk (some 170) (some (168, false)) 1 (.call (.func 13) [169])), (MOper.mk (some 171) (some (168, false)) 1 (.load (some 1) 7)), (MOper.mk (some 172) (some (168, false)) 0 (.fieldAddr 0 11)), (MOper.mk (some 173) (some (168, false)) 1 (.load none 172)), (MOper.mk (some 174) (some (168, false)) 0 (.val 2)), (oF 175 168 (.call (.func 20) [171, 173, 174])), (MOper.mk (some 176) (some (168, false)) 0 (.field none 0 175)), (oF 177 168 (.call (.func 12) [170, 176])), (MOper.mk (some 178) (some (168, false)) 0 (.un .not 177)), (o0 179 (.pick 168 (cb true) 178))]) (.cond 179 (.seq (R [(o2 6 (.val (cb false)))]) .ret) .skip))))
def law11_GridAsks_c3_ (h0 : MCode) : MCode := (.seq (.seq (.region true [(o0 108 (.val 13)), (o1 109 (.load (some 1) 7)), (o1 110 (.load (some 2) 11)), (o2 111 (.call (.func 16) [109, 110])), (o0 112 (.bin .neq 1 [] 108 111)), (o0 113 (.val 112)), (MOper.mk (some 114) (some (113, false)) 1 (.load (some 14) 12)), (MOper.mk (some 115) (some (113, false)) 1 (.load (some 14) 14)), (MOper.mk (some 116) (some (113, false)) 0 (.bin .neq 2 [0, 0, 0, 0, 0, 0, 0, 0, 0, 0, 0, 0, 0, 0] 114 115)), (o0 117 (.pick 113 (cb true) 116)), (o0 118 (.val 117)), (MOper.mk (some 119) (some (118, false)) 0 (.val 8)), (MOper.mk (some 120) (some (118, false)) 0 (.fieldAddr 0 11)), (MOper.mk (some 121) (some (118, false)) 1 (.load none 120)), (MOper.mk (some 122) (some (118, false)) 1 (.call (.func 17) [119, 121])), (MOper.mk (some 123) (some (118, false)) 0 (.len 1 122)), (MOper.mk (some 124) (some (118, false)) 0 (.bin .gtr 0 [] 123 (ci 0))), (MOper.mk (some 125) (some (118, false)) 0 (.fieldAddr 0 11)), (MOper.mk (some 126) (some (118, false)) 1 (.load none 125)), (MOper.mk (some 127) (some (118, false)) 0 (.bin .geq 0 [] 126 (ci 0))), (MOper.mk (some 128) (some (118, false)) 0 (.val 127)), (MOper.mk (some 129) (some (128, true)) 0 (.fieldAddr 0 11)), (MOper.mk (some 130) (some (128, true)) 1 (.load none 129)), (MOper.mk (some 131) (some (128, true)) 0 (.fieldAddr 0 7)), (MOper.mk (some 132) (some (128, true)) 1 (.load none 131)), (MOper.mk (some 133) (some (128, true)) 0 (.len 1 132)), (MOper.mk (some 134) (some (128, true)) 0 (.bin .lss 0 [] 130 133)), (MOper.mk (some 135) (some (118, false)) 0 (.pick 128 134 (cb false))), (MOper.mk (some 136) (some (118, false)) 0 (.bin .neq 1 [] 124 135)), (o0 137 (.pick 118 (cb true) 136))]) (.cond 137 (.seq (R [(o2 6 (.val (cb false)))]) .ret) .skip)) h0)
def law11_GridAsks_c3 : MCode := law11_GridAsks_c3_ law11_GridAsks_c4
def law11_GridAsks_l2_ (h0 : MCode) : MCode := (.seq (R [(o2 87 (.bin .lss 0 [] 86 (ci 3)))]) (.seq (.cond 87 .skip (.exit 0)) (.seq (.block 1 (.seq (R [(o2 88 (.idxA 3 (some 2) 2 85 86)), (o2 11 (.box 48 (.const (.agg #[(.int .i64 0), (.int .i64 0)])))), (on (.store 2 11 88))]) (.seq (R [(ov 90 8), (o2 91 (.load (some 2) 11)), (o2 92 (.call (.func 15) [90, 91])), (ov 89 92), (o2 93 (.extract 89 0)), (o2 94 (.extract 89 1)), (o2 12 (.box 42 (.const (.agg ZA)))), (on (.store 14 12 93)), (ov 13 94)]) (.seq (R [(o2 14 (.box 42 (.const (.agg ZA))))]) (.seq (.seq (R [(o2 95 (.load (some 1) 7)), (o2 96 (.load (some 2) 11)), (o2 97 (.call (.func 16) [95, 96]))]) (.cond 97 (.region true [(o0 98 (.fieldAddr 0 7)), (o1 99 (.load none 98)), (o0 100 (.fieldAddr 0 11)), (o1 101 (.load none 100)), (o0 102 (.addrL 1 99 101)), (o1 103 (.load none 102)), (o0 104 (.fieldAddr 1 11)), (o1 105 (.load none 104)), (o0 106 (.addrL 14 103 105)), (o2 107 (.load (some 14) 106)), (on (.store 14 14 107))]) .skip)) h0))))) (R [(o2 180 (.bin .add 0 [] 86 (ci 1))), (ov 86 180)]))))
def law11_GridAsks_l2 : MCode := law11_GridAsks_l2_ law11_GridAsks_c3
def law11_GridAsks_c1 : MCode := (.seq (R [(o2 181 (.call (.func 21) [])), (ov 6 181)]) .ret)
def law11_GridAsks_c0_ (h0 h1 : MCode) : MCode := (.seq (.seq (R [(o2 69 (.addrA 3 1 4 (ci 0))), (o2 70 (.load none 69)), (o2 71 (.addrA 3 1 4 (ci 1))), (o2 72 (.load none 71)), (o2 73 (.build [(.int .i64 0), (.int .i64 0)] [(0, (1, 70)), (1, (1, 72))])), (o2 74 (.addrA 3 1 4 (ci 0))), (o2 75 (.load none 74)), (o2 76 (.bin .rem 0 [] 75 (ci 10))), (o2 77 (.addrA 3 1 4 (ci 1))), (o2 78 (.load none 77)), (o2 79 (.bin .rem 0 [] 78 (ci 24))), (o2 80 (.build [(.int .i64 0), (.int .i64 0)] [(0, (1, 76)), (1, (1, 79))])), (o2 81 (.addrA 3 1 4 (ci 2))), (o2 82 (.load none 81)), (o2 83 (.bin .rem 0 [] 82 (ci 20))), (o2 84 (.build [(.int .i64 0), (.int .i64 0)] [(0, (1, (ci 0))), (1, (1, 83))])), (o2 85 (.build [(.int .i64 0), (.int .i64 0), (.int .i64 0), (.int .i64 0), (.int .i64 0), (.int .i64 0)] [(0, (2, 73)), (2, (2, 80)), (4, (2, 84))])), (o2 86 (.val (ci 0)))]) (.block 0 (.loop h0))) h1)
def law11_GridAsks_c0 : MCode := law11_GridAsks_c0_ law11_GridAsks_l2 law11_GridAsks_c1
def mf3_b (h0 : MCode) : MCode := (.seq (R [(o2 3 (.box 24 0)), (o2 4 (.box 25 1)), (o2 6 (.val (cb false)))]) (.seq (R [(o2 17 (.load (some 2) 3)), (o2 18 (.call (.func 8) [17, (.const (.slice none 0 0))])), (o2 7 (.box 29 (.const (.agg #[(.slice none 0 0)])))), (on (.store 1 7 18))]) (.seq (R [(o2 19 (.load (some 1) 7)), (o2 20 (.call (.func 9) [19])), (ov 8 20)]) (.seq (R [(ov 21 2), (ov 22 2), (o2 23 (.len 1 22)), (o2 24 (.minmax false 23 [(ci 30)])), (o2 25 (.sliceL 14 21 none (some 24) none)), (ov 2 25)]) (.seq (R [(o2 26 (.addrA 3 1 4 (ci 0))), (o2 27 (.load none 26)), (o2 28 (.bin .rem 0 [] 27 (ci 40))), (o2 29 (.addrA 3 1 4 (ci 1))), (o2 30 (.load none 29)), (o2 31 (.bin .rem 0 [] 30 (ci 40))), (o2 32 (.build ZL [(0, (1, (.const (.int .i32 113))))])), (o2 33 (.call (.func 10) [28, 31, 32])), (ov 9 33)]) (.seq (.seq (.region true [(o0 34 (.addrA 3 1 4 (ci 0))), (o1 35 (.load none 34)), (o0 36 (.build ZL [])), (o1 37 (.call (.func 10) [35, (ci 1), 36])), (o0 38 (.bin .eql 3 [] 37 (.const (.pointer none)))), (o0 39 (.addrA 3 1 4 (ci 0))), (o1 40 (.load none 39)), (o2 41 (.call (.func 11) [40, (ci 1)])), (o0 42 (.bin .eql 1 [] 38 41)), (o0 43 (.val 42)), (MOper.mk (some 44) (some (43, false)) 0 (.addrA 3 1 4 (ci 1))), (MOper.mk (some 45) (some (43, false)) 1 (.load none 44)), (MOper.mk (some 46) (some (43, false)) 0 (.build ZL [])), (MOper.mk (some 47) (some (43, false)) 1 (.call (.func 10) [(ci 1), 45, 46])), (MOper.mk (some 48) (some (43, false)) 0 (.bin .eql 3 [] 47 (.const (.pointer none)))), (MOper.mk (some 49) (some (43, false)) 0 (.addrA 3 1 4 (ci 1))), (MOper.mk (some 50) (some (43, false)) 1 (.load none 49)), (oF 51 43 (.call (.func 11) [(ci 1), 50])), (MOper.mk (some 52) (some (43, false)) 0 (.bin .eql 1 [] 48 51)), (o0 53 (.pick 43 (cb true) 52)), (o0 54 (.val 53)), (MOper.mk (some 55) (some (54, false)) 0 (.val 9)), (MOper.mk (some 56) (some (54, false)) 1 (.call (.func 13) [55])), (MOper.mk (some 57) (some (54, false)) 0 (.addrA 3 1 4 (ci 0))), (MOper.mk (some 58) (some (54, false)) 1 (.load none 57)), (MOper.mk (some 59) (some (54, false)) 0 (.bin .rem 0 [] 58 (ci 40))), (MOper.mk (some 60) (some (54, false)) 0 (.addrA 3 1 4 (ci 1))), (MOper.mk (some 61) (some (54, false)) 1 (.load none 60)), (MOper.mk (some 62) (some (54, false)) 0 (.bin .rem 0 [] 61 (ci 40))), (MOper.mk (some 63) (some (54, false)) 0 (.build ZL [(0, (1, (.const (.int .i32 113))))])), (oF 64 54 (.call (.func 14) [59, 62, 63])), (MOper.mk (some 65) (some (54, false)) 0 (.field none 0 64)), (oF 66 54 (.call (.func 12) [56, 65])), (MOper.mk (some 67) (some (54, false)) 0 (.un .not 66)), (o0 68 (.pick 54 (cb true) 67))]) (.cond 68 (.seq (R [(o2 6 (.val (cb false)))]) .ret) .skip)) h0))))))
def mf3 : MFunc := (MFunc.mk 182 [6] (mf3_b law11_GridAsks_c0))
theorem mf3_ok : compF Try.prog idf Try.f3 = some mf3 := by kernel_rfl
def ref11_Draft_Grid_c2 : MCode := (.seq (.block 1 (.seq (R [(ov 33 5), (o2 34 (.convI .u8 33)), (o2 35 (.fieldAddr 1 2)), (o2 36 (.load none 35)), (ov 37 7), (o2 38 (.addrL 2 36 37)), (o2 39 (.fieldAddr 1 38)), (o2 40 (.load none 39)), (o2 41 (.build [(.int .u8 0), (.slice none 0 0)] [(0, (1, 34)), (1, (1, 40))])), (o2 8 (.box 91 (.const (.agg #[(.int .u8 0), (.slice none 0 0)])))), (on (.store 2 8 41))]) (.seq (R [(ov 42 1), (o2 43 (.len 1 42)), (o2 44 (.bin .gtr 0 [] 43 (ci 0)))]) (.cond 44 (.region true [(o1 45 (.load (some 1) 6)), (o0 46 (.val 7)), (o1 47 (.load (some 2) 8)), (o0 48 (.val 1)), (o1 49 (.call (.func 41) [47, 48])), (o2 50 (.call (.func 20) [45, 46, 49])), (on (.store 1 6 50))]) (.region true [(o1 51 (.load (some 1) 6)), (o0 52 (.val 7)), (o1 53 (.load (some 2) 8)), (o1 54 (.call (.func 42) [53])), (o2 55 (.call (.func 20) [51, 52, 54])), (on (.store 1 6 55))]))))) (R [(ov 31 7), (o2 32 (.bin .add 0 [] 31 (ci 1))), (ov 7 32)]))
def ref11_Draft_Grid_l1_ (h0 : MCode) : MCode := (.seq (.seq (R [(ov 22 7), (o2 23 (.fieldAddr 1 2)), (o2 24 (.load none 23)), (o2 25 (.len 1 24)), (o2 26 (.bin .lss 0 [] 22 25)), (ov 27 26), (ot 28 27 (.val 7)), (ot 29 27 (.bin .lss 0 [] 28 (ci 8))), (o2 30 (.pick 27 29 (cb false)))]) (.cond 30 .skip (.exit 0))) h0)
def ref11_Draft_Grid_l1 : MCode := ref11_Draft_Grid_l1_ ref11_Draft_Grid_c2
def ref11_Draft_Grid_c0 : MCode := (.seq (R [(o2 56 (.load (some 1) 6)), (on (.store 1 4 56))]) .ret)
def mf8_b (h0 h1 : MCode) : MCode := (.seq (R [(o2 2 (.box 24 0)), (o2 4 (.box 29 (.const (.agg #[(.slice none 0 0)]))))]) (.seq (R [(o2 9 (.fieldAddr 0 2)), (o2 10 (.load none 9)), (o2 11 (.bin .rem 0 [] 10 (.const (.int .u8 20)))), (o2 12 (.convI .i64 11)), (o2 13 (.bin .add 0 [] (ci 1) 12)), (ov 5 13)]) (.seq (R [(o2 14 (.fieldAddr 1 2)), (o2 15 (.load none 14)), (o2 16 (.len 1 15)), (o2 17 (.minmax false (ci 8) [16])), (o2 18 (.minmax true (ci 1) [17])), (ov 19 5), (o2 20 (.build ZL [])), (o2 21 (.call (.func 14) [18, 19, 20])), (o2 6 (.box 29 (.const (.agg #[(.slice none 0 0)])))), (on (.store 1 6 21))]) (.seq (.seq (R [(o2 7 (.val (ci 0)))]) (.block 0 (.loop h0))) h1))))
def mf8 : MFunc := (MFunc.mk 57 [(.cell 4 (some 1))] (mf8_b ref11_Draft_Grid_l1 ref11_Draft_Grid_c0))
theorem mf8_ok : compF Try.prog idf Try.f8 = some mf8 := by kernel_rfl
def law11_of_l1 : MCode := (.seq (.seq (R [(ov 19 4), (o2 20 (.fieldAddr 0 1)), (o2 21 (.load none 20)), (o2 22 (.len 1 21)), (o2 23 (.bin .lss 0 [] 19 22))]) (.cond 23 .skip (.exit 0))) (.seq (.block 1 (R [(ov 26 3), (ov 27 4), (o2 28 (.fieldAddr 0 1)), (o2 29 (.load none 28)), (ov 30 4), (o2 31 (.addrL 1 29 30)), (o2 32 (.load none 31)), (o2 33 (.call (.func 19) [26, 27, 32]))])) (R [(ov 24 4), (o2 25 (.bin .add 0 [] 24 (ci 1))), (ov 4 25)])))
def law11_of_c0 : MCode := (.seq (R [(ov 34 3), (ov 2 34)]) .ret)
def mf9_b (h0 h1 : MCode) : MCode := (.seq (R [(o2 1 (.box 29 0)), (o2 2 (.val (.const (.pointer none))))]) (.seq (.seq (R [(o2 5 (.fieldAddr 0 1)), (o2 6 (.load none 5)), (o2 7 (.len 1 6)), (o2 8 (.bin .eql 0 [] 7 (ci 0)))]) (.cond 8 (.seq (R [(o2 2 (.val (.const (.pointer none))))]) .ret) .skip)) (.seq (.region true [(o0 9 (.fieldAddr 0 1)), (o1 10 (.load none 9)), (o0 11 (.len 1 10)), (o0 12 (.fieldAddr 0 1)), (o1 13 (.load none 12)), (o0 14 (.addrL 1 13 (ci 0))), (o1 15 (.load none 14)), (o0 16 (.len 1 15)), (o0 17 (.build ZL [])), (o2 18 (.call (.func 10) [11, 16, 17])), (o0 3 (.val 18))]) (.seq (.seq (R [(o2 4 (.val (ci 0)))]) (.block 0 (.loop h0))) h1))))
def mf9 : MFunc := (MFunc.mk 35 [2] (mf9_b law11_of_l1 law11_of_c0))
theorem mf9_ok : compF Try.prog idf Try.f9 = some mf9 := by kernel_rfl
def mf10_b  : MCode := (.seq (R [(o2 5 (.box 42 2)), (o2 6 (.val (.const (.pointer none))))]) (.seq (.seq (R [(ov 8 0), (ov 9 1), (o2 10 (.call (.func 43) [8, 9])), (o2 11 (.un .not 10))]) (.cond 11 (.seq (R [(o2 6 (.val (.const (.pointer none))))]) .ret) .skip)) (.seq (R [(ov 12 1), (o2 13 (.build [(.slice none 0 0), (.int .i64 0)] [(1, (1, 12))])), (o2 14 (.box 95 13)), (ov 7 14)]) (.seq (R [(ov 15 7), (ov 16 0), (ov 17 1), (o2 18 (.load (some 14) 5)), (o2 19 (.call (.func 44) [16, 17, 18])), (o2 20 (.nilCheck 15)), (o2 21 (.fieldAddr 0 20)), (on (.store 1 21 19))]) (.seq (R [(ov 22 7), (ov 6 22)]) .ret)))))
def mf10 : MFunc := (MFunc.mk 23 [6] mf10_b)
theorem mf10_ok : compF Try.prog idf Try.f10 = some mf10 := by kernel_rfl
def mf11_b  : MCode := (.seq (R [(o2 4 (.val (cb false)))]) (.seq (R [(ov 5 0), (o2 6 (.bin .geq 0 [] 5 (ci 1))), (ov 7 6), (ot 8 7 (.val 0)), (ot 9 7 (.bin .leq 0 [] 8 (ci 512))), (o2 10 (.pick 7 9 (cb false))), (ov 11 10), (ot 12 11 (.val 1)), (ot 13 11 (.bin .geq 0 [] 12 (ci 1))), (o2 14 (.pick 11 13 (cb false))), (ov 15 14), (ot 16 15 (.val 1)), (ot 17 15 (.bin .leq 0 [] 16 (ci 512))), (o2 18 (.pick 15 17 (cb false))), (ov 4 18)]) .ret))
def mf11 : MFunc := (MFunc.mk 19 [4] mf11_b)
theorem mf11_ok : compF Try.prog idf Try.f11 = some mf11 := by kernel_rfl
def ref11_Same_l1 : MCode := (.seq (.seq (R [(ov 11 5), (ov 12 0), (o2 13 (.len 1 12)), (o2 14 (.bin .lss 0 [] 11 13))]) (.cond 14 .skip (.exit 0))) (.seq (.block 1 (.seq (.region true [(o0 17 (.val 0)), (o0 18 (.val 5)), (o0 19 (.addrL 1 17 18)), (o1 20 (.load none 19)), (o0 21 (.val 1)), (o0 22 (.val 5)), (o0 23 (.addrL 1 21 22)), (o1 24 (.load none 23)), (o2 25 (.call (.func 25) [20, 24])), (o0 26 (.un .not 25))]) (.cond 26 (.seq (R [(o2 4 (.val (cb false)))]) .ret) .skip))) (R [(ov 15 5), (o2 16 (.bin .add 0 [] 15 (ci 1))), (ov 5 16)])))
def ref11_Same_c0 : MCode := (.seq (R [(o2 4 (.val (cb true)))]) .ret)
def mf12_b (h0 h1 : MCode) : MCode := (.seq (R [(o2 4 (.val (cb false)))]) (.seq (.seq (R [(ov 6 0), (o2 7 (.len 1 6)), (ov 8 1), (o2 9 (.len 1 8)), (o2 10 (.bin .neq 0 [] 7 9))]) (.cond 10 (.seq (R [(o2 4 (.val (cb false)))]) .ret) .skip)) (.seq (.seq (R [(o2 5 (.val (ci 0)))]) (.block 0 (.loop h0))) h1)))
def mf12 : MFunc := (MFunc.mk 27 [4] (mf12_b ref11_Same_l1 ref11_Same_c0))
theorem mf12_ok : compF Try.prog idf Try.f12 = some mf12 := by kernel_rfl
def law11_rows_l1 : MCode := (.seq (.seq (R [(ov 12 6), (ov 13 4), (o2 14 (.bin .lss 0 [] 12 13))]) (.cond 14 .skip (.exit 0))) (.seq (.block 1 (R [(ov 17 3), (ov 18 0), (ov 19 6), (o2 20 (.call (.func 17) [18, 19])), (o2 21 (.lit 26 1 [(.slice none 0 0)] [(0, (1, 20))])), (o2 22 (.append 26 24 1 false 17 21)), (ov 3 22)])) (R [(ov 15 6), (o2 16 (.bin .add 0 [] 15 (ci 1))), (ov 6 16)])))
def law11_rows_c0 : MCode := (.seq (R [(ov 23 3), (ov 2 23)]) .ret)
def mf13_b (h0 h1 : MCode) : MCode := (.seq (R [(o2 2 (.val (.const (.slice none 0 0))))]) (.seq (R [(o2 3 (.val (.const (.slice none 0 0))))]) (.seq (R [(ov 8 0), (o2 9 (.call (.func 22) [8])), (ov 7 9), (o2 10 (.extract 7 0)), (o2 11 (.extract 7 1)), (ov 4 10), (ov 5 11)]) (.seq (.seq (R [(o2 6 (.val (ci 0)))]) (.block 0 (.loop h0))) h1))))
def mf13 : MFunc := (MFunc.mk 24 [2] (mf13_b law11_rows_l1 law11_rows_c0))
theorem mf13_ok : compF Try.prog idf Try.f13 = some mf13 := by kernel_rfl
def ref11_New_l1 : MCode := (.seq (.seq (R [(ov 9 8), (ov 10 0), (o2 11 (.bin .lss 0 [] 9 10)), (ov 12 11), (ot 13 12 (.val 0)), (ot 14 12 (.val 1)), (ot 15 12 (.call (.func 11) [13, 14])), (o2 16 (.pick 12 15 (cb false)))]) (.cond 16 .skip (.exit 0))) (.seq (.block 1 (.region true [(o0 19 (.fieldAddr 0 7)), (o1 20 (.load none 19)), (o0 21 (.val 1)), (o1 22 (.load (some 14) 5)), (o1 23 (.call (.func 45) [21, 22])), (o1 24 (.lit 26 1 [(.slice none 0 0)] [(0, (1, 23))])), (o2 25 (.append 26 24 1 false 20 24)), (o0 26 (.fieldAddr 0 7)), (on (.store 1 26 25))])) (R [(ov 17 8), (o2 18 (.bin .add 0 [] 17 (ci 1))), (ov 8 18)])))
def ref11_New_c0 : MCode := (.seq (R [(o2 27 (.load (some 1) 7)), (on (.store 1 6 27))]) .ret)
def mf14_b (h0 h1 : MCode) : MCode := (.seq (R [(o2 5 (.box 42 2)), (o2 6 (.box 29 (.const (.agg #[(.slice none 0 0)]))))]) (.seq (R [(o2 7 (.box 29 (.const (.agg #[(.slice none 0 0)]))))]) (.seq (.seq (R [(o2 8 (.val (ci 0)))]) (.block 0 (.loop h0))) h1)))
def mf14 : MFunc := (MFunc.mk 28 [(.cell 6 (some 1))] (mf14_b ref11_New_l1 ref11_New_c0))
theorem mf14_ok : compF Try.prog idf Try.f14 = some mf14 := by kernel_rfl
def mf15_b  : MCode := (.seq (R [(o2 3 (.box 48 1)), (o2 4 (.box 42 (.const (.agg ZA)))), (o2 5 (.val (cb false)))]) (.seq (.seq (R [(ov 6 0), (o2 7 (.load (some 2) 3)), (o2 8 (.call (.func 46) [6, 7])), (o2 9 (.un .not 8))]) (.cond 9 (.seq (R [(o2 10 (.build ZL [])), (on (.store 14 4 10)), (o2 5 (.val (cb false)))]) .ret) .skip)) (.seq (.region true [(o0 11 (.val 0)), (o0 12 (.nilCheck 11)), (o0 13 (.fieldAddr 0 12)), (o1 14 (.load none 13)), (o0 15 (.fieldAddr 0 3)), (o1 16 (.load none 15)), (o0 17 (.addrL 1 14 16)), (o1 18 (.load none 17)), (o0 19 (.fieldAddr 1 3)), (o1 20 (.load none 19)), (o0 21 (.addrL 14 18 20)), (o2 22 (.load (some 14) 21)), (on (.store 14 4 22)), (o0 5 (.val (cb true)))]) .ret)))
def mf15 : MFunc := (MFunc.mk 23 [(.cell 4 (some 14)), 5] mf15_b)
theorem mf15_ok : compF Try.prog idf Try.f15 = some mf15 := by kernel_rfl
def mf16_b  : MCode := (.seq (R [(o2 2 (.box 29 0)), (o2 3 (.box 48 1)), (o2 4 (.val (cb false)))]) (.seq (.region true [(o1 5 (.load (some 1) 2)), (o0 6 (.fieldAddr 0 3)), (o1 7 (.load none 6)), (o2 8 (.call (.func 47) [5, 7])), (o0 9 (.val 8)), (MOper.mk (some 10) (some (9, true)) 0 (.fieldAddr 1 3)), (ot 11 9 (.load none 10)), (MOper.mk (some 12) (some (9, true)) 0 (.bin .geq 0 [] 11 (ci 0))), (o0 13 (.pick 9 12 (cb false))), (o0 14 (.val 13)), (MOper.mk (some 15) (some (14, true)) 0 (.fieldAddr 1 3)), (MOper.mk (some 16) (some (14, true)) 1 (.load none 15)), (MOper.mk (some 17) (some (14, true)) 0 (.fieldAddr 0 2)), (MOper.mk (some 18) (some (14, true)) 1 (.load none 17)), (MOper.mk (some 19) (some (14, true)) 0 (.addrL 1 18 (ci 0))), (MOper.mk (some 20) (some (14, true)) 1 (.load none 19)), (MOper.mk (some 21) (some (14, true)) 0 (.len 1 20)), (MOper.mk (some 22) (some (14, true)) 0 (.bin .lss 0 [] 16 21)), (o0 23 (.pick 14 22 (cb false))), (o0 4 (.val 23))]) .ret))
def mf16 : MFunc := (MFunc.mk 24 [4] mf16_b)
theorem mf16_ok : compF Try.prog idf Try.f16 = some mf16 := by kernel_rfl
def mf17_b  : MCode := (.seq (R [(o2 4 (.val (.const (.slice none 0 0))))]) (.seq (.seq (R [(ov 5 0), (ov 6 1), (o2 7 (.call (.func 48) [5, 6])), (o2 8 (.un .not 7))]) (.cond 8 (.seq (R [(o2 4 (.val (.const (.slice none 0 0))))]) .ret) .skip)) (.seq (R [(ov 9 0), (o2 10 (.nilCheck 9)), (o2 11 (.fieldAddr 0 10)), (o2 12 (.load none 11)), (ov 13 1), (o2 14 (.addrL 1 12 13)), (o2 15 (.load none 14)), (o2 16 (.call (.func 49) [15])), (ov 4 16)]) .ret)))
def mf17 : MFunc := (MFunc.mk 17 [4] mf17_b)
theorem mf17_ok : compF Try.prog idf Try.f17 = some mf17 := by kernel_rfl
def mf18_b  : MCode := (.seq (R [(o2 2 (.val (.const (.pointer none))))]) (.seq (.seq (R [(ov 3 0), (o2 4 (.bin .eql 3 [] 3 (.const (.pointer none))))]) (.cond 4 (.seq (R [(o2 2 (.val (.const (.pointer none))))]) .ret) .skip)) (.seq (.region true [(o0 5 (.val 0)), (o0 6 (.nilCheck 5)), (o0 7 (.fieldAddr 0 6)), (o1 8 (.load none 7)), (o1 9 (.call (.func 50) [8])), (o0 10 (.val 0)), (o0 11 (.nilCheck 10)), (o0 12 (.fieldAddr 1 11)), (o1 13 (.load none 12)), (o0 14 (.build [(.slice none 0 0), (.int .i64 0)] [(0, (1, 9)), (1, (1, 13))])), (o2 15 (.box 95 14)), (o0 2 (.val 15))]) .ret)))
def mf18 : MFunc := (MFunc.mk 16 [2] mf18_b)
theorem mf18_ok : compF Try.prog idf Try.f18 = some mf18 := by kernel_rfl
def mf19_b  : MCode := (.seq (R [(o2 6 (.val (cb false)))]) (.seq (.seq (R [(ov 7 0), (ov 8 1), (o2 9 (.call (.func 48) [7, 8])), (o2 10 (.un .not 9)), (ov 11 10), (oF 12 11 (.val 2)), (oF 13 11 (.len 1 12)), (oF 14 11 (.val 0)), (oF 15 11 (.nilCheck 14)), (oF 16 11 (.fieldAddr 1 15)), (oF 17 11 (.load none 16)), (oF 18 11 (.bin .neq 0 [] 13 17)), (o2 19 (.pick 11 (cb true) 18))]) (.cond 19 (.seq (R [(o2 6 (.val (cb false)))]) .ret) .skip)) (.seq (.region true [(o0 20 (.val 0)), (o0 21 (.nilCheck 20)), (o0 22 (.fieldAddr 0 21)), (o1 23 (.load none 22)), (o0 24 (.val 1)), (o0 25 (.val 2)), (o1 26 (.call (.func 49) [25])), (o0 27 (.addrL 1 23 24)), (on (.store 1 27 26))]) (.seq (R [(o2 6 (.val (cb true)))]) .ret))))
def mf19 : MFunc := (MFunc.mk 28 [6] mf19_b)
theorem mf19_ok : compF Try.prog idf Try.f19 = some mf19 := by kernel_rfl
def ref11_Grid_Set_c2 : MCode := (.cond 28 (.region true [(o0 29 (.fieldAddr 0 7)), (o1 30 (.load none 29)), (o1 31 (.lit 42 0 [] [])), (o0 32 (.val 2)), (MOper.mk (some 33) none 3 (.append 42 28 14 false 31 32)), (o1 34 (.lit 26 1 [(.slice none 0 0)] [(0, (1, 33))])), (o2 35 (.append 26 24 1 false 30 34)), (o0 36 (.fieldAddr 0 7)), (on (.store 1 36 35))]) (.region true [(o0 37 (.fieldAddr 0 7)), (o1 38 (.load none 37)), (o0 39 (.fieldAddr 0 3)), (o1 40 (.load none 39)), (o0 41 (.val 8)), (o0 42 (.addrL 1 40 41)), (o1 43 (.load none 42)), (o1 44 (.lit 26 1 [(.slice none 0 0)] [(0, (1, 43))])), (o2 45 (.append 26 24 1 false 38 44)), (o0 46 (.fieldAddr 0 7)), (on (.store 1 46 45))]))
def ref11_Grid_Set_l1_ (h0 : MCode) : MCode := (.seq (.seq (R [(ov 9 8), (o2 10 (.fieldAddr 0 3)), (o2 11 (.load none 10)), (o2 12 (.len 1 11)), (o2 13 (.bin .lss 0 [] 9 12))]) (.cond 13 .skip (.exit 0))) (.seq (.block 1 (.seq (R [(ov 16 8), (ov 17 1), (o2 18 (.bin .eql 0 [] 16 17)), (ov 19 18), (ot 20 19 (.val 2)), (ot 21 19 (.len 1 20)), (ot 22 19 (.fieldAddr 0 3)), (ot 23 19 (.load none 22)), (ot 24 19 (.addrL 1 23 (ci 0))), (ot 25 19 (.load none 24)), (ot 26 19 (.len 1 25)), (ot 27 19 (.bin .eql 0 [] 21 26)), (o2 28 (.pick 19 27 (cb false)))]) h0)) (R [(ov 14 8), (o2 15 (.bin .add 0 [] 14 (ci 1))), (ov 8 15)])))
def ref11_Grid_Set_l1 : MCode := ref11_Grid_Set_l1_ ref11_Grid_Set_c2
def ref11_Grid_Set_c0 : MCode := (.seq (R [(o2 47 (.load (some 1) 7)), (on (.store 1 6 47))]) .ret)
def mf20_b (h0 h1 : MCode) : MCode := (.seq (R [(o2 3 (.box 29 0)), (o2 6 (.box 29 (.const (.agg #[(.slice none 0 0)]))))]) (.seq (R [(o2 7 (.box 29 (.const (.agg #[(.slice none 0 0)]))))]) (.seq (.seq (R [(o2 8 (.val (ci 0)))]) (.block 0 (.loop h0))) h1)))
def mf20 : MFunc := (MFunc.mk 48 [(.cell 6 (some 1))] (mf20_b ref11_Grid_Set_l1 ref11_Grid_Set_c0))
theorem mf20_ok : compF Try.prog idf Try.f20 = some mf20 := by kernel_rfl
def mf21_b  : MCode := (.seq (R [(o2 0 (.val (cb false)))]) (.seq (R [(o2 8 (.call (.func 51) [(.const (.string (bs [97, 98, 99])))])), (o2 9 (.call (.func 51) [(.const (.string (bs [97, 98, 99])))])), (o2 10 (.call (.func 51) [(.const (.string (bs [97, 98, 99])))])), (ov 1 8), (ov 2 9), (ov 3 10)]) (.seq (R [(ov 11 1), (o2 12 (.build ZL [])), (o2 13 (.call (.func 27) [11, (ci 0), (ci 2), (ci 1), 12])), (ov 4 13)]) (.seq (R [(ov 14 2), (o2 15 (.build ZL [])), (o2 16 (.call (.func 30) [14, (ci 1), (ci 2), (ci 5), 15])), (ov 5 16)]) (.seq (R [(ov 17 3), (o2 18 (.build ZL [])), (o2 19 (.call (.func 27) [17, (ci 1), (ci 0), (ci 1), 18])), (o2 20 (.len 1 19)), (ov 21 3), (o2 22 (.build ZL [])), (o2 23 (.call (.func 27) [21, (ci 0), (ci 3), (ci 1), 22])), (o2 24 (.len 1 23)), (o2 25 (.bin .add 0 [] 20 24)), (ov 26 3), (o2 27 (.build ZL [])), (o2 28 (.call (.func 27) [26, (ci 0), (ci 1), (ci 0), 27])), (o2 29 (.len 1 28)), (o2 30 (.bin .add 0 [] 25 29)), (ov 6 30)]) (.seq (R [(ov 31 3), (o2 32 (.lit 9 3 [(.string (bs [])), (.string (bs [])), (.string (bs []))] [(0, (1, (.const (.string (bs [97, 32]))))), (1, (1, (.const (.string (bs [98, 32]))))), (2, (1, (.const (.string (bs [99, 32])))))])), (o2 33 (.call (.func 32) [31, 32])), (ov 7 33)]) (.seq (R [(ov 34 4), (o2 35 (.len 1 34)), (o2 36 (.bin .eql 0 [] 35 (ci 1))), (ov 37 36), (ot 38 37 (.val 4)), (ot 39 37 (.addrL 1 38 (ci 0))), (ot 40 37 (.load none 39)), (ot 41 37 (.call (.func 52) [40])), (ot 42 37 (.bin .eql 0 [] 41 (.const (.string (bs [97, 32]))))), (o2 43 (.pick 37 42 (cb false))), (ov 44 43), (ot 45 44 (.val 1)), (ot 46 44 (.lit 9 3 [(.string (bs [])), (.string (bs [])), (.string (bs []))] [(0, (1, (.const (.string (bs [98, 32]))))), (1, (1, (.const (.string (bs [99, 32]))))), (2, (1, (.const (.string (bs [32, 32])))))])), (ot 47 44 (.call (.func 32) [45, 46])), (o2 48 (.pick 44 47 (cb false))), (ov 49 48), (ot 50 49 (.val 5)), (ot 51 49 (.len 1 50)), (ot 52 49 (.bin .eql 0 [] 51 (ci 2))), (o2 53 (.pick 49 52 (cb false))), (ov 54 53), (ot 55 54 (.val 5)), (ot 56 54 (.addrL 1 55 (ci 0))), (ot 57 54 (.load none 56)), (ot 58 54 (.call (.func 52) [57])), (ot 59 54 (.bin .eql 0 [] 58 (.const (.string (bs [98, 32]))))), (o2 60 (.pick 54 59 (cb false))), (ov 61 60), (ot 62 61 (.val 5)), (ot 63 61 (.addrL 1 62 (ci 1))), (ot 64 61 (.load none 63)), (ot 65 61 (.call (.func 52) [64])), (ot 66 61 (.bin .eql 0 [] 65 (.const (.string (bs [99, 32]))))), (o2 67 (.pick 61 66 (cb false))), (ov 68 67), (ot 69 68 (.val 2)), (ot 70 68 (.lit 9 3 [(.string (bs [])), (.string (bs [])), (.string (bs []))] [(0, (1, (.const (.string (bs [97, 32]))))), (1, (1, (.const (.string (bs [32, 32]))))), (2, (1, (.const (.string (bs [32, 32])))))])), (ot 71 68 (.call (.func 32) [69, 70])), (o2 72 (.pick 68 71 (cb false))), (ov 73 72), (ot 74 73 (.val 6)), (ot 75 73 (.bin .eql 0 [] 74 (ci 0))), (o2 76 (.pick 73 75 (cb false))), (ov 77 76), (ot 78 77 (.val 7)), (o2 79 (.pick 77 78 (cb false))), (ov 80 79), (ot 81 80 (.val 3)), (ot 82 80 (.build ZL [])), (ot 83 80 (.call (.func 33) [81, (ci 2), (ci 3), 82])), (o2 84 (.pick 80 83 (cb false))), (ov 85 84), (ot 86 85 (.val 3)), (ot 87 85 (.lit 9 2 [(.string (bs [])), (.string (bs []))] [(0, (1, (.const (.string (bs [97, 32, 32]))))), (1, (1, (.const (.string (bs [98, 32, 32])))))])), (ot 88 85 (.call (.func 32) [86, 87])), (o2 89 (.pick 85 88 (cb false))), (ov 0 89)]) .ret)))))))
def mf21 : MFunc := (MFunc.mk 90 [0] mf21_b)
theorem mf21_ok : compF Try.prog idf Try.f21 = some mf21 := by kernel_rfl
def mf22_b  : MCode := (.seq (R [(o2 2 (.val (ci 0))), (o2 3 (.val (ci 0)))]) (.seq (.seq (R [(ov 4 0), (o2 5 (.bin .eql 3 [] 4 (.const (.pointer none))))]) (.cond 5 (.seq (R [(o2 2 (.val (ci 0))), (o2 3 (.val (ci 0)))]) .ret) .skip)) (.seq (.region true [(o0 6 (.val 0)), (o0 7 (.nilCheck 6)), (o0 8 (.fieldAddr 0 7)), (o1 9 (.load none 8)), (o0 10 (.len 1 9)), (o0 11 (.val 0)), (o0 12 (.nilCheck 11)), (o0 13 (.fieldAddr 1 12)), (o1 14 (.load none 13)), (o0 2 (.val 10)), (o0 3 (.val 14))]) .ret)))
def mf22 : MFunc := (MFunc.mk 15 [2, 3] mf22_b)
theorem mf22_ok : compF Try.prog idf Try.f22 = some mf22 := by kernel_rfl
def ref10_Same_l1 : MCode := (.seq (.seq (R [(ov 11 5), (ov 12 0), (o2 13 (.len 1 12)), (o2 14 (.bin .lss 0 [] 11 13))]) (.cond 14 .skip (.exit 0))) (.seq (.block 1 (.seq (.region true [(o0 17 (.val 0)), (o0 18 (.val 5)), (o0 19 (.addrL 14 17 18)), (o1 20 (.load (some 14) 19)), (o0 21 (.val 1)), (o0 22 (.val 5)), (o0 23 (.addrL 14 21 22)), (o1 24 (.load (some 14) 23)), (o0 25 (.bin .neq 2 [0, 0, 0, 0, 0, 0, 0, 0, 0, 0, 0, 0, 0, 0] 20 24))]) (.cond 25 (.seq (R [(o2 4 (.val (cb false)))]) .ret) .skip))) (R [(ov 15 5), (o2 16 (.bin .add 0 [] 15 (ci 1))), (ov 5 16)])))
def ref10_Same_c0 : MCode := (.seq (R [(o2 4 (.val (cb true)))]) .ret)
def mf25_b (h0 h1 : MCode) : MCode := (.seq (R [(o2 4 (.val (cb false)))]) (.seq (.seq (R [(ov 6 0), (o2 7 (.len 1 6)), (ov 8 1), (o2 9 (.len 1 8)), (o2 10 (.bin .neq 0 [] 7 9))]) (.cond 10 (.seq (R [(o2 4 (.val (cb false)))]) .ret) .skip)) (.seq (.seq (R [(o2 5 (.val (ci 0)))]) (.block 0 (.loop h0))) h1)))
def mf25 : MFunc := (MFunc.mk 26 [4] (mf25_b ref10_Same_l1 ref10_Same_c0))
theorem mf25_ok : compF Try.prog idf Try.f25 = some mf25 := by kernel_rfl
def mf27_b  : MCode := (.seq (R [(o2 9 (.box 42 4)), (o2 10 (.val (.const (.slice none 0 0))))]) (.seq (R [(ov 11 0), (ov 12 1), (ov 13 2), (ov 14 3), (o2 15 (.load (some 14) 9)), (o2 16 (.call (.func 57) [11, 12, 13, 14, 15, (cb true)])), (ov 10 16)]) .ret))
def mf27 : MFunc := (MFunc.mk 17 [10] mf27_b)
theorem mf27_ok : compF Try.prog idf Try.f27 = some mf27 := by kernel_rfl
def row_New_l1 : MCode := (.seq (R [(o2 13 (.bin .lss 0 [] 12 11))]) (.seq (.cond 13 .skip (.exit 0)) (.seq (.block 1 (.seq (R [(ov 14 12), (ov 6 14)]) (R [(ov 15 5), (ov 16 6), (o2 17 (.load (some 14) 3)), (o2 18 (.addrL 14 15 16)), (on (.store 14 18 17))]))) (R [(o2 19 (.bin .add 0 [] 12 (ci 1))), (ov 12 19)]))))
def row_New_c0 : MCode := (.seq (R [(ov 20 5), (ov 4 20)]) .ret)
def mf29_b (h0 h1 : MCode) : MCode := (.seq (R [(o2 3 (.box 42 1)), (o2 4 (.val (.const (.slice none 0 0))))]) (.seq (R [(ov 7 0), (o2 8 (.minmax true (ci 0) [7])), (o2 9 (.mkSlice 42 28 ZL 8 8)), (ov 5 9)]) (.seq (.seq (R [(ov 10 5), (o2 11 (.len 1 10)), (o2 12 (.val (ci 0)))]) (.block 0 (.loop h0))) h1)))
def mf29 : MFunc := (MFunc.mk 21 [4] (mf29_b row_New_l1 row_New_c0))
theorem mf29_ok : compF Try.prog idf Try.f29 = some mf29 := by kernel_rfl
def mf30_b  : MCode := (.seq (R [(o2 9 (.box 42 4)), (o2 10 (.val (.const (.slice none 0 0))))]) (.seq (R [(ov 11 0), (ov 12 1), (ov 13 2), (ov 14 3), (o2 15 (.load (some 14) 9)), (o2 16 (.call (.func 57) [11, 12, 13, 14, 15, (cb false)])), (ov 10 16)]) .ret))
def mf30 : MFunc := (MFunc.mk 17 [10] mf30_b)
theorem mf30_ok : compF Try.prog idf Try.f30 = some mf30 := by kernel_rfl
def mf31_b  : MCode := (.seq (R [(o2 5 (.box 48 1)), (o2 6 (.box 42 2))]) (R [(ov 8 0), (o2 9 (.load (some 2) 5)), (o2 10 (.load (some 14) 6)), (ov 11 3), (o2 12 (.build [(.int .i32 0), (.int .i32 0), (.int .i32 0), (.int .u8 0), (.int .u8 0), (.int .u8 0), (.int .u8 0), (.int .u8 0), (.int .u8 0), (.int .u8 0), (.int .u8 0), (.int .u8 0), (.int .u16 0), (.int .u8 0), (.bool false)] [(0, (14, 10)), (14, (1, 11))])), (o2 13 (.mkFunc (.func 60) [12] [])), (o2 14 (.call (.func 59) [8, 9, 13]))]))
def mf31 : MFunc := (MFunc.mk 15 [] mf31_b)
theorem mf31_ok : compF Try.prog idf Try.f31 = some mf31 := by kernel_rfl
def mf32_b  : MCode := (.seq (R [(o2 4 (.val (cb false)))]) (.seq (R [(ov 5 0), (o2 6 (.call (.func 37) [5])), (o2 7 (.call (.func 61) [6, (.const (.string (bs [124])))])), (ov 8 1), (o2 9 (.call (.func 61) [8, (.const (.string (bs [124])))])), (o2 10 (.bin .eql 0 [] 7 9)), (ov 4 10)]) .ret))
def mf32 : MFunc := (MFunc.mk 11 [4] mf32_b)
theorem mf32_ok : compF Try.prog idf Try.f32 = some mf32 := by kernel_rfl
def grid_Grid_Resize_a2 : MCode := (.seq (R [(ov 9 22)]) (R [(ov 10 23)]))
def grid_Grid_Resize_b2 : MCode := (.block 1 (.region true [(o1 24 (.load none 4)), (o0 25 (.nilCheck 24)), (o0 26 (.fieldAddr 0 25)), (o1 27 (.load none 26)), (o0 28 (.val 9)), (o0 29 (.val 10)), (o1 30 (.load none 6)), (o1 31 (.load (some 14) 7)), (o1 32 (.call (.func 63) [29, 30, 31])), (o0 33 (.addrL 1 27 28)), (on (.store 1 33 32))]))
def grid_Grid_Resize_c1 : MCode := (.seq (R [(ov 34 1), (o2 35 (.load none 4)), (o2 36 (.nilCheck 35)), (o2 37 (.fieldAddr 0 36)), (o2 38 (.load none 37)), (o2 39 (.len 1 38)), (o2 40 (.minmax false 34 [39])), (ov 11 40)]) (.seq (.region true [(o1 41 (.load none 4)), (o1 42 (.load none 4)), (o0 43 (.nilCheck 42)), (o0 44 (.fieldAddr 0 43)), (o1 45 (.load none 44)), (o0 46 (.val 11)), (o0 47 (.val 11)), (o0 48 (.sliceL 1 45 none (some 46) (some 47))), (o0 49 (.val 1)), (o0 50 (.val 11)), (o0 51 (.bin .sub 0 [] 49 50)), (o1 52 (.load none 6)), (o1 53 (.load (some 14) 7)), (o1 54 (.call (.func 44) [51, 52, 53])), (MOper.mk (some 55) none 3 (.append 26 24 1 false 48 54)), (o0 56 (.nilCheck 41)), (o0 57 (.fieldAddr 0 56)), (on (.store 1 57 55))]) (.seq (R [(o2 58 (.load none 4)), (o2 59 (.load none 6)), (o2 60 (.nilCheck 58)), (o2 61 (.fieldAddr 1 60)), (on (.store 1 61 59))]) (.seq (R [(o2 8 (.val (cb true)))]) .ret))))
def grid_Grid_Resize_c0_ (h0 h1 h2 : MCode) : MCode := (.seq (.seq (R [(o2 20 (.load none 4)), (o2 21 (.call (.func 62) [20]))]) (.block 0 (.rangeFunc 21 [22, 23] h0 h1))) h2)
def grid_Grid_Resize_c0 : MCode := grid_Grid_Resize_c0_ grid_Grid_Resize_a2 grid_Grid_Resize_b2 grid_Grid_Resize_c1
def mf33_b (h0 : MCode) : MCode := (.seq (R [(o2 4 (.box 31 0)), (o2 6 (.box 3 2)), (o2 7 (.box 42 3)), (o2 8 (.val (cb false)))]) (.seq (.seq (R [(o2 12 (.load none 4)), (o2 13 (.bin .eql 3 [] 12 (.const (.pointer none)))), (ov 14 13), (oF 15 14 (.val 1)), (oF 16 14 (.load none 6)), (oF 17 14 (.call (.func 43) [15, 16])), (oF 18 14 (.un .not 17)), (o2 19 (.pick 14 (cb true) 18))]) (.cond 19 (.seq (R [(o2 8 (.val (cb false)))]) .ret) .skip)) h0))
def mf33 : MFunc := (MFunc.mk 62 [8] (mf33_b grid_Grid_Resize_c0))
theorem mf33_ok : compF Try.prog idf Try.f33 = some mf33 := by kernel_rfl
def grid_Grid_Text_a1 : MCode := (R [(ov 5 9)])
def grid_Grid_Text_b1 : MCode := (.block 1 (.region true [(o1 10 (.load none 2)), (o1 11 (.load none 3)), (o0 12 (.val 5)), (o1 13 (.call 11 [12])), (o1 14 (.lit 9 1 [(.string (bs []))] [(0, (1, 13))])), (o2 15 (.append 9 16 1 false 10 14)), (on (.store 1 2 15))]))
def grid_Grid_Text_c0 : MCode := (.seq (R [(o2 16 (.load none 2)), (on (.store 1 2 16))]) .ret)
def mf37_b (h0 h1 h2 : MCode) : MCode := (.seq (R [(o2 2 (.box 82 (.const (.slice none 0 0))))]) (.seq (R [(o2 3 (.box 101 (.const .nilFunc))), (on (.store 1 3 (.func 52)))]) (.seq (.seq (R [(ov 6 0), (o2 7 (.call (.func 62) [6]))]) (.block 0 (.rangeFunc 7 [8, 9] h0 h1))) h2)))
def mf37 : MFunc := (MFunc.mk 17 [(.cell 2 none)] (mf37_b grid_Grid_Text_a1 grid_Grid_Text_b1 grid_Grid_Text_c0))
theorem mf37_ok : compF Try.prog idf Try.f37 = some mf37 := by kernel_rfl
def mf41_b  : MCode := (.seq (R [(o2 2 (.box 91 0)), (o2 4 (.val (.const (.slice none 0 0))))]) (.seq (.region true [(o1 5 (.load (some 2) 2)), (o1 6 (.call (.func 72) [5])), (o0 7 (.fieldAddr 1 2)), (o1 8 (.load none 7)), (o0 9 (.val 1)), (o2 10 (.call (.func 71) [6, 8, 9])), (o0 4 (.val 10))]) .ret))
def mf41 : MFunc := (MFunc.mk 11 [4] mf41_b)
theorem mf41_ok : compF Try.prog idf Try.f41 = some mf41 := by kernel_rfl
def mf42_b  : MCode := (.seq (R [(o2 1 (.box 91 0)), (o2 2 (.val (.const (.slice none 0 0))))]) (.seq (.region true [(o1 3 (.load (some 2) 1)), (o1 4 (.call (.func 72) [3])), (o0 5 (.fieldAddr 1 1)), (o1 6 (.load none 5)), (o2 7 (.call (.func 71) [4, 6, (.const (.slice none 0 0))])), (o0 2 (.val 7))]) .ret))
def mf42 : MFunc := (MFunc.mk 8 [2] mf42_b)
theorem mf42_ok : compF Try.prog idf Try.f42 = some mf42 := by kernel_rfl
def mf43_b  : MCode := (.seq (R [(o2 4 (.val (cb false)))]) (.seq (R [(ov 5 0), (ov 6 1), (o2 7 (.minmax false 5 [6])), (o2 8 (.bin .geq 0 [] 7 (ci 1))), (ov 9 8), (ot 10 9 (.val 0)), (ot 11 9 (.bin .leq 0 [] 10 (ci 512))), (o2 12 (.pick 9 11 (cb false))), (ov 13 12), (ot 14 13 (.val 1)), (ot 15 13 (.bin .leq 0 [] 14 (ci 512))), (o2 16 (.pick 13 15 (cb false))), (ov 4 16)]) .ret))
def mf43 : MFunc := (MFunc.mk 17 [4] mf43_b)
theorem mf43_ok : compF Try.prog idf Try.f43 = some mf43 := by kernel_rfl
def grid_blanks_l1 : MCode := (.seq (R [(o2 9 (.bin .lss 0 [] 8 7))]) (.seq (.cond 9 .skip (.exit 0)) (.seq (.block 1 (R [(ov 10 6), (ov 11 1), (o2 12 (.load (some 14) 5)), (o2 13 (.call (.func 29) [11, 12])), (o2 14 (.lit 26 1 [(.slice none 0 0)] [(0, (1, 13))])), (o2 15 (.append 26 24 1 false 10 14)), (ov 6 15)])) (R [(o2 16 (.bin .add 0 [] 8 (ci 1))), (ov 8 16)]))))
def grid_blanks_c0 : MCode := (.seq (R [(ov 17 6), (ov 6 17)]) .ret)
def mf44_b (h0 h1 : MCode) : MCode := (.seq (R [(o2 5 (.box 42 2)), (o2 6 (.val (.const (.slice none 0 0))))]) (.seq (.seq (R [(ov 7 0), (o2 8 (.val (ci 0)))]) (.block 0 (.loop h0))) h1))
def mf44 : MFunc := (MFunc.mk 18 [6] (mf44_b grid_blanks_l1 grid_blanks_c0))
theorem mf44_ok : compF Try.prog idf Try.f44 = some mf44 := by kernel_rfl
def ref10_New_l1 : MCode := (.seq (.seq (R [(ov 7 6), (ov 8 0), (o2 9 (.bin .lss 0 [] 7 8))]) (.cond 9 .skip (.exit 0))) (.seq (.block 1 (R [(ov 12 5), (o2 13 (.load (some 14) 3)), (o2 14 (.lit 42 1 ZL [(0, (14, 13))])), (o2 15 (.append 42 28 14 false 12 14)), (ov 5 15)])) (R [(ov 10 6), (o2 11 (.bin .add 0 [] 10 (ci 1))), (ov 6 11)])))
def ref10_New_c0 : MCode := (.seq (R [(ov 16 5), (ov 4 16)]) .ret)
def mf45_b (h0 h1 : MCode) : MCode := (.seq (R [(o2 3 (.box 42 1)), (o2 4 (.val (.const (.slice none 0 0))))]) (.seq (R [(o2 5 (.val (.const (.slice none 0 0))))]) (.seq (.seq (R [(o2 6 (.val (ci 0)))]) (.block 0 (.loop h0))) h1)))
def mf45 : MFunc := (MFunc.mk 17 [4] (mf45_b ref10_New_l1 ref10_New_c0))
theorem mf45_ok : compF Try.prog idf Try.f45 = some mf45 := by kernel_rfl
def mf46_b  : MCode := (.seq (R [(o2 3 (.box 48 1)), (o2 4 (.val (cb false)))]) (.seq (.region true [(o0 5 (.val 0)), (o0 6 (.fieldAddr 0 3)), (o2 7 (.load none 6)), (o2 8 (.call (.func 48) [5, 7])), (o0 9 (.val 8)), (MOper.mk (some 10) (some (9, true)) 0 (.fieldAddr 1 3)), (ot 11 9 (.load none 10)), (MOper.mk (some 12) (some (9, true)) 0 (.bin .geq 0 [] 11 (ci 0))), (o0 13 (.pick 9 12 (cb false))), (o0 14 (.val 13)), (MOper.mk (some 15) (some (14, true)) 0 (.fieldAddr 1 3)), (MOper.mk (some 16) (some (14, true)) 1 (.load none 15)), (MOper.mk (some 17) (some (14, true)) 0 (.val 0)), (MOper.mk (some 18) (some (14, true)) 0 (.nilCheck 17)), (MOper.mk (some 19) (some (14, true)) 0 (.fieldAddr 1 18)), (MOper.mk (some 20) (some (14, true)) 1 (.load none 19)), (MOper.mk (some 21) (some (14, true)) 0 (.bin .lss 0 [] 16 20)), (o0 22 (.pick 14 21 (cb false))), (o0 4 (.val 22))]) .ret))
def mf46 : MFunc := (MFunc.mk 23 [4] mf46_b)
theorem mf46_ok : compF Try.prog idf Try.f46 = some mf46 := by kernel_rfl
def mf47_b  : MCode := (.seq (R [(o2 2 (.box 29 0)), (o2 4 (.val (cb false)))]) (.seq (R [(ov 5 1), (o2 6 (.bin .geq 0 [] 5 (ci 0))), (ov 7 6), (ot 8 7 (.val 1)), (ot 9 7 (.fieldAddr 0 2)), (ot 10 7 (.load none 9)), (ot 11 7 (.len 1 10)), (ot 12 7 (.bin .lss 0 [] 8 11)), (o2 13 (.pick 7 12 (cb false))), (ov 4 13)]) .ret))
def mf47 : MFunc := (MFunc.mk 14 [4] mf47_b)
theorem mf47_ok : compF Try.prog idf Try.f47 = some mf47 := by kernel_rfl
def mf48_b  : MCode := (.seq (R [(o2 4 (.val (cb false)))]) (.seq (R [(ov 5 0), (o2 6 (.bin .neq 3 [] 5 (.const (.pointer none)))), (ov 7 6), (ot 8 7 (.val 1)), (ot 9 7 (.bin .geq 0 [] 8 (ci 0))), (o2 10 (.pick 7 9 (cb false))), (ov 11 10), (ot 12 11 (.val 1)), (ot 13 11 (.val 0)), (ot 14 11 (.nilCheck 13)), (ot 15 11 (.fieldAddr 0 14)), (ot 16 11 (.load none 15)), (ot 17 11 (.len 1 16)), (ot 18 11 (.bin .lss 0 [] 12 17)), (o2 19 (.pick 11 18 (cb false))), (ov 4 19)]) .ret))
def mf48 : MFunc := (MFunc.mk 20 [4] mf48_b)
theorem mf48_ok : compF Try.prog idf Try.f48 = some mf48 := by kernel_rfl
def mf49_b  : MCode := (.seq (R [(o2 2 (.val (.const (.slice none 0 0))))]) (.seq (.seq (R [(ov 3 0), (o2 4 (.bin .eql 4 [] 3 (.const (.slice none 0 0))))]) (.cond 4 (.seq (R [(o2 2 (.val (.const (.slice none 0 0))))]) .ret) .skip)) (.seq (R [(o2 5 (.lit 42 0 [] [])), (ov 6 0), (o2 7 (.append 42 28 14 false 5 6)), (ov 2 7)]) .ret)))
def mf49 : MFunc := (MFunc.mk 8 [2] mf49_b)
theorem mf49_ok : compF Try.prog idf Try.f49 = some mf49 := by kernel_rfl
def mf50_b  : MCode := (.seq (R [(o2 2 (.val (.const (.slice none 0 0))))]) (.seq (.seq (R [(ov 3 0), (o2 4 (.bin .eql 4 [] 3 (.const (.slice none 0 0))))]) (.cond 4 (.seq (R [(o2 2 (.val (.const (.slice none 0 0))))]) .ret) .skip)) (.seq (R [(o2 5 (.lit 26 0 [] [])), (ov 6 0), (o2 7 (.append 26 24 1 false 5 6)), (ov 2 7)]) .ret)))
def mf50 : MFunc := (MFunc.mk 8 [2] mf50_b)
theorem mf50_ok : compF Try.prog idf Try.f50 = some mf50 := by kernel_rfl
def law11_letters_l1 : MCode := (.seq (.seq (R [(ov 9 4), (ov 10 0), (o2 11 (.len 0 10)), (o2 12 (.bin .lss 0 [] 9 11))]) (.cond 12 .skip (.exit 0))) (.seq (.block 1 (R [(ov 15 3), (ov 16 4), (o2 17 (.build [(.int .i64 0), (.int .i64 0)] [(0, (1, 16))])), (ov 18 0), (ov 19 4), (o2 20 (.idxS 18 19)), (o2 21 (.convI .i32 20)), (o2 22 (.build ZL [(0, (1, 21))])), (o2 23 (.call (.func 31) [15, 17, 22, (cb false)]))])) (R [(ov 13 4), (o2 14 (.bin .add 0 [] 13 (ci 1))), (ov 4 14)])))
def law11_letters_c0 : MCode := (.seq (R [(ov 24 3), (ov 2 24)]) .ret)
def mf51_b (h0 h1 : MCode) : MCode := (.seq (R [(o2 2 (.val (.const (.pointer none))))]) (.seq (R [(ov 5 0), (o2 6 (.len 0 5)), (o2 7 (.build ZL [])), (o2 8 (.call (.func 10) [6, (ci 2), 7])), (ov 3 8)]) (.seq (.seq (R [(o2 4 (.val (ci 0)))]) (.block 0 (.loop h0))) h1)))
def mf51 : MFunc := (MFunc.mk 25 [2] (mf51_b law11_letters_l1 law11_letters_c0))
theorem mf51_ok : compF Try.prog idf Try.f51 = some mf51 := by kernel_rfl
def row_Text_l3 : MCode := (.seq (R [(o2 29 (.bin .lss 0 [] 28 (ci 2)))]) (.seq (.cond 29 .skip (.exit 3)) (.seq (.block 4 (.seq (R [(o2 30 (.idxA 2 none 1 27 28)), (ov 7 30)]) (.seq (R [(ov 31 7), (o2 32 (.bin .neq 0 [] 31 (.const (.int .i32 0))))]) (.cond 32 (R [(ov 33 7), (o2 34 (.call (.func 74) [3, 33]))]) .skip)))) (R [(o2 35 (.bin .add 0 [] 28 (ci 1))), (ov 28 35)]))))
def row_Text_c2 : MCode := (R [(o2 36 (.bin .add 0 [] 10 (ci 1))), (ov 10 36)])
def row_Text_l1_ (h0 h1 : MCode) : MCode := (.seq (R [(o2 11 (.bin .lss 0 [] 10 9))]) (.seq (.cond 11 .skip (.exit 0)) (.seq (.block 1 (.seq (R [(o2 12 (.addrL 14 8 10)), (o2 13 (.load (some 14) 12)), (o2 5 (.box 42 (.const (.agg ZA)))), (on (.store 14 5 13))]) (.seq (.block 2 (.seq (R [(o2 15 (.fieldAddr 3 5)), (o2 16 (.load none 15)), (o2 17 (.bin .eql 0 [] 16 (.const (.int .u8 2)))), (ov 14 17)]) (.cond 14 (.exit 1) (.seq (R [(o2 19 (.fieldAddr 0 5)), (o2 20 (.load none 19)), (o2 21 (.bin .eql 0 [] 20 (.const (.int .i32 0)))), (ov 18 21)]) (.cond 18 (.seq (R [(o2 22 (.call (.func 73) [3, (.const (.int .u8 32))]))]) (.exit 1)) .skip))))) (.seq (R [(o2 23 (.fieldAddr 0 5)), (o2 24 (.load none 23)), (o2 25 (.call (.func 74) [3, 24]))]) (.seq (R [(o2 26 (.fieldAddr 1 5)), (o2 27 (.load (some 2) 26)), (o2 28 (.val (ci 0)))]) (.block 3 (.loop h0))))))) h1)))
def row_Text_l1 : MCode := row_Text_l1_ row_Text_l3 row_Text_c2
def row_Text_c0 : MCode := (.seq (R [(o2 37 (.call (.func 75) [3])), (ov 2 37)]) .ret)
def mf52_b (h0 h1 : MCode) : MCode := (.seq (R [(o2 2 (.val (.const (.string (bs [])))))]) (.seq (R [(o2 3 (.box 126 (.const (.agg #[(.pointer none), (.slice none 0 0)]))))]) (.seq (.seq (R [(ov 8 0), (o2 9 (.len 1 8)), (o2 10 (.val (ci 0)))]) (.block 0 (.loop h0))) h1)))
def mf52 : MFunc := (MFunc.mk 38 [2] (mf52_b row_Text_l1 row_Text_c0))
theorem mf52_ok : compF Try.prog idf Try.f52 = some mf52 := by kernel_rfl
def ref10_Draft_Cell_l1 : MCode := (.seq (.seq (R [(ov 14 4), (o2 15 (.fieldAddr 1 1)), (o2 16 (.load none 15)), (o2 17 (.bin .rem 0 [] 16 (.const (.int .u8 8)))), (o2 18 (.convI .i64 17)), (o2 19 (.bin .lss 0 [] 14 18)), (ov 20 19), (ot 21 20 (.val 4)), (ot 22 20 (.bin .lss 0 [] 21 (ci 2))), (o2 23 (.pick 20 22 (cb false)))]) (.cond 23 .skip (.exit 0))) (.seq (.block 1 (R [(ov 26 4), (o2 27 (.fieldAddr 1 3)), (o2 28 (.addrA 2 1 27 26)), (on (.store 1 28 (.const (.int .i32 769))))])) (R [(ov 24 4), (o2 25 (.bin .add 0 [] 24 (ci 1))), (ov 4 25)])))
def ref10_Draft_Cell_c0 : MCode := (.seq (.seq (R [(o2 29 (.fieldAddr 4 1)), (o2 30 (.load none 29))]) (.cond 30 (R [(o2 31 (.fieldAddr 13 3)), (on (.store 1 31 (.const (.int .u8 1))))]) .skip)) (.seq (R [(o2 32 (.load (some 14) 3)), (on (.store 14 2 32))]) .ret))
def mf56_b (h0 h1 : MCode) : MCode := (.seq (R [(o2 1 (.box 60 0)), (o2 2 (.box 42 (.const (.agg ZA))))]) (.seq (.region true [(o0 5 (.fieldAddr 0 1)), (o1 6 (.load none 5)), (o0 7 (.bin .rem 0 [] 6 (.const (.int .u8 26)))), (o0 8 (.convI .i32 7)), (o0 9 (.bin .add 0 [] (.const (.int .i32 97)) 8)), (o0 10 (.fieldAddr 2 1)), (o1 11 (.load none 10)), (o1 12 (.call (.func 82) [11])), (o0 13 (.build ZL [(0, (1, 9)), (4, (9, 12))])), (o1 3 (.box 42 (.const (.agg ZA)))), (on (.store 14 3 13))]) (.seq (.seq (R [(o2 4 (.val (ci 0)))]) (.block 0 (.loop h0))) h1)))
def mf56 : MFunc := (MFunc.mk 33 [(.cell 2 (some 14))] (mf56_b ref10_Draft_Cell_l1 ref10_Draft_Cell_c0))
theorem mf56_ok : compF Try.prog idf Try.f56 = some mf56 := by kernel_rfl
def grid_Grid_scroll_l3 : MCode := (.seq (R [(o2 90 (.bin .lss 0 [] 89 88))]) (.seq (.cond 90 .skip (.exit 0)) (.seq (.block 1 (.seq (R [(o2 91 (.addrL 1 87 89)), (o2 92 (.load none 91)), (ov 21 92)]) (R [(ov 93 19), (ov 94 21), (o2 95 (.call (.func 49) [94])), (o2 96 (.lit 26 1 [(.slice none 0 0)] [(0, (1, 95))])), (o2 97 (.append 26 24 1 false 93 96)), (ov 19 97)]))) (R [(o2 98 (.bin .add 0 [] 89 (ci 1))), (ov 89 98)]))))
def grid_Grid_scroll_c2 : MCode := (.seq (R [(ov 99 13), (ov 100 18), (o2 101 (.copy 1 99 100))]) (.seq (R [(ov 102 19), (ov 12 102)]) .ret))
def grid_Grid_scroll_c1_ (h0 h1 : MCode) : MCode := (.seq (.region true [(o0 62 (.val 13)), (o0 63 (.val 14)), (o0 64 (.sliceL 1 62 none (some 63) none)), (o0 65 (.val 13)), (o0 66 (.val 14)), (o0 67 (.sliceL 1 65 (some 66) none none)), (o0 15 (.val 64)), (o0 16 (.val 67))]) (.seq (.region true [(o0 68 (.val 3)), (o0 69 (.val 0)), (o0 70 (.nilCheck 69)), (o0 71 (.fieldAddr 1 70)), (o1 72 (.load none 71)), (o1 73 (.load (some 14) 10)), (o2 74 (.call (.func 44) [68, 72, 73])), (o0 17 (.val 74))]) (.seq (R [(ov 75 16), (ov 76 17), (o2 77 (.lit 27 2 [(.slice none 0 0), (.slice none 0 0)] [(0, (1, 75)), (1, (1, 76))])), (o2 78 (.call (.func 83) [77])), (ov 18 78)]) (.seq (.seq (R [(ov 79 5), (o2 80 (.un .not 79))]) (.cond 80 (.seq (R [(ov 81 16), (ov 82 15), (ov 15 81), (ov 16 82)]) (R [(ov 83 17), (ov 84 16), (o2 85 (.lit 27 2 [(.slice none 0 0), (.slice none 0 0)] [(0, (1, 83)), (1, (1, 84))])), (o2 86 (.call (.func 83) [85])), (ov 18 86)])) .skip)) (.seq (R [(o2 19 (.val (.const (.slice none 0 0))))]) (.seq (.seq (R [(ov 87 15), (o2 88 (.len 1 87)), (o2 89 (.val (ci 0)))]) (.block 0 (.loop h0))) h1))))))
def grid_Grid_scroll_c1 : MCode := grid_Grid_scroll_c1_ grid_Grid_scroll_l3 grid_Grid_scroll_c2
def grid_Grid_scroll_c0_ (h0 : MCode) : MCode := (.seq (R [(ov 41 0), (o2 42 (.nilCheck 41)), (o2 43 (.fieldAddr 0 42)), (o2 44 (.load none 43)), (ov 45 1), (ov 46 2), (o2 47 (.bin .add 0 [] 46 (ci 1))), (ov 48 2), (o2 49 (.bin .add 0 [] 48 (ci 1))), (o2 50 (.sliceL 1 44 (some 45) (some 47) (some 49))), (ov 13 50)]) (.seq (R [(ov 51 3), (ov 52 13), (o2 53 (.len 1 52)), (o2 54 (.minmax false 51 [53])), (ov 3 54)]) (.seq (R [(ov 55 3), (ov 14 55)]) (.seq (.seq (R [(ov 56 5), (o2 57 (.un .not 56))]) (.cond 57 (R [(ov 58 13), (o2 59 (.len 1 58)), (ov 60 3), (o2 61 (.bin .sub 0 [] 59 60)), (ov 14 61)]) .skip)) h0))))
def grid_Grid_scroll_c0 : MCode := grid_Grid_scroll_c0_ grid_Grid_scroll_c1
def mf57_b (h0 : MCode) : MCode := (.seq (R [(o2 10 (.box 42 4)), (o2 12 (.val (.const (.slice none 0 0))))]) (.seq (.seq (R [(ov 22 0), (ov 23 1), (o2 24 (.call (.func 48) [22, 23])), (o2 25 (.un .not 24)), (ov 26 25), (oF 27 26 (.val 0)), (oF 28 26 (.val 2)), (oF 29 26 (.call (.func 48) [27, 28])), (oF 30 26 (.un .not 29)), (o2 31 (.pick 26 (cb true) 30)), (ov 32 31), (oF 33 32 (.val 1)), (oF 34 32 (.val 2)), (oF 35 32 (.bin .gtr 0 [] 33 34)), (o2 36 (.pick 32 (cb true) 35)), (ov 37 36), (oF 38 37 (.val 3)), (oF 39 37 (.bin .lss 0 [] 38 (ci 1))), (o2 40 (.pick 37 (cb true) 39))]) (.cond 40 (.seq (R [(o2 12 (.val (.const (.slice none 0 0))))]) .ret) .skip)) h0))
def mf57 : MFunc := (MFunc.mk 103 [12] (mf57_b grid_Grid_scroll_c0))
theorem mf57_ok : compF Try.prog idf Try.f57 = some mf57 := by kernel_rfl
def mf59_b  : MCode := (.seq (R [(o2 4 (.box 48 1))]) (.seq (R [(ov 6 0), (o2 7 (.load (some 2) 4)), (o2 8 (.call (.func 46) [6, 7]))]) (.cond 8 (.region true [(o0 9 (.val 0)), (o0 10 (.nilCheck 9)), (o0 11 (.fieldAddr 0 10)), (o1 12 (.load none 11)), (o0 13 (.fieldAddr 0 4)), (o1 14 (.load none 13)), (o0 15 (.val 2)), (o0 16 (.val 0)), (o0 17 (.nilCheck 16)), (o0 18 (.fieldAddr 0 17)), (o1 19 (.load none 18)), (o0 20 (.fieldAddr 0 4)), (o1 21 (.load none 20)), (o0 22 (.addrL 1 19 21)), (o1 23 (.load none 22)), (o0 24 (.fieldAddr 1 4)), (o1 25 (.load none 24)), (o1 26 (.call 15 [23, 25])), (o0 27 (.addrL 1 12 14)), (on (.store 1 27 26))]) .skip)))
def mf59 : MFunc := (MFunc.mk 28 [] mf59_b)
theorem mf59_ok : compF Try.prog idf Try.f59 = some mf59 := by kernel_rfl
def mf60_b  : MCode := (.seq (R [(o2 3 (.box 109 0)), (o2 6 (.val (.const (.slice none 0 0))))]) (.seq (R [(ov 7 1), (ov 8 2), (o2 9 (.fieldAddr 0 3)), (o2 10 (.load (some 14) 9)), (o2 11 (.fieldAddr 14 3)), (o2 12 (.load none 11)), (o2 13 (.call (.func 84) [7, 8, 10, 12])), (ov 6 13)]) .ret))
def mf60 : MFunc := (MFunc.mk 14 [6] mf60_b)
theorem mf60_ok : compF Try.prog idf Try.f60 = some mf60 := by kernel_rfl
def strings_Join_l3 : MCode := (.seq (R [(o2 42 (.bin .lss 0 [] 41 40))]) (.seq (.cond 42 .skip (.exit 1)) (.seq (.block 2 (.seq (R [(o2 43 (.addrL 1 39 41)), (o2 44 (.load none 43)), (ov 7 44)]) (.seq (.seq (R [(ov 45 7), (o2 46 (.len 0 45)), (ov 47 5), (o2 48 (.bin .sub 0 [] (ci 9223372036854775807) 47)), (o2 49 (.bin .gtr 0 [] 46 48))]) (.cond 49 (R [(o2 50 (.mkIface 9 (.const (.string (bs [115, 116, 114, 105, 110, 103, 115, 58, 32, 74, 111, 105, 110, 32, 111, 117, 116, 112, 117, 116, 32, 108, 101, 110, 103, 116, 104, 32, 111, 118, 101, 114, 102, 108, 111, 119]))))), (on .never)]) .skip)) (R [(ov 51 5), (ov 52 7), (o2 53 (.len 0 52)), (o2 54 (.bin .add 0 [] 51 53)), (ov 5 54)])))) (R [(o2 55 (.bin .add 0 [] 41 (ci 1))), (ov 41 55)]))))
def strings_Join_l5 : MCode := (.seq (R [(o2 66 (.bin .lss 0 [] 65 64))]) (.seq (.cond 66 .skip (.exit 3)) (.seq (.block 4 (.seq (R [(o2 67 (.addrL 1 63 65)), (o2 68 (.load none 67)), (ov 10 68)]) (.seq (R [(ov 69 1), (o2 70 (.call (.func 86) [8, 69]))]) (R [(ov 71 10), (o2 72 (.call (.func 86) [8, 71]))])))) (R [(o2 73 (.bin .add 0 [] 65 (ci 1))), (ov 65 73)]))))
def strings_Join_c4 : MCode := (.seq (R [(o2 74 (.call (.func 75) [8])), (ov 4 74)]) .ret)
def strings_Join_c2_ (h0 h1 : MCode) : MCode := (.seq (R [(o2 8 (.box 126 (.const (.agg #[(.pointer none), (.slice none 0 0)]))))]) (.seq (R [(ov 56 5), (o2 57 (.call (.func 85) [8, 56]))]) (.seq (R [(ov 58 0), (o2 59 (.addrL 1 58 (ci 0))), (o2 60 (.load none 59)), (o2 61 (.call (.func 86) [8, 60]))]) (.seq (.seq (R [(ov 62 0), (o2 63 (.sliceL 1 62 (some (ci 1)) none none)), (o2 64 (.len 1 63)), (o2 65 (.val (ci 0)))]) (.block 3 (.loop h0))) h1))))
def strings_Join_c2 : MCode := strings_Join_c2_ strings_Join_l5 strings_Join_c4
def strings_Join_c1_ (h0 h1 : MCode) : MCode := (.seq (.seq (R [(ov 39 0), (o2 40 (.len 1 39)), (o2 41 (.val (ci 0)))]) (.block 1 (.loop h0))) h1)
def strings_Join_c1 : MCode := strings_Join_c1_ strings_Join_l3 strings_Join_c2
def strings_Join_c0_ (h0 : MCode) : MCode := (.seq (R [(o2 5 (.val (ci 0)))]) (.seq (.seq (R [(ov 20 1), (o2 21 (.len 0 20)), (o2 22 (.bin .gtr 0 [] 21 (ci 0)))]) (.cond 22 (.seq (.seq (R [(ov 23 1), (o2 24 (.len 0 23)), (ov 25 0), (o2 26 (.len 1 25)), (o2 27 (.bin .sub 0 [] 26 (ci 1))), (o2 28 (.bin .quo 0 [] (ci 9223372036854775807) 27)), (o2 29 (.bin .geq 0 [] 24 28))]) (.cond 29 (R [(o2 30 (.mkIface 9 (.const (.string (bs [115, 116, 114, 105, 110, 103, 115, 58, 32, 74, 111, 105, 110, 32, 111, 117, 116, 112, 117, 116, 32, 108, 101, 110, 103, 116, 104, 32, 111, 118, 101, 114, 102, 108, 111, 119]))))), (on .never)]) .skip)) (R [(ov 31 5), (ov 32 1), (o2 33 (.len 0 32)), (ov 34 0), (o2 35 (.len 1 34)), (o2 36 (.bin .sub 0 [] 35 (ci 1))), (o2 37 (.bin .mul 0 [] 33 36)), (o2 38 (.bin .add 0 [] 31 37)), (ov 5 38)])) .skip)) h0))
def strings_Join_c0 : MCode := strings_Join_c0_ strings_Join_c1
def mf61_b (h0 : MCode) : MCode := (.seq (R [(o2 4 (.val (.const (.string (bs [])))))]) (.seq (.seq (R [(ov 11 0), (o2 12 (.len 1 11))]) (.block 0 (.seq (R [(o2 14 (.bin .eql 0 [] 12 (ci 0))), (ov 13 14)]) (.cond 13 (.seq (R [(o2 4 (.val (.const (.string (bs [])))))]) .ret) (.seq (R [(o2 16 (.bin .eql 0 [] 12 (ci 1))), (ov 15 16)]) (.cond 15 (.seq (R [(ov 17 0), (o2 18 (.addrL 1 17 (ci 0))), (o2 19 (.load none 18)), (ov 4 19)]) .ret) .skip)))))) h0))
def mf61 : MFunc := (MFunc.mk 75 [4] (mf61_b strings_Join_c0))
theorem mf61_ok : compF Try.prog idf Try.f61 = some mf61 := by kernel_rfl
def mf62_b  : MCode := (.seq (R [(o2 1 (.box 31 0)), (o2 2 (.val (.const .nilFunc)))]) (.seq (R [(o2 3 (.mkFunc (.func 87) [] [1])), (ov 2 3)]) .ret))
def mf62 : MFunc := (MFunc.mk 4 [2] mf62_b)
theorem mf62_ok : compF Try.prog idf Try.f62 = some mf62 := by kernel_rfl
def mf63_b  : MCode := (.seq (R [(o2 5 (.box 42 2)), (o2 6 (.val (.const (.slice none 0 0))))]) (.seq (R [(ov 7 1), (o2 8 (.minmax true (ci 0) [7])), (ov 1 8)]) (.seq (R [(ov 9 0), (ov 10 1), (o2 11 (.lit 3 1 [(.int .i64 0)] [(0, (1, 10))])), (o2 12 (.call (.func 88) [9, 11])), (ov 0 12)]) (.seq (.region true [(o0 13 (.val 0)), (o0 14 (.val 1)), (o0 15 (.val 0)), (o0 16 (.len 1 15)), (o0 17 (.minmax false 14 [16])), (o0 18 (.sliceL 14 13 none (some 17) none)), (o0 19 (.val 1)), (o0 20 (.val 0)), (o0 21 (.len 1 20)), (o0 22 (.bin .sub 0 [] 19 21)), (o2 23 (.load (some 14) 5)), (o2 24 (.call (.func 29) [22, 23])), (o2 25 (.lit 26 2 [(.slice none 0 0), (.slice none 0 0)] [(0, (1, 18)), (1, (1, 24))])), (o2 26 (.call (.func 89) [25])), (o0 6 (.val 26))]) .ret))))
def mf63 : MFunc := (MFunc.mk 27 [6] mf63_b)
theorem mf63_ok : compF Try.prog idf Try.f63 = some mf63 := by kernel_rfl
def mf70_b  : MCode := (.seq (R [(o2 1 (.box 42 0)), (o2 2 (.box 42 (.const (.agg ZA))))]) (.seq (R [(o2 3 (.fieldAddr 4 1)), (o2 4 (.load (some 9) 3)), (o2 5 (.fieldAddr 13 1)), (o2 6 (.load none 5)), (o2 7 (.build ZL [(3, (1, (.const (.int .u8 2)))), (4, (9, 4)), (13, (1, 6))])), (on (.store 14 2 7))]) .ret))
def mf70 : MFunc := (MFunc.mk 8 [(.cell 2 (some 14))] mf70_b)
theorem mf70_ok : compF Try.prog idf Try.f70 = some mf70 := by kernel_rfl
def ref10_filled_l1 : MCode := (.seq (.seq (R [(ov 16 8), (ov 17 7), (o2 18 (.len 1 17)), (o2 19 (.bin .lss 0 [] 16 18))]) (.cond 19 .skip (.exit 0))) (.seq (.block 1 (R [(ov 22 7), (ov 23 8), (ov 24 0), (ov 25 8), (o2 26 (.addrL 1 24 25)), (o2 27 (.load none 26)), (o2 28 (.addrL 14 22 23)), (o2 29 (.fieldAddr 13 28)), (on (.store 1 29 27))])) (R [(ov 20 8), (o2 21 (.bin .add 0 [] 20 (ci 1))), (ov 8 21)])))
def ref10_filled_l3 : MCode := (.seq (.seq (R [(ov 30 9), (ov 31 7), (o2 32 (.len 1 31)), (o2 33 (.bin .lss 0 [] 30 32)), (ov 34 33), (ot 35 34 (.val 1)), (ot 36 34 (.len 1 35)), (ot 37 34 (.bin .gtr 0 [] 36 (ci 0))), (o2 38 (.pick 34 37 (cb false)))]) (.cond 38 .skip (.exit 2))) (.seq (.block 3 (.seq (R [(ov 41 1), (ov 42 9), (ov 43 1), (o2 44 (.len 1 43)), (o2 45 (.bin .rem 0 [] 42 44)), (o2 46 (.addrL 5 41 45)), (o2 47 (.load (some 5) 46)), (o2 10 (.box 60 (.const (.agg #[(.int .u8 0), (.int .u8 0), (.int .u8 0), (.bool false), (.bool false)])))), (on (.store 5 10 47))]) (.seq (.seq (R [(ov 48 0), (ov 49 9), (o2 50 (.addrL 1 48 49)), (o2 51 (.load none 50)), (o2 52 (.bin .eql 0 [] 51 (.const (.int .u8 1)))), (ov 53 52), (ot 54 53 (.val 2)), (ot 55 53 (.len 1 54)), (ot 56 53 (.bin .gtr 0 [] 55 (ci 0))), (o2 57 (.pick 53 56 (cb false)))]) (.cond 57 (R [(ov 58 2), (ov 59 9), (ov 60 2), (o2 61 (.len 1 60)), (o2 62 (.bin .rem 0 [] 59 61)), (o2 63 (.addrL 5 58 62)), (o2 64 (.load (some 5) 63)), (on (.store 5 10 64))]) .skip)) (.seq (.seq (R [(o2 65 (.fieldAddr 0 10)), (o2 66 (.load none 65)), (o2 67 (.bin .rem 0 [] 66 (.const (.int .u8 5)))), (o2 68 (.bin .eql 0 [] 67 (.const (.int .u8 4)))), (ov 69 68), (oF 70 69 (.val 7)), (oF 71 69 (.val 9)), (oF 72 69 (.addrL 14 70 71)), (oF 73 69 (.fieldAddr 3 72)), (oF 74 69 (.load none 73)), (oF 75 69 (.bin .eql 0 [] 74 (.const (.int .u8 2)))), (o2 76 (.pick 69 (cb true) 75))]) (.cond 76 (.exit 3) .skip)) (.seq (R [(o2 77 (.load (some 5) 10)), (o2 78 (.call (.func 56) [77])), (o2 11 (.box 42 (.const (.agg ZA)))), (on (.store 14 11 78))]) (.seq (R [(ov 79 0), (ov 80 9), (o2 81 (.addrL 1 79 80)), (o2 82 (.load none 81)), (o2 83 (.fieldAddr 13 11)), (on (.store 1 83 82))]) (.region true [(o0 84 (.val 7)), (o0 85 (.val 9)), (o1 86 (.load (some 14) 11)), (o0 87 (.fieldAddr 3 10)), (o1 88 (.load none 87)), (o0 89 (.val 88)), (MOper.mk (some 90) (some (89, true)) 0 (.val 9)), (MOper.mk (some 91) (some (89, true)) 0 (.bin .add 0 [] 90 (ci 1))), (MOper.mk (some 92) (some (89, true)) 0 (.val 7)), (MOper.mk (some 93) (some (89, true)) 0 (.len 1 92)), (MOper.mk (some 94) (some (89, true)) 0 (.bin .lss 0 [] 91 93)), (o0 95 (.pick 89 94 (cb false))), (o0 96 (.val 95)), (MOper.mk (some 97) (some (96, true)) 0 (.val 0)), (MOper.mk (some 98) (some (96, true)) 0 (.val 9)), (MOper.mk (some 99) (some (96, true)) 0 (.bin .add 0 [] 98 (ci 1))), (MOper.mk (some 100) (some (96, true)) 0 (.addrL 1 97 99)), (MOper.mk (some 101) (some (96, true)) 1 (.load none 100)), (MOper.mk (some 102) (some (96, true)) 0 (.val 0)), (MOper.mk (some 103) (some (96, true)) 0 (.val 9)), (MOper.mk (some 104) (some (96, true)) 0 (.addrL 1 102 103)), (MOper.mk (some 105) (some (96, true)) 1 (.load none 104)), (MOper.mk (some 106) (some (96, true)) 0 (.bin .eql 0 [] 101 105)), (o0 107 (.pick 96 106 (cb false))), (o2 108 (.call (.func 93) [84, 85, 86, 107])), (o0 7 (.val 108))]))))))) (R [(ov 39 9), (o2 40 (.bin .add 0 [] 39 (ci 1))), (ov 9 40)])))
def ref10_filled_c2 : MCode := (.seq (R [(ov 109 7), (ov 6 109)]) .ret)
def ref10_filled_c0_ (h0 h1 : MCode) : MCode := (.seq (.seq (R [(o2 9 (.val (ci 0)))]) (.block 2 (.loop h0))) h1)
def ref10_filled_c0 : MCode := ref10_filled_c0_ ref10_filled_l3 ref10_filled_c2
def mf71_b (h0 h1 : MCode) : MCode := (.seq (R [(o2 6 (.val (.const (.slice none 0 0))))]) (.seq (R [(ov 12 0), (o2 13 (.len 1 12)), (o2 14 (.build ZL [])), (o2 15 (.call (.func 45) [13, 14])), (ov 7 15)]) (.seq (.seq (R [(o2 8 (.val (ci 0)))]) (.block 0 (.loop h0))) h1)))
def mf71 : MFunc := (MFunc.mk 110 [6] (mf71_b ref10_filled_l1 ref10_filled_c0))
theorem mf71_ok : compF Try.prog idf Try.f71 = some mf71 := by kernel_rfl
def ref10_Line_labels_l1 : MCode := (.seq (.seq (R [(ov 6 4), (o2 7 (.fieldAddr 0 1)), (o2 8 (.load none 7)), (o2 9 (.bin .rem 0 [] 8 (.const (.int .u8 31)))), (o2 10 (.convI .i64 9)), (o2 11 (.bin .lss 0 [] 6 10))]) (.cond 11 .skip (.exit 0))) (.seq (.block 1 (.seq (R [(o2 5 (.val (.const (.int .u8 0))))]) (.seq (.seq (.region true [(o0 14 (.fieldAddr 1 1)), (o2 15 (.load none 14)), (o0 16 (.len 1 15)), (o0 17 (.bin .gtr 0 [] 16 (ci 0))), (o0 18 (.val 17)), (MOper.mk (some 19) (some (18, true)) 0 (.fieldAddr 1 1)), (MOper.mk (some 20) (some (18, true)) 1 (.load none 19)), (MOper.mk (some 21) (some (18, true)) 0 (.val 4)), (MOper.mk (some 22) (some (18, true)) 0 (.fieldAddr 1 1)), (MOper.mk (some 23) (some (18, true)) 1 (.load none 22)), (MOper.mk (some 24) (some (18, true)) 0 (.len 1 23)), (MOper.mk (some 25) (some (18, true)) 0 (.bin .rem 0 [] 21 24)), (MOper.mk (some 26) (some (18, true)) 0 (.addrL 5 20 25)), (MOper.mk (some 27) (some (18, true)) 0 (.fieldAddr 4 26)), (ot 28 18 (.load none 27)), (o0 29 (.pick 18 28 (cb false)))]) (.cond 29 (R [(o2 5 (.val (.const (.int .u8 1))))]) .skip)) (R [(ov 30 3), (ov 31 5), (o2 32 (.lit 40 1 [(.int .u8 0)] [(0, (1, 31))])), (o2 33 (.append 40 1 1 false 30 32)), (ov 3 33)])))) (R [(ov 12 4), (o2 13 (.bin .add 0 [] 12 (ci 1))), (ov 4 13)])))
def ref10_Line_labels_c0 : MCode := (.seq (R [(ov 34 3), (ov 2 34)]) .ret)
def mf72_b (h0 h1 : MCode) : MCode := (.seq (R [(o2 1 (.box 91 0)), (o2 2 (.val (.const (.slice none 0 0))))]) (.seq (R [(o2 3 (.val (.const (.slice none 0 0))))]) (.seq (.seq (R [(o2 4 (.val (ci 0)))]) (.block 0 (.loop h0))) h1)))
def mf72 : MFunc := (MFunc.mk 35 [2] (mf72_b ref10_Line_labels_l1 ref10_Line_labels_c0))
theorem mf72_ok : compF Try.prog idf Try.f72 = some mf72 := by kernel_rfl
def mf73_b  : MCode := (.seq (R [(o2 4 (.val (.const .nilIface)))]) (.seq (R [(ov 5 0), (o2 6 (.call (.func 94) [5]))]) (.seq (R [(ov 7 0), (ov 8 0), (o2 9 (.nilCheck 8)), (o2 10 (.fieldAddr 1 9)), (o2 11 (.load none 10)), (ov 12 1), (o2 13 (.lit 5 1 [(.int .u8 0)] [(0, (1, 12))])), (o2 14 (.append 5 1 1 false 11 13)), (o2 15 (.nilCheck 7)), (o2 16 (.fieldAddr 1 15)), (on (.store 1 16 14))]) (.seq (R [(o2 4 (.val (.const .nilIface)))]) .ret))))
def mf73 : MFunc := (MFunc.mk 17 [4] mf73_b)
theorem mf73_ok : compF Try.prog idf Try.f73 = some mf73 := by kernel_rfl
def mf74_b  : MCode := (.seq (R [(o2 4 (.val (ci 0))), (o2 5 (.val (.const .nilIface)))]) (.seq (R [(ov 7 0), (o2 8 (.call (.func 94) [7]))]) (.seq (R [(ov 9 0), (o2 10 (.nilCheck 9)), (o2 11 (.fieldAddr 1 10)), (o2 12 (.load none 11)), (o2 13 (.len 1 12)), (ov 6 13)]) (.seq (R [(ov 14 0), (ov 15 0), (o2 16 (.nilCheck 15)), (o2 17 (.fieldAddr 1 16)), (o2 18 (.load none 17)), (ov 19 1), (o2 20 (.call (.func 95) [18, 19])), (o2 21 (.nilCheck 14)), (o2 22 (.fieldAddr 1 21)), (on (.store 1 22 20))]) (.seq (R [(ov 23 0), (o2 24 (.nilCheck 23)), (o2 25 (.fieldAddr 1 24)), (o2 26 (.load none 25)), (o2 27 (.len 1 26)), (ov 28 6), (o2 29 (.bin .sub 0 [] 27 28)), (ov 4 29), (o2 5 (.val (.const .nilIface)))]) .ret)))))
def mf74 : MFunc := (MFunc.mk 30 [4, 5] mf74_b)
theorem mf74_ok : compF Try.prog idf Try.f74 = some mf74 := by kernel_rfl
def mf75_b  : MCode := (.seq (R [(o2 2 (.val (.const (.string (bs [])))))]) (.seq (.region true [(o0 3 (.val 0)), (o0 4 (.nilCheck 3)), (o0 5 (.fieldAddr 1 4)), (o1 6 (.load none 5)), (o1 7 (.sliceData 6)), (o0 8 (.val 0)), (o0 9 (.nilCheck 8)), (o0 10 (.fieldAddr 1 9)), (o1 11 (.load none 10)), (o0 12 (.len 1 11)), (o2 13 (.uString 5 7 12)), (o0 2 (.val 13))]) .ret))
def mf75 : MFunc := (MFunc.mk 14 [2] mf75_b)
theorem mf75_ok : compF Try.prog idf Try.f75 = some mf75 := by kernel_rfl
def mf82_b  : MCode := (.seq (R [(o2 2 (.box 39 (.const (.agg #[(.int .u8 0), (.int .u8 0), (.int .u8 0), (.int .u8 0), (.int .u8 0), (.int .u8 0), (.int .u8 0), (.int .u8 0), (.int .u16 0)]))))]) (.seq (R [(ov 3 0), (o2 4 (.bin .rem 0 [] 3 (.const (.int .u8 3)))), (ov 5 0), (o2 6 (.bin .rem 0 [] 5 (.const (.int .u8 5)))), (o2 7 (.build [(.int .u8 0), (.int .u8 0), (.int .u8 0), (.int .u8 0)] [(0, (1, 4)), (1, (1, 6))])), (ov 8 0), (o2 9 (.bin .quo 0 [] 8 (.const (.int .u8 3)))), (o2 10 (.bin .rem 0 [] 9 (.const (.int .u8 2)))), (ov 11 0), (o2 12 (.bin .rem 0 [] 11 (.const (.int .u8 2)))), (o2 13 (.build [(.int .u8 0), (.int .u8 0), (.int .u8 0), (.int .u8 0)] [(0, (1, 10)), (1, (1, 12))])), (ov 14 0), (o2 15 (.bin .rem 0 [] 14 (.const (.int .u8 4)))), (o2 16 (.convI .u16 15)), (o2 17 (.build [(.int .u8 0), (.int .u8 0), (.int .u8 0), (.int .u8 0), (.int .u8 0), (.int .u8 0), (.int .u8 0), (.int .u8 0), (.int .u16 0)] [(0, (4, 7)), (4, (4, 13)), (8, (1, 16))])), (on (.store 9 2 17))]) .ret))
def mf82 : MFunc := (MFunc.mk 18 [(.cell 2 (some 9))] mf82_b)
theorem mf82_ok : compF Try.prog idf Try.f82 = some mf82 := by kernel_rfl
def slices_Concat__api_Cell__api_Cell_l1 : MCode := (.seq (R [(o2 12 (.bin .lss 0 [] 11 10))]) (.seq (.cond 12 .skip (.exit 0)) (.seq (.block 1 (.seq (R [(o2 13 (.addrL 1 9 11)), (o2 14 (.load none 13)), (ov 5 14)]) (.seq (R [(ov 15 3), (ov 16 5), (o2 17 (.len 1 16)), (o2 18 (.bin .add 0 [] 15 17)), (ov 3 18)]) (.seq (R [(ov 19 3), (o2 20 (.bin .lss 0 [] 19 (ci 0)))]) (.cond 20 (R [(o2 21 (.mkIface 9 (.const (.string (bs [108, 101, 110, 32, 111, 117, 116, 32, 111, 102, 32, 114, 97, 110, 103, 101]))))), (on .never)]) .skip))))) (R [(o2 22 (.bin .add 0 [] 11 (ci 1))), (ov 11 22)]))))
def slices_Concat__api_Cell__api_Cell_l3 : MCode := (.seq (R [(o2 28 (.bin .lss 0 [] 27 26))]) (.seq (.cond 28 .skip (.exit 2)) (.seq (.block 3 (.seq (R [(o2 29 (.addrL 1 25 27)), (o2 30 (.load none 29)), (ov 8 30)]) (R [(ov 31 6), (ov 32 8), (o2 33 (.append 26 24 1 false 31 32)), (ov 6 33)]))) (R [(o2 34 (.bin .add 0 [] 27 (ci 1))), (ov 27 34)]))))
def slices_Concat__api_Cell__api_Cell_c2 : MCode := (.seq (R [(ov 35 6), (ov 2 35)]) .ret)
def slices_Concat__api_Cell__api_Cell_c0_ (h0 h1 : MCode) : MCode := (.seq (R [(ov 23 3), (o2 24 (.call (.func 96) [(.const (.slice none 0 0)), 23])), (ov 6 24)]) (.seq (.seq (R [(ov 25 0), (o2 26 (.len 1 25)), (o2 27 (.val (ci 0)))]) (.block 2 (.loop h0))) h1))
def slices_Concat__api_Cell__api_Cell_c0 : MCode := slices_Concat__api_Cell__api_Cell_c0_ slices_Concat__api_Cell__api_Cell_l3 slices_Concat__api_Cell__api_Cell_c2
def mf83_b (h0 h1 : MCode) : MCode := (.seq (R [(o2 2 (.val (.const (.slice none 0 0))))]) (.seq (R [(o2 3 (.val (ci 0)))]) (.seq (.seq (R [(ov 9 0), (o2 10 (.len 1 9)), (o2 11 (.val (ci 0)))]) (.block 0 (.loop h0))) h1)))
def mf83 : MFunc := (MFunc.mk 36 [2] (mf83_b slices_Concat__api_Cell__api_Cell_l1 slices_Concat__api_Cell__api_Cell_c0))
theorem mf83_ok : compF Try.prog idf Try.f83 = some mf83 := by kernel_rfl
def mf84_b  : MCode := (.seq (R [(o2 6 (.box 42 2)), (o2 8 (.val (.const (.slice none 0 0))))]) (.seq (R [(o2 11 (.fieldAddr 3 6)), (on (.store 1 11 (.const (.int .u8 0))))]) (.seq (R [(o2 12 (.load (some 14) 6)), (o2 13 (.lit 42 1 ZL [(0, (14, 12))])), (ov 9 13)]) (.seq (.seq (R [(ov 14 3)]) (.cond 14 (.seq (R [(ov 15 9), (o2 16 (.addrL 14 15 (ci 0))), (o2 17 (.fieldAddr 3 16)), (on (.store 1 17 (.const (.int .u8 1))))]) (R [(ov 18 9), (o2 19 (.load (some 14) 6)), (o2 20 (.call (.func 70) [19])), (o2 21 (.lit 42 1 ZL [(0, (14, 20))])), (o2 22 (.append 42 28 14 false 18 21)), (ov 9 22)])) .skip)) (.seq (R [(ov 23 1), (ov 24 9), (o2 25 (.len 1 24)), (o2 26 (.bin .add 0 [] 23 25)), (ov 10 26)]) (.seq (.seq (R [(ov 27 1), (o2 28 (.bin .lss 0 [] 27 (ci 0))), (ov 29 28), (oF 30 29 (.val 10)), (oF 31 29 (.val 0)), (oF 32 29 (.len 1 31)), (oF 33 29 (.bin .gtr 0 [] 30 32)), (o2 34 (.pick 29 (cb true) 33))]) (.cond 34 (.seq (R [(ov 35 0), (o2 36 (.call (.func 90) [35])), (ov 8 36)]) .ret) .skip)) (.seq (R [(ov 37 0), (ov 38 1), (ov 39 10), (o2 40 (.lit 3 2 [(.int .i64 0), (.int .i64 0)] [(0, (1, 38)), (1, (1, 39))])), (o2 41 (.call (.func 88) [37, 40])), (ov 0 41)]) (.seq (.region true [(o0 42 (.val 0)), (o0 43 (.val 1)), (o0 44 (.sliceL 14 42 none (some 43) none)), (o0 45 (.val 9)), (o0 46 (.val 0)), (o0 47 (.val 10)), (o0 48 (.sliceL 14 46 (some 47) none none)), (o2 49 (.lit 26 3 [(.slice none 0 0), (.slice none 0 0), (.slice none 0 0)] [(0, (1, 44)), (1, (1, 45)), (2, (1, 48))])), (o2 50 (.call (.func 89) [49])), (o0 8 (.val 50))]) .ret))))))))
def mf84 : MFunc := (MFunc.mk 51 [8] mf84_b)
theorem mf84_ok : compF Try.prog idf Try.f84 = some mf84 := by kernel_rfl
def mf85_b  : MCode := (.seq (R [(ov 4 0), (o2 5 (.call (.func 94) [4]))]) (.seq (.seq (R [(ov 6 1), (o2 7 (.bin .lss 0 [] 6 (ci 0)))]) (.cond 7 (R [(o2 8 (.mkIface 9 (.const (.string (bs [115, 116, 114, 105, 110, 103, 115, 46, 66, 117, 105, 108, 100, 101, 114, 46, 71, 114, 111, 119, 58, 32, 110, 101, 103, 97, 116, 105, 118, 101, 32, 99, 111, 117, 110, 116]))))), (on .never)]) .skip)) (.seq (.region true [(o0 9 (.val 0)), (o0 10 (.nilCheck 9)), (o0 11 (.fieldAddr 1 10)), (o1 12 (.load none 11)), (o0 13 (.cap 12)), (o0 14 (.val 0)), (o0 15 (.nilCheck 14)), (o0 16 (.fieldAddr 1 15)), (o1 17 (.load none 16)), (o0 18 (.len 1 17)), (o0 19 (.bin .sub 0 [] 13 18)), (o0 20 (.val 1)), (o0 21 (.bin .lss 0 [] 19 20))]) (.cond 21 (R [(ov 22 0), (ov 23 1), (o2 24 (.call (.func 97) [22, 23]))]) .skip))))
def mf85 : MFunc := (MFunc.mk 25 [] mf85_b)
theorem mf85_ok : compF Try.prog idf Try.f85 = some mf85 := by kernel_rfl
def mf86_b  : MCode := (.seq (R [(o2 4 (.val (ci 0))), (o2 5 (.val (.const .nilIface)))]) (.seq (R [(ov 6 0), (o2 7 (.call (.func 94) [6]))]) (.seq (R [(ov 8 0), (ov 9 0), (o2 10 (.nilCheck 9)), (o2 11 (.fieldAddr 1 10)), (o2 12 (.load none 11)), (ov 13 1), (o2 14 (.append 5 1 1 true 12 13)), (o2 15 (.nilCheck 8)), (o2 16 (.fieldAddr 1 15)), (on (.store 1 16 14))]) (.seq (R [(ov 17 1), (o2 18 (.len 0 17)), (ov 4 18), (o2 5 (.val (.const .nilIface)))]) .ret))))
def mf86 : MFunc := (MFunc.mk 19 [4, 5] mf86_b)
theorem mf86_ok : compF Try.prog idf Try.f86 = some mf86 := by kernel_rfl
def grid_Grid_all_1_l0 : MCode := (.seq (R [(o2 13 (.bin .lss 0 [] 12 11))]) (.seq (.cond 13 .skip (.exit 0)) (.seq (.block 1 (.seq (R [(ov 14 12), (o2 15 (.addrL 1 10 12)), (o2 16 (.load none 15)), (ov 3 14), (ov 4 16)]) (.seq (R [(ov 17 0), (ov 18 3), (ov 19 4), (o2 20 (.call 17 [18, 19])), (o2 21 (.un .not 20))]) (.cond 21 .ret .skip)))) (R [(o2 22 (.bin .add 0 [] 12 (ci 1))), (ov 12 22)]))))
def mf87_b (h0 : MCode) : MCode := (.seq (.seq (R [(o2 5 (.load none 1)), (o2 6 (.bin .eql 3 [] 5 (.const (.pointer none))))]) (.cond 6 .ret .skip)) (.seq (R [(o2 7 (.load none 1)), (o2 8 (.nilCheck 7)), (o2 9 (.fieldAddr 0 8)), (o2 10 (.load none 9)), (o2 11 (.len 1 10)), (o2 12 (.val (ci 0)))]) (.block 0 (.loop h0))))
def mf87 : MFunc := (MFunc.mk 23 [] (mf87_b grid_Grid_all_1_l0))
theorem mf87_ok : compF Try.prog idf Try.f87 = some mf87 := by kernel_rfl
def row_Break_l1 : MCode := (.seq (R [(o2 14 (.bin .lss 0 [] 13 12))]) (.seq (.cond 14 .skip (.exit 0)) (.seq (.block 1 (.seq (R [(o2 15 (.addrL 1 11 13)), (o2 16 (.load none 15)), (ov 7 16)]) (.seq (R [(ov 17 7), (o2 18 (.load none 2)), (o2 19 (.call (.func 92) [17, 18])), (ov 7 19)]) (.seq (R [(ov 20 7), (o2 21 (.bin .gtr 0 [] 20 (ci 0))), (ov 22 21), (ot 23 22 (.val 7)), (ot 24 22 (.load none 2)), (ot 25 22 (.len 1 24)), (ot 26 22 (.bin .lss 0 [] 23 25)), (o2 27 (.pick 22 26 (cb false))), (ov 28 27), (ot 29 28 (.load none 2)), (ot 30 28 (.val 7)), (ot 31 28 (.bin .sub 0 [] 30 (ci 1))), (ot 32 28 (.addrL 14 29 31)), (ot 33 28 (.fieldAddr 3 32)), (ot 34 28 (.load none 33)), (ot 35 28 (.bin .eql 0 [] 34 (.const (.int .u8 1)))), (o2 36 (.pick 28 35 (cb false))), (ov 37 36), (ot 38 37 (.load none 2)), (ot 39 37 (.val 7)), (ot 40 37 (.addrL 14 38 39)), (ot 41 37 (.fieldAddr 3 40)), (ot 42 37 (.load none 41)), (ot 43 37 (.bin .eql 0 [] 42 (.const (.int .u8 2)))), (o2 44 (.pick 37 43 (cb false)))]) (.cond 44 (.seq (R [(ov 45 5), (ov 46 7), (o2 47 (.bin .sub 0 [] 46 (ci 1))), (o2 48 (.call 45 [47]))]) (R [(ov 49 5), (ov 50 7), (o2 51 (.call 49 [50]))])) .skip))))) (R [(o2 52 (.bin .add 0 [] 13 (ci 1))), (ov 13 52)]))))
def row_Break_c0 : MCode := (.seq (R [(o2 53 (.load none 2)), (ov 4 53)]) .ret)
def mf88_b (h0 h1 : MCode) : MCode := (.seq (R [(o2 2 (.box 26 0)), (o2 4 (.val (.const (.slice none 0 0))))]) (.seq (R [(o2 8 (.load none 2)), (o2 9 (.call (.func 90) [8])), (on (.store 1 2 9))]) (.seq (R [(o2 10 (.mkFunc (.func 98) [] [2])), (ov 5 10)]) (.seq (.seq (R [(ov 11 1), (o2 12 (.len 1 11)), (o2 13 (.val (ci 0)))]) (.block 0 (.loop h0))) h1))))
def mf88 : MFunc := (MFunc.mk 54 [4] (mf88_b row_Break_l1 row_Break_c0))
theorem mf88_ok : compF Try.prog idf Try.f88 = some mf88 := by kernel_rfl
def row_joint_l1 : MCode := (.seq (R [(o2 10 (.bin .lss 0 [] 9 8))]) (.seq (.cond 10 .skip (.exit 0)) (.seq (.block 1 (.seq (R [(o2 11 (.addrL 1 7 9)), (o2 12 (.load none 11)), (ov 5 12)]) (R [(ov 13 3), (ov 14 5), (o2 15 (.append 42 28 14 false 13 14)), (ov 3 15)]))) (R [(o2 16 (.bin .add 0 [] 9 (ci 1))), (ov 9 16)]))))
def row_joint_c0 : MCode := (.seq (R [(ov 17 3), (ov 2 17)]) .ret)
def mf89_b (h0 h1 : MCode) : MCode := (.seq (R [(o2 2 (.val (.const (.slice none 0 0))))]) (.seq (R [(o2 6 (.lit 42 0 [] [])), (ov 3 6)]) (.seq (.seq (R [(ov 7 0), (o2 8 (.len 1 7)), (o2 9 (.val (ci 0)))]) (.block 0 (.loop h0))) h1)))
def mf89 : MFunc := (MFunc.mk 18 [2] (mf89_b row_joint_l1 row_joint_c0))
theorem mf89_ok : compF Try.prog idf Try.f89 = some mf89 := by kernel_rfl
def mf90_b  : MCode := (.seq (R [(o2 2 (.val (.const (.slice none 0 0))))]) (.seq (R [(ov 4 0), (o2 5 (.len 1 4)), (o2 6 (.mkSlice 42 28 ZL 5 5)), (ov 3 6)]) (.seq (R [(ov 7 3), (ov 8 0), (o2 9 (.copy 14 7 8))]) (.seq (R [(ov 10 3), (ov 2 10)]) .ret))))
def mf90 : MFunc := (MFunc.mk 11 [2] mf90_b)
theorem mf90_ok : compF Try.prog idf Try.f90 = some mf90 := by kernel_rfl
def mf92_b  : MCode := (.seq (R [(o2 4 (.val (ci 0)))]) (.seq (R [(ov 5 0), (ov 6 1), (o2 7 (.len 1 6)), (o2 8 (.minmax false 5 [7])), (o2 9 (.minmax true (ci 0) [8])), (ov 4 9)]) .ret))
def mf92 : MFunc := (MFunc.mk 10 [4] mf92_b)
theorem mf92_ok : compF Try.prog idf Try.f92 = some mf92 := by kernel_rfl
def ref10_Put_c1 : MCode := (.seq (R [(ov 24 0), (ov 25 1), (o2 26 (.call (.func 103) [24, 25])), (ov 27 1), (ov 28 9), (o2 29 (.bin .add 0 [] 27 28)), (o2 30 (.call (.func 103) [26, 29])), (ov 10 30)]) (.seq (R [(o2 31 (.fieldAddr 3 6)), (on (.store 1 31 (.const (.int .u8 0))))]) (.seq (.seq (R [(ov 32 3)]) (.cond 32 (.seq (R [(o2 33 (.fieldAddr 3 6)), (on (.store 1 33 (.const (.int .u8 1))))]) (R [(ov 34 10), (ov 35 1), (o2 36 (.bin .add 0 [] 35 (ci 1))), (o2 37 (.fieldAddr 4 6)), (o2 38 (.load (some 9) 37)), (o2 39 (.fieldAddr 13 6)), (o2 40 (.load none 39)), (o2 41 (.build ZL [(3, (1, (.const (.int .u8 2)))), (4, (9, 38)), (13, (1, 40))])), (o2 42 (.addrL 14 34 36)), (on (.store 14 42 41))])) .skip)) (.seq (R [(ov 43 10), (ov 44 1), (o2 45 (.load (some 14) 6)), (o2 46 (.addrL 14 43 44)), (on (.store 14 46 45))]) (.seq (R [(ov 47 10), (ov 8 47)]) .ret)))))
def ref10_Put_c0_ (h0 : MCode) : MCode := (.seq (.seq (R [(ov 12 1), (o2 13 (.bin .lss 0 [] 12 (ci 0))), (ov 14 13), (oF 15 14 (.val 1)), (oF 16 14 (.val 9)), (oF 17 14 (.bin .add 0 [] 15 16)), (oF 18 14 (.val 0)), (oF 19 14 (.len 1 18)), (oF 20 14 (.bin .gtr 0 [] 17 19)), (o2 21 (.pick 14 (cb true) 20))]) (.cond 21 (.seq (R [(ov 22 0), (o2 23 (.call (.func 102) [22])), (ov 8 23)]) .ret) .skip)) h0)
def ref10_Put_c0 : MCode := ref10_Put_c0_ ref10_Put_c1
def mf93_b (h0 : MCode) : MCode := (.seq (R [(o2 6 (.box 42 2)), (o2 8 (.val (.const (.slice none 0 0))))]) (.seq (R [(o2 9 (.val (ci 1)))]) (.seq (.seq (R [(ov 11 3)]) (.cond 11 (R [(o2 9 (.val (ci 2)))]) .skip)) h0)))
def mf93 : MFunc := (MFunc.mk 48 [8] (mf93_b ref10_Put_c0))
theorem mf93_ok : compF Try.prog idf Try.f93 = some mf93 := by kernel_rfl
def mf94_b  : MCode := (.seq (R [(ov 2 0), (o2 3 (.nilCheck 2)), (o2 4 (.fieldAddr 0 3)), (o2 5 (.load none 4)), (o2 6 (.bin .eql 3 [] 5 (.const (.pointer none))))]) (.cond 6 (R [(ov 7 0), (ov 8 0), (o2 9 (.ptrU 8)), (o2 10 (.ident 9)), (o2 11 (.castP 126 2 10)), (o2 12 (.nilCheck 7)), (o2 13 (.fieldAddr 0 12)), (on (.store 1 13 11))]) (.seq (R [(ov 14 0), (o2 15 (.nilCheck 14)), (o2 16 (.fieldAddr 0 15)), (o2 17 (.load none 16)), (ov 18 0), (o2 19 (.bin .neq 3 [] 17 18))]) (.cond 19 (.cond (.func 0) .skip .skip) .skip))))
def mf94 : MFunc := (MFunc.mk 20 [] mf94_b)
theorem mf94_ok : compF Try.prog idf Try.f94 = some mf94 := by kernel_rfl
def mf95_b  : MCode := (.seq (R [(o2 4 (.val (.const (.slice none 0 0))))]) (.seq (.seq (R [(ov 5 1), (o2 6 (.convI .u32 5)), (o2 7 (.bin .leq 0 [] 6 (.const (.int .u32 127))))]) (.cond 7 (.seq (R [(ov 8 0), (ov 9 1), (o2 10 (.convI .u8 9)), (o2 11 (.lit 5 1 [(.int .u8 0)] [(0, (1, 10))])), (o2 12 (.append 5 1 1 false 8 11)), (ov 4 12)]) .ret) .skip)) (.seq (R [(ov 13 0), (ov 14 1), (o2 15 (.call (.func 105) [13, 14])), (ov 4 15)]) .ret)))
def mf95 : MFunc := (MFunc.mk 16 [4] mf95_b)
theorem mf95_ok : compF Try.prog idf Try.f95 = some mf95 := by kernel_rfl
def mf96_b  : MCode := (.seq (R [(o2 4 (.val (.const (.slice none 0 0))))]) (.seq (.seq (R [(ov 5 1), (o2 6 (.bin .lss 0 [] 5 (ci 0)))]) (.cond 6 (R [(o2 7 (.mkIface 9 (.const (.string (bs [99, 97, 110, 110, 111, 116, 32, 98, 101, 32, 110, 101, 103, 97, 116, 105, 118, 101]))))), (on .never)]) .skip)) (.seq (.seq (R [(ov 8 1), (ov 9 0), (o2 10 (.cap 9)), (ov 11 0), (o2 12 (.len 1 11)), (o2 13 (.bin .sub 0 [] 10 12)), (o2 14 (.bin .sub 0 [] 8 13)), (ov 1 14)]) (.seq (R [(ov 15 1), (o2 16 (.bin .gtr 0 [] 15 (ci 0)))]) (.cond 16 (R [(ov 17 0), (ov 18 0), (o2 19 (.cap 18)), (o2 20 (.sliceL 1 17 none (some 19) none)), (ov 21 1), (o2 22 (.appZ 26 24 1 20 21)), (ov 23 0), (o2 24 (.len 1 23)), (o2 25 (.sliceL 1 22 none (some 24) none)), (ov 0 25)]) .skip))) (.seq (R [(ov 26 0), (ov 4 26)]) .ret))))
def mf96 : MFunc := (MFunc.mk 27 [4] mf96_b)
theorem mf96_ok : compF Try.prog idf Try.f96 = some mf96 := by kernel_rfl
def mf97_b  : MCode := (.seq (.region true [(o0 5 (.val 0)), (o0 6 (.nilCheck 5)), (o0 7 (.fieldAddr 1 6)), (o1 8 (.load none 7)), (o0 9 (.cap 8)), (o0 10 (.bin .mul 0 [] (ci 2) 9)), (o0 11 (.val 1)), (o0 12 (.bin .add 0 [] 10 11)), (o1 13 (.noZero 5 12)), (o0 14 (.val 0)), (o0 15 (.nilCheck 14)), (o0 16 (.fieldAddr 1 15)), (o1 17 (.load none 16)), (o0 18 (.len 1 17)), (o0 19 (.sliceL 1 13 none (some 18) none)), (o0 4 (.val 19))]) (.seq (R [(ov 20 4), (ov 21 0), (o2 22 (.nilCheck 21)), (o2 23 (.fieldAddr 1 22)), (o2 24 (.load none 23)), (o2 25 (.copy 1 20 24))]) (R [(ov 26 0), (ov 27 4), (o2 28 (.nilCheck 26)), (o2 29 (.fieldAddr 1 28)), (on (.store 1 29 27))])))
def mf97 : MFunc := (MFunc.mk 30 [] mf97_b)
theorem mf97_ok : compF Try.prog idf Try.f97 = some mf97 := by kernel_rfl
def mf98_b  : MCode := (.region true [(o1 3 (.load none 1)), (o0 4 (.val 0)), (o1 5 (.load none 1)), (o0 6 (.val 0)), (o0 7 (.addrL 14 5 6)), (o0 8 (.fieldAddr 4 7)), (o1 9 (.load (some 9) 8)), (o1 10 (.load none 1)), (o0 11 (.val 0)), (o0 12 (.addrL 14 10 11)), (o0 13 (.fieldAddr 13 12)), (o1 14 (.load none 13)), (o0 15 (.build ZL [(4, (9, 9)), (13, (1, 14))])), (o0 16 (.addrL 14 3 4)), (on (.store 14 16 15))])
def mf98 : MFunc := (MFunc.mk 17 [] mf98_b)
theorem mf98_ok : compF Try.prog idf Try.f98 = some mf98 := by kernel_rfl
def mf102_b  : MCode := (.seq (R [(o2 2 (.val (.const (.slice none 0 0))))]) (.seq (R [(o2 3 (.lit 42 0 [] [])), (ov 4 0), (o2 5 (.append 42 28 14 false 3 4)), (ov 2 5)]) .ret))
def mf102 : MFunc := (MFunc.mk 6 [2] mf102_b)
theorem mf102_ok : compF Try.prog idf Try.f102 = some mf102 := by kernel_rfl
def mf103_b  : MCode := (.seq (R [(o2 4 (.val (.const (.slice none 0 0))))]) (.seq (R [(ov 6 0), (o2 7 (.call (.func 102) [6])), (ov 5 7)]) (.seq (R [(ov 8 1), (ov 9 0), (o2 10 (.len 1 9)), (o2 11 (.call (.func 107) [8, (ci 0), 10])), (ov 1 11)]) (.seq (.seq (R [(ov 12 1), (o2 13 (.bin .gtr 0 [] 12 (ci 0))), (ov 14 13), (ot 15 14 (.val 1)), (ot 16 14 (.val 0)), (ot 17 14 (.len 1 16)), (ot 18 14 (.bin .lss 0 [] 15 17)), (o2 19 (.pick 14 18 (cb false))), (ov 20 19), (ot 21 20 (.val 0)), (ot 22 20 (.val 1)), (ot 23 20 (.bin .sub 0 [] 22 (ci 1))), (ot 24 20 (.addrL 14 21 23)), (ot 25 20 (.fieldAddr 3 24)), (ot 26 20 (.load none 25)), (ot 27 20 (.bin .eql 0 [] 26 (.const (.int .u8 1)))), (o2 28 (.pick 20 27 (cb false))), (ov 29 28), (ot 30 29 (.val 0)), (ot 31 29 (.val 1)), (ot 32 29 (.addrL 14 30 31)), (ot 33 29 (.fieldAddr 3 32)), (ot 34 29 (.load none 33)), (ot 35 29 (.bin .eql 0 [] 34 (.const (.int .u8 2)))), (o2 36 (.pick 29 35 (cb false)))]) (.cond 36 (.seq (R [(ov 37 5), (ov 38 1), (o2 39 (.bin .sub 0 [] 38 (ci 1))), (ov 40 0), (ov 41 1), (o2 42 (.bin .sub 0 [] 41 (ci 1))), (o2 43 (.addrL 14 40 42)), (o2 44 (.load (some 14) 43)), (o2 45 (.call (.func 108) [44])), (o2 46 (.addrL 14 37 39)), (on (.store 14 46 45))]) (R [(ov 47 5), (ov 48 1), (ov 49 0), (ov 50 1), (o2 51 (.addrL 14 49 50)), (o2 52 (.load (some 14) 51)), (o2 53 (.call (.func 108) [52])), (o2 54 (.addrL 14 47 48)), (on (.store 14 54 53))])) .skip)) (.seq (R [(ov 55 5), (ov 4 55)]) .ret)))))
def mf103 : MFunc := (MFunc.mk 56 [4] mf103_b)
theorem mf103_ok : compF Try.prog idf Try.f103 = some mf103 := by kernel_rfl
def unicode_utf8_appendRuneNonASCII_c1 : MCode := (.cond 50 (.seq (R [(ov 57 0), (ov 58 1), (o2 59 (.bin .shr 0 [] 58 (.const (.int .u64 18)))), (o2 60 (.convI .u8 59)), (o2 61 (.bin .or 0 [] (.const (.int .u8 240)) 60)), (ov 62 1), (o2 63 (.bin .shr 0 [] 62 (.const (.int .u64 12)))), (o2 64 (.convI .u8 63)), (o2 65 (.bin .and 0 [] 64 (.const (.int .u8 63)))), (o2 66 (.bin .or 0 [] (.const (.int .u8 128)) 65)), (ov 67 1), (o2 68 (.bin .shr 0 [] 67 (.const (.int .u64 6)))), (o2 69 (.convI .u8 68)), (o2 70 (.bin .and 0 [] 69 (.const (.int .u8 63)))), (o2 71 (.bin .or 0 [] (.const (.int .u8 128)) 70)), (ov 72 1), (o2 73 (.convI .u8 72)), (o2 74 (.bin .and 0 [] 73 (.const (.int .u8 63)))), (o2 75 (.bin .or 0 [] (.const (.int .u8 128)) 74)), (o2 76 (.lit 5 4 [(.int .u8 0), (.int .u8 0), (.int .u8 0), (.int .u8 0)] [(0, (1, 61)), (1, (1, 66)), (2, (1, 71)), (3, (1, 75))])), (o2 77 (.append 5 1 1 false 57 76)), (ov 4 77)]) .ret) (.seq (R [(ov 8 0), (o2 9 (.lit 5 3 [(.int .u8 0), (.int .u8 0), (.int .u8 0)] [(0, (1, (.const (.int .u8 239)))), (1, (1, (.const (.int .u8 191)))), (2, (1, (.const (.int .u8 189))))])), (o2 10 (.append 5 1 1 false 8 9)), (ov 4 10)]) .ret))
def unicode_utf8_appendRuneNonASCII_c0_ (h0 : MCode) : MCode := (.cond 25 (.seq (R [(ov 34 0), (ov 35 1), (o2 36 (.bin .shr 0 [] 35 (.const (.int .u64 12)))), (o2 37 (.convI .u8 36)), (o2 38 (.bin .or 0 [] (.const (.int .u8 224)) 37)), (ov 39 1), (o2 40 (.bin .shr 0 [] 39 (.const (.int .u64 6)))), (o2 41 (.convI .u8 40)), (o2 42 (.bin .and 0 [] 41 (.const (.int .u8 63)))), (o2 43 (.bin .or 0 [] (.const (.int .u8 128)) 42)), (ov 44 1), (o2 45 (.convI .u8 44)), (o2 46 (.bin .and 0 [] 45 (.const (.int .u8 63)))), (o2 47 (.bin .or 0 [] (.const (.int .u8 128)) 46)), (o2 48 (.lit 5 3 [(.int .u8 0), (.int .u8 0), (.int .u8 0)] [(0, (1, 38)), (1, (1, 43)), (2, (1, 47))])), (o2 49 (.append 5 1 1 false 34 48)), (ov 4 49)]) .ret) (.seq (R [(ov 51 5), (o2 52 (.bin .gtr 0 [] 51 (.const (.int .u32 65535)))), (ov 53 52), (ot 54 53 (.val 5)), (ot 55 53 (.bin .leq 0 [] 54 (.const (.int .u32 1114111)))), (o2 56 (.pick 53 55 (cb false))), (ov 50 56)]) h0))
def unicode_utf8_appendRuneNonASCII_c0 : MCode := unicode_utf8_appendRuneNonASCII_c0_ unicode_utf8_appendRuneNonASCII_c1
def mf105_b (h0 : MCode) : MCode := (.seq (R [(o2 4 (.val (.const (.slice none 0 0))))]) (.seq (R [(ov 6 1), (o2 7 (.convI .u32 6)), (ov 5 7)]) (.block 0 (.seq (R [(ov 12 5), (o2 13 (.bin .leq 0 [] 12 (.const (.int .u32 2047)))), (ov 11 13)]) (.cond 11 (.seq (R [(ov 14 0), (ov 15 1), (o2 16 (.bin .shr 0 [] 15 (.const (.int .u64 6)))), (o2 17 (.convI .u8 16)), (o2 18 (.bin .or 0 [] (.const (.int .u8 192)) 17)), (ov 19 1), (o2 20 (.convI .u8 19)), (o2 21 (.bin .and 0 [] 20 (.const (.int .u8 63)))), (o2 22 (.bin .or 0 [] (.const (.int .u8 128)) 21)), (o2 23 (.lit 5 2 [(.int .u8 0), (.int .u8 0)] [(0, (1, 18)), (1, (1, 22))])), (o2 24 (.append 5 1 1 false 14 23)), (ov 4 24)]) .ret) (.seq (.seq (R [(ov 26 5), (o2 27 (.bin .lss 0 [] 26 (.const (.int .u32 55296)))), (ov 25 27)]) (.cond 25 .skip (R [(ov 28 5), (o2 29 (.bin .lss 0 [] (.const (.int .u32 57343)) 28)), (ov 30 29), (ot 31 30 (.val 5)), (ot 32 30 (.bin .leq 0 [] 31 (.const (.int .u32 65535)))), (o2 33 (.pick 30 32 (cb false))), (ov 25 33)]))) h0))))))
def mf105 : MFunc := (MFunc.mk 78 [4] (mf105_b unicode_utf8_appendRuneNonASCII_c0))
theorem mf105_ok : compF Try.prog idf Try.f105 = some mf105 := by kernel_rfl
def mf107_b  : MCode := (.seq (R [(o2 6 (.val (ci 0)))]) (.seq (R [(ov 7 1), (ov 8 0), (ov 9 2), (o2 10 (.minmax false 8 [9])), (o2 11 (.minmax true 7 [10])), (ov 6 11)]) .ret))
def mf107 : MFunc := (MFunc.mk 12 [6] mf107_b)
theorem mf107_ok : compF Try.prog idf Try.f107 = some mf107 := by kernel_rfl
def mf108_b  : MCode := (.seq (R [(o2 1 (.box 42 0)), (o2 2 (.box 42 (.const (.agg ZA))))]) (.seq (R [(o2 3 (.fieldAddr 4 1)), (o2 4 (.load (some 9) 3)), (o2 5 (.fieldAddr 13 1)), (o2 6 (.load none 5)), (o2 7 (.build ZL [(4, (9, 4)), (13, (1, 6))])), (on (.store 14 2 7))]) .ret))
def mf108 : MFunc := (MFunc.mk 8 [(.cell 2 (some 14))] mf108_b)
theorem mf108_ok : compF Try.prog idf Try.f108 = some mf108 := by kernel_rfl
def funs : Funs := fun f => if f = 3 then some mf3 else if f = 8 then some mf8 else if f = 9 then some mf9 else if f = 10 then some mf10 else if f = 11 then some mf11 else if f = 12 then some mf12 else if f = 13 then some mf13 else if f = 14 then some mf14 else if f = 15 then some mf15 else if f = 16 then some mf16 else if f = 17 then some mf17 else if f = 18 then some mf18 else if f = 19 then some mf19 else if f = 20 then some mf20 else if f = 21 then some mf21 else if f = 22 then some mf22 else if f = 25 then some mf25 else if f = 27 then some mf27 else if f = 29 then some mf29 else if f = 30 then some mf30 else if f = 31 then some mf31 else if f = 32 then some mf32 else if f = 33 then some mf33 else if f = 37 then some mf37 else if f = 41 then some mf41 else if f = 42 then some mf42 else if f = 43 then some mf43 else if f = 44 then some mf44 else if f = 45 then some mf45 else if f = 46 then some mf46 else if f = 47 then some mf47 else if f = 48 then some mf48 else if f = 49 then some mf49 else if f = 50 then some mf50 else if f = 51 then some mf51 else if f = 52 then some mf52 else if f = 56 then some mf56 else if f = 57 then some mf57 else if f = 59 then some mf59 else if f = 60 then some mf60 else if f = 61 then some mf61 else if f = 62 then some mf62 else if f = 63 then some mf63 else if f = 70 then some mf70 else if f = 71 then some mf71 else if f = 72 then some mf72 else if f = 73 then some mf73 else if f = 74 then some mf74 else if f = 75 then some mf75 else if f = 82 then some mf82 else if f = 83 then some mf83 else if f = 84 then some mf84 else if f = 85 then some mf85 else if f = 86 then some mf86 else if f = 87 then some mf87 else if f = 88 then some mf88 else if f = 89 then some mf89 else if f = 90 then some mf90 else if f = 92 then some mf92 else if f = 93 then some mf93 else if f = 94 then some mf94 else if f = 95 then some mf95 else if f = 96 then some mf96 else if f = 97 then some mf97 else if f = 98 then some mf98 else if f = 102 then some mf102 else if f = 103 then some mf103 else if f = 105 then some mf105 else if f = 107 then some mf107 else if f = 108 then some mf108 else none
theorem funs_ok : FunsOK Try.prog idf funs := by
  intro f m h
  unfold funs at h
  by_cases e3 : f = 3
  · rw [if_pos e3] at h; subst e3; rw [← Option.some.inj h]; exact ⟨Try.f3, Try.func3, mf3_ok⟩
  rw [if_neg e3] at h
  by_cases e8 : f = 8
  · rw [if_pos e8] at h; subst e8; rw [← Option.some.inj h]; exact ⟨Try.f8, Try.func8, mf8_ok⟩
  rw [if_neg e8] at h
  by_cases e9 : f = 9
  · rw [if_pos e9] at h; subst e9; rw [← Option.some.inj h]; exact ⟨Try.f9, Try.func9, mf9_ok⟩
  rw [if_neg e9] at h
  by_cases e10 : f = 10
  · rw [if_pos e10] at h; subst e10; rw [← Option.some.inj h]; exact ⟨Try.f10, Try.func10, mf10_ok⟩
  rw [if_neg e10] at h
  by_cases e11 : f = 11
  · rw [if_pos e11] at h; subst e11; rw [← Option.some.inj h]; exact ⟨Try.f11, Try.func11, mf11_ok⟩
  rw [if_neg e11] at h
  by_cases e12 : f = 12
  · rw [if_pos e12] at h; subst e12; rw [← Option.some.inj h]; exact ⟨Try.f12, Try.func12, mf12_ok⟩
  rw [if_neg e12] at h
  by_cases e13 : f = 13
  · rw [if_pos e13] at h; subst e13; rw [← Option.some.inj h]; exact ⟨Try.f13, Try.func13, mf13_ok⟩
  rw [if_neg e13] at h
  by_cases e14 : f = 14
  · rw [if_pos e14] at h; subst e14; rw [← Option.some.inj h]; exact ⟨Try.f14, Try.func14, mf14_ok⟩
  rw [if_neg e14] at h
  by_cases e15 : f = 15
  · rw [if_pos e15] at h; subst e15; rw [← Option.some.inj h]; exact ⟨Try.f15, Try.func15, mf15_ok⟩
  rw [if_neg e15] at h
  by_cases e16 : f = 16
  · rw [if_pos e16] at h; subst e16; rw [← Option.some.inj h]; exact ⟨Try.f16, Try.func16, mf16_ok⟩
  rw [if_neg e16] at h
  by_cases e17 : f = 17
  · rw [if_pos e17] at h; subst e17; rw [← Option.some.inj h]; exact ⟨Try.f17, Try.func17, mf17_ok⟩
  rw [if_neg e17] at h
  by_cases e18 : f = 18
  · rw [if_pos e18] at h; subst e18; rw [← Option.some.inj h]; exact ⟨Try.f18, Try.func18, mf18_ok⟩
  rw [if_neg e18] at h
  by_cases e19 : f = 19
  · rw [if_pos e19] at h; subst e19; rw [← Option.some.inj h]; exact ⟨Try.f19, Try.func19, mf19_ok⟩
  rw [if_neg e19] at h
  by_cases e20 : f = 20
  · rw [if_pos e20] at h; subst e20; rw [← Option.some.inj h]; exact ⟨Try.f20, Try.func20, mf20_ok⟩
  rw [if_neg e20] at h
  by_cases e21 : f = 21
  · rw [if_pos e21] at h; subst e21; rw [← Option.some.inj h]; exact ⟨Try.f21, Try.func21, mf21_ok⟩
  rw [if_neg e21] at h
  by_cases e22 : f = 22
  · rw [if_pos e22] at h; subst e22; rw [← Option.some.inj h]; exact ⟨Try.f22, Try.func22, mf22_ok⟩
  rw [if_neg e22] at h
  by_cases e25 : f = 25
  · rw [if_pos e25] at h; subst e25; rw [← Option.some.inj h]; exact ⟨Try.f25, Try.func25, mf25_ok⟩
  rw [if_neg e25] at h
  by_cases e27 : f = 27
  · rw [if_pos e27] at h; subst e27; rw [← Option.some.inj h]; exact ⟨Try.f27, Try.func27, mf27_ok⟩
  rw [if_neg e27] at h
  by_cases e29 : f = 29
  · rw [if_pos e29] at h; subst e29; rw [← Option.some.inj h]; exact ⟨Try.f29, Try.func29, mf29_ok⟩
  rw [if_neg e29] at h
  by_cases e30 : f = 30
  · rw [if_pos e30] at h; subst e30; rw [← Option.some.inj h]; exact ⟨Try.f30, Try.func30, mf30_ok⟩
  rw [if_neg e30] at h
  by_cases e31 : f = 31
  · rw [if_pos e31] at h; subst e31; rw [← Option.some.inj h]; exact ⟨Try.f31, Try.func31, mf31_ok⟩
  rw [if_neg e31] at h
  by_cases e32 : f = 32
  · rw [if_pos e32] at h; subst e32; rw [← Option.some.inj h]; exact ⟨Try.f32, Try.func32, mf32_ok⟩
  rw [if_neg e32] at h
  by_cases e33 : f = 33
  · rw [if_pos e33] at h; subst e33; rw [← Option.some.inj h]; exact ⟨Try.f33, Try.func33, mf33_ok⟩
  rw [if_neg e33] at h
  by_cases e37 : f = 37
  · rw [if_pos e37] at h; subst e37; rw [← Option.some.inj h]; exact ⟨Try.f37, Try.func37, mf37_ok⟩
  rw [if_neg e37] at h
  by_cases e41 : f = 41
  · rw [if_pos e41] at h; subst e41; rw [← Option.some.inj h]; exact ⟨Try.f41, Try.func41, mf41_ok⟩
  rw [if_neg e41] at h
  by_cases e42 : f = 42
  · rw [if_pos e42] at h; subst e42; rw [← Option.some.inj h]; exact ⟨Try.f42, Try.func42, mf42_ok⟩
  rw [if_neg e42] at h
  by_cases e43 : f = 43
  · rw [if_pos e43] at h; subst e43; rw [← Option.some.inj h]; exact ⟨Try.f43, Try.func43, mf43_ok⟩
  rw [if_neg e43] at h
  by_cases e44 : f = 44
  · rw [if_pos e44] at h; subst e44; rw [← Option.some.inj h]; exact ⟨Try.f44, Try.func44, mf44_ok⟩
  rw [if_neg e44] at h
  by_cases e45 : f = 45
  · rw [if_pos e45] at h; subst e45; rw [← Option.some.inj h]; exact ⟨Try.f45, Try.func45, mf45_ok⟩
  rw [if_neg e45] at h
  by_cases e46 : f = 46
  · rw [if_pos e46] at h; subst e46; rw [← Option.some.inj h]; exact ⟨Try.f46, Try.func46, mf46_ok⟩
  rw [if_neg e46] at h
  by_cases e47 : f = 47
  · rw [if_pos e47] at h; subst e47; rw [← Option.some.inj h]; exact ⟨Try.f47, Try.func47, mf47_ok⟩
  rw [if_neg e47] at h
  by_cases e48 : f = 48
  · rw [if_pos e48] at h; subst e48; rw [← Option.some.inj h]; exact ⟨Try.f48, Try.func48, mf48_ok⟩
  rw [if_neg e48] at h
  by_cases e49 : f = 49
  · rw [if_pos e49] at h; subst e49; rw [← Option.some.inj h]; exact ⟨Try.f49, Try.func49, mf49_ok⟩
  rw [if_neg e49] at h
  by_cases e50 : f = 50
  · rw [if_pos e50] at h; subst e50; rw [← Option.some.inj h]; exact ⟨Try.f50, Try.func50, mf50_ok⟩
  rw [if_neg e50] at h
  by_cases e51 : f = 51
  · rw [if_pos e51] at h; subst e51; rw [← Option.some.inj h]; exact ⟨Try.f51, Try.func51, mf51_ok⟩
  rw [if_neg e51] at h
  by_cases e52 : f = 52
  · rw [if_pos e52] at h; subst e52; rw [← Option.some.inj h]; exact ⟨Try.f52, Try.func52, mf52_ok⟩
  rw [if_neg e52] at h
  by_cases e56 : f = 56
  · rw [if_pos e56] at h; subst e56; rw [← Option.some.inj h]; exact ⟨Try.f56, Try.func56, mf56_ok⟩
  rw [if_neg e56] at h
  by_cases e57 : f = 57
  · rw [if_pos e57] at h; subst e57; rw [← Option.some.inj h]; exact ⟨Try.f57, Try.func57, mf57_ok⟩
  rw [if_neg e57] at h
  by_cases e59 : f = 59
  · rw [if_pos e59] at h; subst e59; rw [← Option.some.inj h]; exact ⟨Try.f59, Try.func59, mf59_ok⟩
  rw [if_neg e59] at h
  by_cases e60 : f = 60
  · rw [if_pos e60] at h; subst e60; rw [← Option.some.inj h]; exact ⟨Try.f60, Try.func60, mf60_ok⟩
  rw [if_neg e60] at h
  by_cases e61 : f = 61
  · rw [if_pos e61] at h; subst e61; rw [← Option.some.inj h]; exact ⟨Try.f61, Try.func61, mf61_ok⟩
  rw [if_neg e61] at h
  by_cases e62 : f = 62
  · rw [if_pos e62] at h; subst e62; rw [← Option.some.inj h]; exact ⟨Try.f62, Try.func62, mf62_ok⟩
  rw [if_neg e62] at h
  by_cases e63 : f = 63
  · rw [if_pos e63] at h; subst e63; rw [← Option.some.inj h]; exact ⟨Try.f63, Try.func63, mf63_ok⟩
  rw [if_neg e63] at h
  by_cases e70 : f = 70
  · rw [if_pos e70] at h; subst e70; rw [← Option.some.inj h]; exact ⟨Try.f70, Try.func70, mf70_ok⟩
  rw [if_neg e70] at h
  by_cases e71 : f = 71
  · rw [if_pos e71] at h; subst e71; rw [← Option.some.inj h]; exact ⟨Try.f71, Try.func71, mf71_ok⟩
  rw [if_neg e71] at h
  by_cases e72 : f = 72
  · rw [if_pos e72] at h; subst e72; rw [← Option.some.inj h]; exact ⟨Try.f72, Try.func72, mf72_ok⟩
  rw [if_neg e72] at h
  by_cases e73 : f = 73
  · rw [if_pos e73] at h; subst e73; rw [← Option.some.inj h]; exact ⟨Try.f73, Try.func73, mf73_ok⟩
  rw [if_neg e73] at h
  by_cases e74 : f = 74
  · rw [if_pos e74] at h; subst e74; rw [← Option.some.inj h]; exact ⟨Try.f74, Try.func74, mf74_ok⟩
  rw [if_neg e74] at h
  by_cases e75 : f = 75
  · rw [if_pos e75] at h; subst e75; rw [← Option.some.inj h]; exact ⟨Try.f75, Try.func75, mf75_ok⟩
  rw [if_neg e75] at h
  by_cases e82 : f = 82
  · rw [if_pos e82] at h; subst e82; rw [← Option.some.inj h]; exact ⟨Try.f82, Try.func82, mf82_ok⟩
  rw [if_neg e82] at h
  by_cases e83 : f = 83
  · rw [if_pos e83] at h; subst e83; rw [← Option.some.inj h]; exact ⟨Try.f83, Try.func83, mf83_ok⟩
  rw [if_neg e83] at h
  by_cases e84 : f = 84
  · rw [if_pos e84] at h; subst e84; rw [← Option.some.inj h]; exact ⟨Try.f84, Try.func84, mf84_ok⟩
  rw [if_neg e84] at h
  by_cases e85 : f = 85
  · rw [if_pos e85] at h; subst e85; rw [← Option.some.inj h]; exact ⟨Try.f85, Try.func85, mf85_ok⟩
  rw [if_neg e85] at h
  by_cases e86 : f = 86
  · rw [if_pos e86] at h; subst e86; rw [← Option.some.inj h]; exact ⟨Try.f86, Try.func86, mf86_ok⟩
  rw [if_neg e86] at h
  by_cases e87 : f = 87
  · rw [if_pos e87] at h; subst e87; rw [← Option.some.inj h]; exact ⟨Try.f87, Try.func87, mf87_ok⟩
  rw [if_neg e87] at h
  by_cases e88 : f = 88
  · rw [if_pos e88] at h; subst e88; rw [← Option.some.inj h]; exact ⟨Try.f88, Try.func88, mf88_ok⟩
  rw [if_neg e88] at h
  by_cases e89 : f = 89
  · rw [if_pos e89] at h; subst e89; rw [← Option.some.inj h]; exact ⟨Try.f89, Try.func89, mf89_ok⟩
  rw [if_neg e89] at h
  by_cases e90 : f = 90
  · rw [if_pos e90] at h; subst e90; rw [← Option.some.inj h]; exact ⟨Try.f90, Try.func90, mf90_ok⟩
  rw [if_neg e90] at h
  by_cases e92 : f = 92
  · rw [if_pos e92] at h; subst e92; rw [← Option.some.inj h]; exact ⟨Try.f92, Try.func92, mf92_ok⟩
  rw [if_neg e92] at h
  by_cases e93 : f = 93
  · rw [if_pos e93] at h; subst e93; rw [← Option.some.inj h]; exact ⟨Try.f93, Try.func93, mf93_ok⟩
  rw [if_neg e93] at h
  by_cases e94 : f = 94
  · rw [if_pos e94] at h; subst e94; rw [← Option.some.inj h]; exact ⟨Try.f94, Try.func94, mf94_ok⟩
  rw [if_neg e94] at h
  by_cases e95 : f = 95
  · rw [if_pos e95] at h; subst e95; rw [← Option.some.inj h]; exact ⟨Try.f95, Try.func95, mf95_ok⟩
  rw [if_neg e95] at h
  by_cases e96 : f = 96
  · rw [if_pos e96] at h; subst e96; rw [← Option.some.inj h]; exact ⟨Try.f96, Try.func96, mf96_ok⟩
  rw [if_neg e96] at h
  by_cases e97 : f = 97
  · rw [if_pos e97] at h; subst e97; rw [← Option.some.inj h]; exact ⟨Try.f97, Try.func97, mf97_ok⟩
  rw [if_neg e97] at h
  by_cases e98 : f = 98
  · rw [if_pos e98] at h; subst e98; rw [← Option.some.inj h]; exact ⟨Try.f98, Try.func98, mf98_ok⟩
  rw [if_neg e98] at h
  by_cases e102 : f = 102
  · rw [if_pos e102] at h; subst e102; rw [← Option.some.inj h]; exact ⟨Try.f102, Try.func102, mf102_ok⟩
  rw [if_neg e102] at h
  by_cases e103 : f = 103
  · rw [if_pos e103] at h; subst e103; rw [← Option.some.inj h]; exact ⟨Try.f103, Try.func103, mf103_ok⟩
  rw [if_neg e103] at h
  by_cases e105 : f = 105
  · rw [if_pos e105] at h; subst e105; rw [← Option.some.inj h]; exact ⟨Try.f105, Try.func105, mf105_ok⟩
  rw [if_neg e105] at h
  by_cases e107 : f = 107
  · rw [if_pos e107] at h; subst e107; rw [← Option.some.inj h]; exact ⟨Try.f107, Try.func107, mf107_ok⟩
  rw [if_neg e107] at h
  by_cases e108 : f = 108
  · rw [if_pos e108] at h; subst e108; rw [← Option.some.inj h]; exact ⟨Try.f108, Try.func108, mf108_ok⟩
  rw [if_neg e108] at h
  cases h
theorem idf_ok : IdOK Try.prog idf := by
  intro f h
  have hf : f = 104 ∨ f = 106 := by simpa [idf, or_assoc] using h
  rcases hf with rfl | rfl
  · rw [show noz Try.prog 104 = none from by kernel_rfl]
    intro x w
    rw [run_callFunc_extern (e := Extern.AbiNoEscape.same) Try.func104 (by kernel_rfl) (by kernel_rfl) (by kernel_rfl) (by kernel_rfl)]
    rfl
  · rw [show noz Try.prog 106 = some 5 from by kernel_rfl]
    refine ⟨124, #[3], by kernel_rfl, by kernel_rfl, fun x w => ?_⟩
    exact run_callFunc_extern (e := Extern.BytealgMakeNoZero.makeNoZero #[3] #[124]) Try.func106 (by kernel_rfl) (by kernel_rfl) (by kernel_rfl) (by kernel_rfl) #[x] w
abbrev n_law11_GridAsks : FuncId := 3
abbrev n_ref11_Draft_Grid : FuncId := 8
abbrev n_law11_of : FuncId := 9
abbrev n_grid_New : FuncId := 10
abbrev n_ref11_May : FuncId := 11
abbrev n_ref11_Same : FuncId := 12
abbrev n_law11_rows : FuncId := 13
abbrev n_ref11_New : FuncId := 14
abbrev n_grid_Grid_At : FuncId := 15
abbrev n_ref11_Grid_Is : FuncId := 16
abbrev n_grid_Grid_Row : FuncId := 17
abbrev n_grid_Grid_Copy : FuncId := 18
abbrev n_grid_Grid_Set : FuncId := 19
abbrev n_ref11_Grid_Set : FuncId := 20
abbrev n_law11_works : FuncId := 21
abbrev n_grid_Grid_Size : FuncId := 22
abbrev n_ref10_Same : FuncId := 25
abbrev n_row_New : FuncId := 29
abbrev n_ref10_Line_Other : FuncId := 41
abbrev n_ref10_Line_Row : FuncId := 42
abbrev n_grid_may : FuncId := 43
abbrev n_grid_blanks : FuncId := 44
abbrev n_ref10_New : FuncId := 45
abbrev n_grid_Grid_has : FuncId := 46
abbrev n_ref11_Grid_is : FuncId := 47
abbrev n_grid_Grid_is : FuncId := 48
abbrev n_slices_Clone_api_Cell_api_Cell : FuncId := 49
abbrev n_slices_Clone__api_Cell__api_Cell : FuncId := 50
abbrev n_ref10_Draft_Cell : FuncId := 56
abbrev n_ref10_filled : FuncId := 71
abbrev n_ref10_Line_labels : FuncId := 72
abbrev n_ref10_Attr : FuncId := 82
abbrev n_ref10_Put : FuncId := 93
abbrev n_ref10_own : FuncId := 102
abbrev n_ref10_Break : FuncId := 103
abbrev n_ref10_within : FuncId := 107
abbrev n_ref10_bare : FuncId := 108
end Go.Proofs.Ytifemfnjoobiiaa.Run
