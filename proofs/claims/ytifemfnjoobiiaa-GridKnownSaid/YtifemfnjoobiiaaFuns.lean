/- The functions of the program that a statement reaches, in the small language of this session's own, each held against the program's own text by the kernel. -/
import Derived.Laws.Externs
import Derived.Test.YtifemfnjoobiiaaRunR
import Derived.Test.YtifemfnjoobiiaaProg
namespace Go.Proofs.Ytifemfnjoobiiaa.Run
open Go
set_option linter.unusedVariables false
def bs (l : List Nat) : ByteArray := ⟨(l.map UInt8.ofNat).toArray⟩
def idf : FuncId → Bool := fun f => f == 104 || f == 106
instance (n : Nat) : OfNat Operand n := ⟨.tmp n⟩
instance (n : Nat) : OfNat RVar n := ⟨.tmp n⟩
def o2 (k : Nat) (e : MOp) := MOper.mk (some k) none 2 e
def o1 (k : Nat) (e : MOp) := MOper.mk (some k) none 1 e
def o0 (k : Nat) (e : MOp) := MOper.mk (some k) none 0 e
def ot (k i : Nat) (e : MOp) := MOper.mk (some k) (some (i, true)) 2 e
def oF (k i : Nat) (e : MOp) := MOper.mk (some k) (some (i, false)) 2 e
def on (e : MOp) := MOper.mk none none 2 e
def ov (k i : Nat) := MOper.mk (some k) none 2 (.val (.tmp i))
def ci (n : Int) : Operand := .const (.int .i64 n)
def cb (b : Bool) : Operand := .const (.bool b)
def R (l : List MOper) : MCode := .region false l
def ZL : List Value := [(.int .i32 0), (.int .i32 0), (.int .i32 0), (.int .u8 0), (.int .u8 0), (.int .u8 0), (.int .u8 0), (.int .u8 0), (.int .u8 0), (.int .u8 0), (.int .u8 0), (.int .u8 0), (.int .u16 0), (.int .u8 0)]
def ZA : Array Value := #[(.int .i32 0), (.int .i32 0), (.int .i32 0), (.int .u8 0), (.int .u8 0), (.int .u8 0), (.int .u8 0), (.int .u8 0), (.int .u8 0), (.int .u8 0), (.int .u8 0), (.int .u8 0), (.int .u16 0), (.int .u8 0)]
set_option maxRecDepth 100000
def law11_GridKnown_c0 : MCode := (.seq (R [(o2 58 (.build ZL [])), (o2 59 (.call (.func 10) [(ci 512), (ci 512), 58])), (o2 60 (.build ZL [])), (o2 61 (.call (.func 10) [(ci 513), (ci 1), 60])), (ov 9 59), (ov 10 61)]) (.seq (R [(ov 63 9), (o2 64 (.call (.func 22) [63])), (ov 62 64), (o2 65 (.extract 62 0)), (o2 66 (.extract 62 1)), (ov 11 65), (ov 12 66)]) (.seq (R [(ov 68 1), (o2 69 (.build [(.int .i64 0), (.int .i64 0)] [])), (o2 70 (.call (.func 15) [68, 69])), (ov 67 70), (o2 71 (.extract 67 0)), (o2 72 (.extract 67 1)), (o2 13 (.box 42 (.const (.agg ZA)))), (on (.store 14 13 71)), (ov 14 72)]) (.seq (R [(ov 73 1), (o2 74 (.build [(.int .i64 0), (.int .i64 0)] [])), (o2 75 (.build ZL [])), (o2 76 (.call (.func 31) [73, 74, 75, (cb false)]))]) (.seq (R [(ov 77 1), (o2 78 (.call (.func 34) [77, (.const (.int .u8 1))]))]) (.seq (R [(ov 79 1), (o2 80 (.build ZL [])), (o2 81 (.call (.func 35) [79, (ci 0), (ci 0), (ci 9), 80]))]) (.seq (R [(ov 83 1), (o2 84 (.call (.func 22) [83])), (ov 82 84), (o2 85 (.extract 82 0)), (o2 86 (.extract 82 1)), (ov 15 85), (ov 16 86)]) (.seq (R [(ov 87 2), (o2 88 (.call (.func 34) [87, (.const (.int .u8 1))]))]) (.seq (R [(o2 89 (.val (cb true))), (ot 90 89 (.call (.func 21) [])), (o2 91 (.pick 89 90 (cb false))), (ov 92 91), (ot 93 92 (.val 3)), (o2 94 (.pick 92 93 (cb false))), (ov 95 94), (ot 96 95 (.fieldAddr 3 4)), (ot 97 95 (.load none 96)), (ot 98 95 (.bin .eql 0 [] 97 (.const (.int .u8 1)))), (o2 99 (.pick 95 98 (cb false))), (ov 100 99), (ot 101 100 (.fieldAddr 3 6)), (ot 102 100 (.load none 101)), (ot 103 100 (.bin .eql 0 [] 102 (.const (.int .u8 2)))), (o2 104 (.pick 100 103 (cb false))), (ov 105 104), (ot 106 105 (.val 8)), (o2 107 (.pick 105 106 (cb false))), (ov 108 107), (ot 109 108 (.val 11)), (ot 110 108 (.bin .eql 0 [] 109 (ci 512))), (o2 111 (.pick 108 110 (cb false))), (ov 112 111), (ot 113 112 (.val 12)), (ot 114 112 (.bin .eql 0 [] 113 (ci 512))), (o2 115 (.pick 112 114 (cb false))), (ov 116 115), (ot 117 116 (.val 10)), (ot 118 116 (.bin .eql 3 [] 117 (.const (.pointer none)))), (o2 119 (.pick 116 118 (cb false))), (ov 120 119), (ot 121 120 (.build ZL [])), (ot 122 120 (.call (.func 10) [(ci 0), (ci 5), 121])), (ot 123 120 (.bin .eql 3 [] 122 (.const (.pointer none)))), (o2 124 (.pick 120 123 (cb false))), (ov 125 124), (ot 126 125 (.build ZL [])), (ot 127 125 (.call (.func 10) [(ci 5), (.const (.int .i64 (-1))), 126])), (ot 128 125 (.bin .eql 3 [] 127 (.const (.pointer none)))), (o2 129 (.pick 125 128 (cb false))), (ov 130 129), (ot 131 130 (.val 2)), (ot 132 130 (.build ZL [])), (ot 133 130 (.call (.func 33) [131, (ci 2), (ci 513), 132])), (ot 134 130 (.un .not 133)), (o2 135 (.pick 130 134 (cb false))), (ov 136 135), (ot 137 136 (.val 2)), (ot 138 136 (.build ZL [])), (ot 139 136 (.call (.func 33) [137, (ci 0), (ci 2), 138])), (ot 140 136 (.un .not 139)), (o2 141 (.pick 136 140 (cb false))), (ov 142 141), (ot 143 142 (.val 2)), (ot 144 142 (.call (.func 36) [143])), (ot 145 142 (.bin .eql 0 [] 144 (.const (.int .u8 1)))), (o2 146 (.pick 142 145 (cb false))), (ov 147 146), (ot 148 147 (.val 14)), (ot 149 147 (.un .not 148)), (o2 150 (.pick 147 149 (cb false))), (ov 151 150), (ot 152 151 (.val 15)), (ot 153 151 (.bin .eql 0 [] 152 (ci 0))), (o2 154 (.pick 151 153 (cb false))), (ov 155 154), (ot 156 155 (.val 16)), (ot 157 155 (.bin .eql 0 [] 156 (ci 0))), (o2 158 (.pick 155 157 (cb false))), (ov 159 158), (ot 160 159 (.val 1)), (ot 161 159 (.call (.func 17) [160, (ci 0)])), (ot 162 159 (.len 1 161)), (ot 163 159 (.bin .eql 0 [] 162 (ci 0))), (o2 164 (.pick 159 163 (cb false))), (ov 165 164), (ot 166 165 (.val 1)), (ot 167 165 (.call (.func 19) [166, (ci 0), (.const (.slice none 0 0))])), (ot 168 165 (.un .not 167)), (o2 169 (.pick 165 168 (cb false))), (ov 170 169), (ot 171 170 (.val 1)), (ot 172 170 (.build ZL [])), (ot 173 170 (.call (.func 27) [171, (ci 0), (ci 0), (ci 1), 172])), (ot 174 170 (.len 1 173)), (ot 175 170 (.bin .eql 0 [] 174 (ci 0))), (o2 176 (.pick 170 175 (cb false))), (ov 177 176), (ot 178 177 (.val 1)), (ot 179 177 (.build ZL [])), (ot 180 177 (.call (.func 33) [178, (ci 2), (ci 2), 179])), (ot 181 177 (.un .not 180)), (o2 182 (.pick 177 181 (cb false))), (ov 183 182), (ot 184 183 (.val 1)), (ot 185 183 (.call (.func 36) [184])), (ot 186 183 (.bin .eql 0 [] 185 (.const (.int .u8 0)))), (o2 187 (.pick 183 186 (cb false))), (ov 188 187), (ot 189 188 (.val 1)), (ot 190 188 (.call (.func 18) [189])), (ot 191 188 (.bin .eql 3 [] 190 (.const (.pointer none)))), (o2 192 (.pick 188 191 (cb false))), (ov 193 192), (ot 194 193 (.val 1)), (ot 195 193 (.call (.func 37) [194])), (ot 196 193 (.len 1 195)), (ot 197 193 (.bin .eql 0 [] 196 (ci 0))), (o2 198 (.pick 193 197 (cb false))), (ov 199 198), (ot 200 199 (.val 1)), (ot 201 199 (.call (.func 38) [200, (.const (.pointer none))])), (o2 202 (.pick 199 201 (cb false))), (ov 203 202), (ot 204 203 (.val 1)), (ot 205 203 (.val 2)), (ot 206 203 (.call (.func 38) [204, 205])), (ot 207 203 (.un .not 206)), (o2 208 (.pick 203 207 (cb false))), (ov 209 208), (ot 210 209 (.val 2)), (ot 211 209 (.call (.func 17) [210, (ci 2)])), (ot 212 209 (.len 1 211)), (ot 213 209 (.bin .eql 0 [] 212 (ci 0))), (o2 214 (.pick 209 213 (cb false))), (ov 215 214), (ot 216 215 (.val 2)), (ot 217 215 (.call (.func 17) [216, (.const (.int .i64 (-1)))])), (ot 218 215 (.len 1 217)), (ot 219 215 (.bin .eql 0 [] 218 (ci 0))), (o2 220 (.pick 215 219 (cb false))), (ov 0 220)]) .ret)))))))))
def mf5_b (h0 : MCode) : MCode := (.seq (R [(o2 0 (.val (cb false)))]) (.seq (R [(o2 1 (.val (.const (.pointer none))))]) (.seq (R [(o2 17 (.build ZL [])), (o2 18 (.call (.func 10) [(ci 2), (ci 3), 17])), (ov 2 18)]) (.seq (R [(ov 19 2), (o2 20 (.build [(.int .i64 0), (.int .i64 0)] [(1, (1, (ci 1)))])), (o2 21 (.build ZL [(0, (1, (.const (.int .i32 20013))))])), (o2 22 (.call (.func 31) [19, 20, 21, (cb true)]))]) (.seq (R [(ov 23 2), (o2 24 (.build [(.int .i64 0), (.int .i64 0)] [(0, (1, (ci 1))), (1, (1, (ci 2)))])), (o2 25 (.build ZL [(0, (1, (.const (.int .i32 20013))))])), (o2 26 (.call (.func 31) [23, 24, 25, (cb true)]))]) (.seq (R [(ov 27 2), (o2 28 (.build [(.int .i64 0), (.int .i64 0)] [(0, (1, (ci 2)))])), (o2 29 (.build ZL [(0, (1, (.const (.int .i32 120))))])), (o2 30 (.call (.func 31) [27, 28, 29, (cb false)]))]) (.seq (R [(ov 31 2), (o2 32 (.build [(.int .i64 0), (.int .i64 0)] [(1, (1, (ci 3)))])), (o2 33 (.build ZL [(0, (1, (.const (.int .i32 120))))])), (o2 34 (.call (.func 31) [31, 32, 33, (cb false)]))]) (.seq (R [(ov 35 2), (o2 36 (.lit 9 2 [(.string (bs [])), (.string (bs []))] [(0, (1, (.const (.string (bs [32, 228, 184, 173]))))), (1, (1, (.const (.string (bs [32, 32, 32])))))])), (o2 37 (.call (.func 32) [35, 36])), (ov 3 37)]) (.seq (R [(ov 39 2), (o2 40 (.build [(.int .i64 0), (.int .i64 0)] [(1, (1, (ci 1)))])), (o2 41 (.call (.func 15) [39, 40])), (ov 38 41), (o2 42 (.extract 38 0)), (o2 43 (.extract 38 1)), (o2 4 (.box 42 (.const (.agg ZA)))), (on (.store 14 4 42)), (ov 5 43)]) (.seq (R [(ov 45 2), (o2 46 (.build [(.int .i64 0), (.int .i64 0)] [(1, (1, (ci 2)))])), (o2 47 (.call (.func 15) [45, 46])), (ov 44 47), (o2 48 (.extract 44 0)), (o2 49 (.extract 44 1)), (o2 6 (.box 42 (.const (.agg ZA)))), (on (.store 14 6 48)), (ov 7 49)]) (.seq (R [(ov 50 2), (o2 51 (.build ZL [])), (o2 52 (.call (.func 33) [50, (ci 2), (ci 2), 51])), (ov 53 52), (ot 54 53 (.val 2)), (ot 55 53 (.lit 9 2 [(.string (bs [])), (.string (bs []))] [(0, (1, (.const (.string (bs [32, 32]))))), (1, (1, (.const (.string (bs [32, 32])))))])), (ot 56 53 (.call (.func 32) [54, 55])), (o2 57 (.pick 53 56 (cb false))), (ov 8 57)]) h0)))))))))))
def mf5 : MFunc := (MFunc.mk 221 [0] (mf5_b law11_GridKnown_c0))
theorem mf5_ok : compF Try.prog idf Try.f5 = some mf5 := by kernel_rfl
def mf10_b  : MCode := (.seq (R [(o2 5 (.box 42 2)), (o2 6 (.val (.const (.pointer none))))]) (.seq (.seq (R [(ov 8 0), (ov 9 1), (o2 10 (.call (.func 43) [8, 9])), (o2 11 (.un .not 10))]) (.cond 11 (.seq (R [(o2 6 (.val (.const (.pointer none))))]) .ret) .skip)) (.seq (R [(ov 12 1), (o2 13 (.build [(.slice none 0 0), (.int .i64 0)] [(1, (1, 12))])), (o2 14 (.box 95 13)), (ov 7 14)]) (.seq (R [(ov 15 7), (ov 16 0), (ov 17 1), (o2 18 (.load (some 14) 5)), (o2 19 (.call (.func 44) [16, 17, 18])), (o2 20 (.nilCheck 15)), (o2 21 (.fieldAddr 0 20)), (on (.store 1 21 19))]) (.seq (R [(ov 22 7), (ov 6 22)]) .ret)))))
def mf10 : MFunc := (MFunc.mk 23 [6] mf10_b)
theorem mf10_ok : compF Try.prog idf Try.f10 = some mf10 := by kernel_rfl
def mf15_b  : MCode := (.seq (R [(o2 3 (.box 48 1)), (o2 4 (.box 42 (.const (.agg ZA)))), (o2 5 (.val (cb false)))]) (.seq (.seq (R [(ov 6 0), (o2 7 (.load (some 2) 3)), (o2 8 (.call (.func 46) [6, 7])), (o2 9 (.un .not 8))]) (.cond 9 (.seq (R [(o2 10 (.build ZL [])), (on (.store 14 4 10)), (o2 5 (.val (cb false)))]) .ret) .skip)) (.seq (.region true [(o0 11 (.val 0)), (o0 12 (.nilCheck 11)), (o0 13 (.fieldAddr 0 12)), (o1 14 (.load none 13)), (o0 15 (.fieldAddr 0 3)), (o1 16 (.load none 15)), (o0 17 (.addrL 1 14 16)), (o1 18 (.load none 17)), (o0 19 (.fieldAddr 1 3)), (o1 20 (.load none 19)), (o0 21 (.addrL 14 18 20)), (o2 22 (.load (some 14) 21)), (on (.store 14 4 22)), (o0 5 (.val (cb true)))]) .ret)))
def mf15 : MFunc := (MFunc.mk 23 [(.cell 4 (some 14)), 5] mf15_b)
theorem mf15_ok : compF Try.prog idf Try.f15 = some mf15 := by kernel_rfl
def mf17_b  : MCode := (.seq (R [(o2 4 (.val (.const (.slice none 0 0))))]) (.seq (.seq (R [(ov 5 0), (ov 6 1), (o2 7 (.call (.func 48) [5, 6])), (o2 8 (.un .not 7))]) (.cond 8 (.seq (R [(o2 4 (.val (.const (.slice none 0 0))))]) .ret) .skip)) (.seq (R [(ov 9 0), (o2 10 (.nilCheck 9)), (o2 11 (.fieldAddr 0 10)), (o2 12 (.load none 11)), (ov 13 1), (o2 14 (.addrL 1 12 13)), (o2 15 (.load none 14)), (o2 16 (.call (.func 49) [15])), (ov 4 16)]) .ret)))
def mf17 : MFunc := (MFunc.mk 17 [4] mf17_b)
theorem mf17_ok : compF Try.prog idf Try.f17 = some mf17 := by kernel_rfl
def mf18_b  : MCode := (.seq (R [(o2 2 (.val (.const (.pointer none))))]) (.seq (.seq (R [(ov 3 0), (o2 4 (.bin .eql 3 [] 3 (.const (.pointer none))))]) (.cond 4 (.seq (R [(o2 2 (.val (.const (.pointer none))))]) .ret) .skip)) (.seq (.region true [(o0 5 (.val 0)), (o0 6 (.nilCheck 5)), (o0 7 (.fieldAddr 0 6)), (o1 8 (.load none 7)), (o1 9 (.call (.func 50) [8])), (o0 10 (.val 0)), (o0 11 (.nilCheck 10)), (o0 12 (.fieldAddr 1 11)), (o1 13 (.load none 12)), (o0 14 (.build [(.slice none 0 0), (.int .i64 0)] [(0, (1, 9)), (1, (1, 13))])), (o2 15 (.box 95 14)), (o0 2 (.val 15))]) .ret)))
def mf18 : MFunc := (MFunc.mk 16 [2] mf18_b)
theorem mf18_ok : compF Try.prog idf Try.f18 = some mf18 := by kernel_rfl
def mf19_b  : MCode := (.seq (R [(o2 6 (.val (cb false)))]) (.seq (.seq (R [(ov 7 0), (ov 8 1), (o2 9 (.call (.func 48) [7, 8])), (o2 10 (.un .not 9)), (ov 11 10), (oF 12 11 (.val 2)), (oF 13 11 (.len 1 12)), (oF 14 11 (.val 0)), (oF 15 11 (.nilCheck 14)), (oF 16 11 (.fieldAddr 1 15)), (oF 17 11 (.load none 16)), (oF 18 11 (.bin .neq 0 [] 13 17)), (o2 19 (.pick 11 (cb true) 18))]) (.cond 19 (.seq (R [(o2 6 (.val (cb false)))]) .ret) .skip)) (.seq (.region true [(o0 20 (.val 0)), (o0 21 (.nilCheck 20)), (o0 22 (.fieldAddr 0 21)), (o1 23 (.load none 22)), (o0 24 (.val 1)), (o0 25 (.val 2)), (o1 26 (.call (.func 49) [25])), (o0 27 (.addrL 1 23 24)), (on (.store 1 27 26))]) (.seq (R [(o2 6 (.val (cb true)))]) .ret))))
def mf19 : MFunc := (MFunc.mk 28 [6] mf19_b)
theorem mf19_ok : compF Try.prog idf Try.f19 = some mf19 := by kernel_rfl
def mf21_b  : MCode := (.seq (R [(o2 0 (.val (cb false)))]) (.seq (R [(o2 8 (.call (.func 51) [(.const (.string (bs [97, 98, 99])))])), (o2 9 (.call (.func 51) [(.const (.string (bs [97, 98, 99])))])), (o2 10 (.call (.func 51) [(.const (.string (bs [97, 98, 99])))])), (ov 1 8), (ov 2 9), (ov 3 10)]) (.seq (R [(ov 11 1), (o2 12 (.build ZL [])), (o2 13 (.call (.func 27) [11, (ci 0), (ci 2), (ci 1), 12])), (ov 4 13)]) (.seq (R [(ov 14 2), (o2 15 (.build ZL [])), (o2 16 (.call (.func 30) [14, (ci 1), (ci 2), (ci 5), 15])), (ov 5 16)]) (.seq (R [(ov 17 3), (o2 18 (.build ZL [])), (o2 19 (.call (.func 27) [17, (ci 1), (ci 0), (ci 1), 18])), (o2 20 (.len 1 19)), (ov 21 3), (o2 22 (.build ZL [])), (o2 23 (.call (.func 27) [21, (ci 0), (ci 3), (ci 1), 22])), (o2 24 (.len 1 23)), (o2 25 (.bin .add 0 [] 20 24)), (ov 26 3), (o2 27 (.build ZL [])), (o2 28 (.call (.func 27) [26, (ci 0), (ci 1), (ci 0), 27])), (o2 29 (.len 1 28)), (o2 30 (.bin .add 0 [] 25 29)), (ov 6 30)]) (.seq (R [(ov 31 3), (o2 32 (.lit 9 3 [(.string (bs [])), (.string (bs [])), (.string (bs []))] [(0, (1, (.const (.string (bs [97, 32]))))), (1, (1, (.const (.string (bs [98, 32]))))), (2, (1, (.const (.string (bs [99, 32])))))])), (o2 33 (.call (.func 32) [31, 32])), (ov 7 33)]) (.seq (R [(ov 34 4), (o2 35 (.len 1 34)), (o2 36 (.bin .eql 0 [] 35 (ci 1))), (ov 37 36), (ot 38 37 (.val 4)), (ot 39 37 (.addrL 1 38 (ci 0))), (ot 40 37 (.load none 39)), (ot 41 37 (.call (.func 52) [40])), (ot 42 37 (.bin .eql 0 [] 41 (.const (.string (bs [97, 32]))))), (o2 43 (.pick 37 42 (cb false))), (ov 44 43), (ot 45 44 (.val 1)), (ot 46 44 (.lit 9 3 [(.string (bs [])), (.string (bs [])), (.string (bs []))] [(0, (1, (.const (.string (bs [98, 32]))))), (1, (1, (.const (.string (bs [99, 32]))))), (2, (1, (.const (.string (bs [32, 32])))))])), (ot 47 44 (.call (.func 32) [45, 46])), (o2 48 (.pick 44 47 (cb false))), (ov 49 48), (ot 50 49 (.val 5)), (ot 51 49 (.len 1 50)), (ot 52 49 (.bin .eql 0 [] 51 (ci 2))), (o2 53 (.pick 49 52 (cb false))), (ov 54 53), (ot 55 54 (.val 5)), (ot 56 54 (.addrL 1 55 (ci 0))), (ot 57 54 (.load none 56)), (ot 58 54 (.call (.func 52) [57])), (ot 59 54 (.bin .eql 0 [] 58 (.const (.string (bs [98, 32]))))), (o2 60 (.pick 54 59 (cb false))), (ov 61 60), (ot 62 61 (.val 5)), (ot 63 61 (.addrL 1 62 (ci 1))), (ot 64 61 (.load none 63)), (ot 65 61 (.call (.func 52) [64])), (ot 66 61 (.bin .eql 0 [] 65 (.const (.string (bs [99, 32]))))), (o2 67 (.pick 61 66 (cb false))), (ov 68 67), (ot 69 68 (.val 2)), (ot 70 68 (.lit 9 3 [(.string (bs [])), (.string (bs [])), (.string (bs []))] [(0, (1, (.const (.string (bs [97, 32]))))), (1, (1, (.const (.string (bs [32, 32]))))), (2, (1, (.const (.string (bs [32, 32])))))])), (ot 71 68 (.call (.func 32) [69, 70])), (o2 72 (.pick 68 71 (cb false))), (ov 73 72), (ot 74 73 (.val 6)), (ot 75 73 (.bin .eql 0 [] 74 (ci 0))), (o2 76 (.pick 73 75 (cb false))), (ov 77 76), (ot 78 77 (.val 7)), (o2 79 (.pick 77 78 (cb false))), (ov 80 79), (ot 81 80 (.val 3)), (ot 82 80 (.build ZL [])), (ot 83 80 (.call (.func 33) [81, (ci 2), (ci 3), 82])), (o2 84 (.pick 80 83 (cb false))), (ov 85 84), (ot 86 85 (.val 3)), (ot 87 85 (.lit 9 2 [(.string (bs [])), (.string (bs []))] [(0, (1, (.const (.string (bs [97, 32, 32]))))), (1, (1, (.const (.string (bs [98, 32, 32])))))])), (ot 88 85 (.call (.func 32) [86, 87])), (o2 89 (.pick 85 88 (cb false))), (ov 0 89)]) .ret)))))))
def mf21 : MFunc := (MFunc.mk 90 [0] mf21_b)
theorem mf21_ok : compF Try.prog idf Try.f21 = some mf21 := by kernel_rfl
def mf22_b  : MCode := (.seq (R [(o2 2 (.val (ci 0))), (o2 3 (.val (ci 0)))]) (.seq (.seq (R [(ov 4 0), (o2 5 (.bin .eql 3 [] 4 (.const (.pointer none))))]) (.cond 5 (.seq (R [(o2 2 (.val (ci 0))), (o2 3 (.val (ci 0)))]) .ret) .skip)) (.seq (.region true [(o0 6 (.val 0)), (o0 7 (.nilCheck 6)), (o0 8 (.fieldAddr 0 7)), (o1 9 (.load none 8)), (o0 10 (.len 1 9)), (o0 11 (.val 0)), (o0 12 (.nilCheck 11)), (o0 13 (.fieldAddr 1 12)), (o1 14 (.load none 13)), (o0 2 (.val 10)), (o0 3 (.val 14))]) .ret)))
def mf22 : MFunc := (MFunc.mk 15 [2, 3] mf22_b)
theorem mf22_ok : compF Try.prog idf Try.f22 = some mf22 := by kernel_rfl
def mf27_b  : MCode := (.seq (R [(o2 9 (.box 42 4)), (o2 10 (.val (.const (.slice none 0 0))))]) (.seq (R [(ov 11 0), (ov 12 1), (ov 13 2), (ov 14 3), (o2 15 (.load (some 14) 9)), (o2 16 (.call (.func 57) [11, 12, 13, 14, 15, (cb true)])), (ov 10 16)]) .ret))
def mf27 : MFunc := (MFunc.mk 17 [10] mf27_b)
theorem mf27_ok : compF Try.prog idf Try.f27 = some mf27 := by kernel_rfl
def row_New_l1 : MCode := (.seq (R [(o2 13 (.bin .lss 0 [] 12 11))]) (.seq (.cond 13 .skip (.exit 0)) (.seq (.block 1 (.seq (R [(ov 14 12), (ov 6 14)]) (R [(ov 15 5), (ov 16 6), (o2 17 (.load (some 14) 3)), (o2 18 (.addrL 14 15 16)), (on (.store 14 18 17))]))) (R [(o2 19 (.bin .add 0 [] 12 (ci 1))), (ov 12 19)]))))
def row_New_c0 : MCode := (.seq (R [(ov 20 5), (ov 4 20)]) .ret)
def mf29_b (h0 h1 : MCode) : MCode := (.seq (R [(o2 3 (.box 42 1)), (o2 4 (.val (.const (.slice none 0 0))))]) (.seq (R [(ov 7 0), (o2 8 (.minmax true (ci 0) [7])), (o2 9 (.mkSlice 42 28 ZL 8 8)), (ov 5 9)]) (.seq (.seq (R [(ov 10 5), (o2 11 (.len 1 10)), (o2 12 (.val (ci 0)))]) (.block 0 (.loop h0))) h1)))
def mf29 : MFunc := (MFunc.mk 21 [4] (mf29_b row_New_l1 row_New_c0))
theorem mf29_ok : compF Try.prog idf Try.f29 = some mf29 := by kernel_rfl
def mf30_b  : MCode := (.seq (R [(o2 9 (.box 42 4)), (o2 10 (.val (.const (.slice none 0 0))))]) (.seq (R [(ov 11 0), (ov 12 1), (ov 13 2), (ov 14 3), (o2 15 (.load (some 14) 9)), (o2 16 (.call (.func 57) [11, 12, 13, 14, 15, (cb false)])), (ov 10 16)]) .ret))
def mf30 : MFunc := (MFunc.mk 17 [10] mf30_b)
theorem mf30_ok : compF Try.prog idf Try.f30 = some mf30 := by kernel_rfl
def mf31_b  : MCode := (.seq (R [(o2 5 (.box 48 1)), (o2 6 (.box 42 2))]) (R [(ov 8 0), (o2 9 (.load (some 2) 5)), (o2 10 (.load (some 14) 6)), (ov 11 3), (o2 12 (.build [(.int .i32 0), (.int .i32 0), (.int .i32 0), (.int .u8 0), (.int .u8 0), (.int .u8 0), (.int .u8 0), (.int .u8 0), (.int .u8 0), (.int .u8 0), (.int .u8 0), (.int .u8 0), (.int .u16 0), (.int .u8 0), (.bool false)] [(0, (14, 10)), (14, (1, 11))])), (o2 13 (.mkFunc (.func 60) [12] [])), (o2 14 (.call (.func 59) [8, 9, 13]))]))
def mf31 : MFunc := (MFunc.mk 15 [] mf31_b)
theorem mf31_ok : compF Try.prog idf Try.f31 = some mf31 := by kernel_rfl
def mf32_b  : MCode := (.seq (R [(o2 4 (.val (cb false)))]) (.seq (R [(ov 5 0), (o2 6 (.call (.func 37) [5])), (o2 7 (.call (.func 61) [6, (.const (.string (bs [124])))])), (ov 8 1), (o2 9 (.call (.func 61) [8, (.const (.string (bs [124])))])), (o2 10 (.bin .eql 0 [] 7 9)), (ov 4 10)]) .ret))
def mf32 : MFunc := (MFunc.mk 11 [4] mf32_b)
theorem mf32_ok : compF Try.prog idf Try.f32 = some mf32 := by kernel_rfl
def grid_Grid_Resize_a2 : MCode := (.seq (R [(ov 9 22)]) (R [(ov 10 23)]))
def grid_Grid_Resize_b2 : MCode := (.block 1 (.region true [(o1 24 (.load none 4)), (o0 25 (.nilCheck 24)), (o0 26 (.fieldAddr 0 25)), (o1 27 (.load none 26)), (o0 28 (.val 9)), (o0 29 (.val 10)), (o1 30 (.load none 6)), (o1 31 (.load (some 14) 7)), (o1 32 (.call (.func 63) [29, 30, 31])), (o0 33 (.addrL 1 27 28)), (on (.store 1 33 32))]))
def grid_Grid_Resize_c1 : MCode := (.seq (R [(ov 34 1), (o2 35 (.load none 4)), (o2 36 (.nilCheck 35)), (o2 37 (.fieldAddr 0 36)), (o2 38 (.load none 37)), (o2 39 (.len 1 38)), (o2 40 (.minmax false 34 [39])), (ov 11 40)]) (.seq (.region true [(o1 41 (.load none 4)), (o1 42 (.load none 4)), (o0 43 (.nilCheck 42)), (o0 44 (.fieldAddr 0 43)), (o1 45 (.load none 44)), (o0 46 (.val 11)), (o0 47 (.val 11)), (o0 48 (.sliceL 1 45 none (some 46) (some 47))), (o0 49 (.val 1)), (o0 50 (.val 11)), (o0 51 (.bin .sub 0 [] 49 50)), (o1 52 (.load none 6)), (o1 53 (.load (some 14) 7)), (o1 54 (.call (.func 44) [51, 52, 53])), (MOper.mk (some 55) none 3 (.append 26 24 1 false 48 54)), (o0 56 (.nilCheck 41)), (o0 57 (.fieldAddr 0 56)), (on (.store 1 57 55))]) (.seq (R [(o2 58 (.load none 4)), (o2 59 (.load none 6)), (o2 60 (.nilCheck 58)), (o2 61 (.fieldAddr 1 60)), (on (.store 1 61 59))]) (.seq (R [(o2 8 (.val (cb true)))]) .ret))))
def grid_Grid_Resize_c0_ (h0 h1 h2 : MCode) : MCode := (.seq (.seq (R [(o2 20 (.load none 4)), (o2 21 (.call (.func 62) [20]))]) (.block 0 (.rangeFunc 21 [22, 23] h0 h1))) h2)
def grid_Grid_Resize_c0 : MCode := grid_Grid_Resize_c0_ grid_Grid_Resize_a2 grid_Grid_Resize_b2 grid_Grid_Resize_c1
def mf33_b (h0 : MCode) : MCode := (.seq (R [(o2 4 (.box 31 0)), (o2 6 (.box 3 2)), (o2 7 (.box 42 3)), (o2 8 (.val (cb false)))]) (.seq (.seq (R [(o2 12 (.load none 4)), (o2 13 (.bin .eql 3 [] 12 (.const (.pointer none)))), (ov 14 13), (oF 15 14 (.val 1)), (oF 16 14 (.load none 6)), (oF 17 14 (.call (.func 43) [15, 16])), (oF 18 14 (.un .not 17)), (o2 19 (.pick 14 (cb true) 18))]) (.cond 19 (.seq (R [(o2 8 (.val (cb false)))]) .ret) .skip)) h0))
def mf33 : MFunc := (MFunc.mk 62 [8] (mf33_b grid_Grid_Resize_c0))
theorem mf33_ok : compF Try.prog idf Try.f33 = some mf33 := by kernel_rfl
def grid_Grid_Raise_a0 : MCode := (.seq (R [(ov 4 8)]) (R [(ov 5 9)]))
def grid_Grid_Raise_b0 : MCode := (.block 1 (.region true [(o1 10 (.load none 2)), (o0 11 (.nilCheck 10)), (o0 12 (.fieldAddr 0 11)), (o1 13 (.load none 12)), (o0 14 (.val 4)), (o0 15 (.val 5)), (o1 16 (.load none 3)), (o1 17 (.call (.func 64) [15, 16])), (o0 18 (.addrL 1 13 14)), (on (.store 1 18 17))]))
def mf34_b (h0 h1 : MCode) : MCode := (.seq (R [(o2 2 (.box 31 0)), (o2 3 (.box 40 1))]) (.seq (R [(o2 6 (.load none 2)), (o2 7 (.call (.func 62) [6]))]) (.block 0 (.rangeFunc 7 [8, 9] h0 h1))))
def mf34 : MFunc := (MFunc.mk 19 [] (mf34_b grid_Grid_Raise_a0 grid_Grid_Raise_b0))
theorem mf34_ok : compF Try.prog idf Try.f34 = some mf34 := by kernel_rfl
def mf35_b  : MCode := (.seq (R [(o2 9 (.box 42 4))]) (.seq (R [(ov 10 0), (ov 11 1), (o2 12 (.call (.func 48) [10, 11]))]) (.cond 12 (.region true [(o0 13 (.val 0)), (o0 14 (.nilCheck 13)), (o0 15 (.fieldAddr 0 14)), (o1 16 (.load none 15)), (o0 17 (.val 1)), (o0 18 (.val 0)), (o0 19 (.nilCheck 18)), (o0 20 (.fieldAddr 0 19)), (o1 21 (.load none 20)), (o0 22 (.val 1)), (o0 23 (.addrL 1 21 22)), (o1 24 (.load none 23)), (o0 25 (.val 2)), (o0 26 (.val 3)), (o1 27 (.load (some 14) 9)), (o1 28 (.call (.func 65) [24, 25, 26, 27])), (o0 29 (.addrL 1 16 17)), (on (.store 1 29 28))]) .skip)))
def mf35 : MFunc := (MFunc.mk 30 [] mf35_b)
theorem mf35_ok : compF Try.prog idf Try.f35 = some mf35 := by kernel_rfl
def grid_Grid_Level_a1 : MCode := (R [(ov 4 8)])
def grid_Grid_Level_b1 : MCode := (.block 1 (.region true [(o1 9 (.load none 2)), (o0 10 (.val 4)), (o0 11 (.val 4)), (o0 12 (.len 1 11)), (o1 13 (.call (.func 66) [10, (ci 0), 12])), (o0 14 (.minmax true 9 [13])), (on (.store 1 2 14))]))
def grid_Grid_Level_c0 : MCode := (.seq (R [(o2 15 (.load none 2)), (on (.store 1 2 15))]) .ret)
def mf36_b (h0 h1 h2 : MCode) : MCode := (.seq (R [(o2 2 (.box 40 (.const (.int .u8 0))))]) (.seq (.seq (R [(ov 5 0), (o2 6 (.call (.func 62) [5]))]) (.block 0 (.rangeFunc 6 [7, 8] h0 h1))) h2))
def mf36 : MFunc := (MFunc.mk 16 [(.cell 2 none)] (mf36_b grid_Grid_Level_a1 grid_Grid_Level_b1 grid_Grid_Level_c0))
theorem mf36_ok : compF Try.prog idf Try.f36 = some mf36 := by kernel_rfl
def grid_Grid_Text_a1 : MCode := (R [(ov 5 9)])
def grid_Grid_Text_b1 : MCode := (.block 1 (.region true [(o1 10 (.load none 2)), (o1 11 (.load none 3)), (o0 12 (.val 5)), (o1 13 (.call 11 [12])), (o1 14 (.lit 9 1 [(.string (bs []))] [(0, (1, 13))])), (o2 15 (.append 9 16 1 false 10 14)), (on (.store 1 2 15))]))
def grid_Grid_Text_c0 : MCode := (.seq (R [(o2 16 (.load none 2)), (on (.store 1 2 16))]) .ret)
def mf37_b (h0 h1 h2 : MCode) : MCode := (.seq (R [(o2 2 (.box 82 (.const (.slice none 0 0))))]) (.seq (R [(o2 3 (.box 101 (.const .nilFunc))), (on (.store 1 3 (.func 52)))]) (.seq (.seq (R [(ov 6 0), (o2 7 (.call (.func 62) [6]))]) (.block 0 (.rangeFunc 7 [8, 9] h0 h1))) h2)))
def mf37 : MFunc := (MFunc.mk 17 [(.cell 2 none)] (mf37_b grid_Grid_Text_a1 grid_Grid_Text_b1 grid_Grid_Text_c0))
theorem mf37_ok : compF Try.prog idf Try.f37 = some mf37 := by kernel_rfl
def mf38_b  : MCode := (.seq (R [(o2 4 (.val (cb false)))]) (.seq (.seq (R [(ov 5 0), (o2 6 (.bin .eql 3 [] 5 (.const (.pointer none)))), (ov 7 6), (oF 8 7 (.val 1)), (oF 9 7 (.bin .eql 3 [] 8 (.const (.pointer none)))), (o2 10 (.pick 7 (cb true) 9))]) (.cond 10 (.seq (R [(ov 11 0), (ov 12 1), (o2 13 (.bin .eql 3 [] 11 12)), (ov 4 13)]) .ret) .skip)) (.seq (.region true [(o0 14 (.val 0)), (o0 15 (.nilCheck 14)), (o0 16 (.fieldAddr 0 15)), (o1 17 (.load none 16)), (o0 18 (.val 1)), (o0 19 (.nilCheck 18)), (o0 20 (.fieldAddr 0 19)), (o1 21 (.load none 20)), (o2 22 (.call (.func 67) [17, 21, (.func 68)])), (o0 4 (.val 22))]) .ret)))
def mf38 : MFunc := (MFunc.mk 23 [4] mf38_b)
theorem mf38_ok : compF Try.prog idf Try.f38 = some mf38 := by kernel_rfl
def mf43_b  : MCode := (.seq (R [(o2 4 (.val (cb false)))]) (.seq (R [(ov 5 0), (ov 6 1), (o2 7 (.minmax false 5 [6])), (o2 8 (.bin .geq 0 [] 7 (ci 1))), (ov 9 8), (ot 10 9 (.val 0)), (ot 11 9 (.bin .leq 0 [] 10 (ci 512))), (o2 12 (.pick 9 11 (cb false))), (ov 13 12), (ot 14 13 (.val 1)), (ot 15 13 (.bin .leq 0 [] 14 (ci 512))), (o2 16 (.pick 13 15 (cb false))), (ov 4 16)]) .ret))
def mf43 : MFunc := (MFunc.mk 17 [4] mf43_b)
theorem mf43_ok : compF Try.prog idf Try.f43 = some mf43 := by kernel_rfl
def grid_blanks_l1 : MCode := (.seq (R [(o2 9 (.bin .lss 0 [] 8 7))]) (.seq (.cond 9 .skip (.exit 0)) (.seq (.block 1 (R [(ov 10 6), (ov 11 1), (o2 12 (.load (some 14) 5)), (o2 13 (.call (.func 29) [11, 12])), (o2 14 (.lit 26 1 [(.slice none 0 0)] [(0, (1, 13))])), (o2 15 (.append 26 24 1 false 10 14)), (ov 6 15)])) (R [(o2 16 (.bin .add 0 [] 8 (ci 1))), (ov 8 16)]))))
def grid_blanks_c0 : MCode := (.seq (R [(ov 17 6), (ov 6 17)]) .ret)
def mf44_b (h0 h1 : MCode) : MCode := (.seq (R [(o2 5 (.box 42 2)), (o2 6 (.val (.const (.slice none 0 0))))]) (.seq (.seq (R [(ov 7 0), (o2 8 (.val (ci 0)))]) (.block 0 (.loop h0))) h1))
def mf44 : MFunc := (MFunc.mk 18 [6] (mf44_b grid_blanks_l1 grid_blanks_c0))
theorem mf44_ok : compF Try.prog idf Try.f44 = some mf44 := by kernel_rfl
def mf46_b  : MCode := (.seq (R [(o2 3 (.box 48 1)), (o2 4 (.val (cb false)))]) (.seq (.region true [(o0 5 (.val 0)), (o0 6 (.fieldAddr 0 3)), (o2 7 (.load none 6)), (o2 8 (.call (.func 48) [5, 7])), (o0 9 (.val 8)), (MOper.mk (some 10) (some (9, true)) 0 (.fieldAddr 1 3)), (ot 11 9 (.load none 10)), (MOper.mk (some 12) (some (9, true)) 0 (.bin .geq 0 [] 11 (ci 0))), (o0 13 (.pick 9 12 (cb false))), (o0 14 (.val 13)), (MOper.mk (some 15) (some (14, true)) 0 (.fieldAddr 1 3)), (MOper.mk (some 16) (some (14, true)) 1 (.load none 15)), (MOper.mk (some 17) (some (14, true)) 0 (.val 0)), (MOper.mk (some 18) (some (14, true)) 0 (.nilCheck 17)), (MOper.mk (some 19) (some (14, true)) 0 (.fieldAddr 1 18)), (MOper.mk (some 20) (some (14, true)) 1 (.load none 19)), (MOper.mk (some 21) (some (14, true)) 0 (.bin .lss 0 [] 16 20)), (o0 22 (.pick 14 21 (cb false))), (o0 4 (.val 22))]) .ret))
def mf46 : MFunc := (MFunc.mk 23 [4] mf46_b)
theorem mf46_ok : compF Try.prog idf Try.f46 = some mf46 := by kernel_rfl
def mf48_b  : MCode := (.seq (R [(o2 4 (.val (cb false)))]) (.seq (R [(ov 5 0), (o2 6 (.bin .neq 3 [] 5 (.const (.pointer none)))), (ov 7 6), (ot 8 7 (.val 1)), (ot 9 7 (.bin .geq 0 [] 8 (ci 0))), (o2 10 (.pick 7 9 (cb false))), (ov 11 10), (ot 12 11 (.val 1)), (ot 13 11 (.val 0)), (ot 14 11 (.nilCheck 13)), (ot 15 11 (.fieldAddr 0 14)), (ot 16 11 (.load none 15)), (ot 17 11 (.len 1 16)), (ot 18 11 (.bin .lss 0 [] 12 17)), (o2 19 (.pick 11 18 (cb false))), (ov 4 19)]) .ret))
def mf48 : MFunc := (MFunc.mk 20 [4] mf48_b)
theorem mf48_ok : compF Try.prog idf Try.f48 = some mf48 := by kernel_rfl
def mf49_b  : MCode := (.seq (R [(o2 2 (.val (.const (.slice none 0 0))))]) (.seq (.seq (R [(ov 3 0), (o2 4 (.bin .eql 4 [] 3 (.const (.slice none 0 0))))]) (.cond 4 (.seq (R [(o2 2 (.val (.const (.slice none 0 0))))]) .ret) .skip)) (.seq (R [(o2 5 (.lit 42 0 [] [])), (ov 6 0), (o2 7 (.append 42 28 14 false 5 6)), (ov 2 7)]) .ret)))
def mf49 : MFunc := (MFunc.mk 8 [2] mf49_b)
theorem mf49_ok : compF Try.prog idf Try.f49 = some mf49 := by kernel_rfl
def mf50_b  : MCode := (.seq (R [(o2 2 (.val (.const (.slice none 0 0))))]) (.seq (.seq (R [(ov 3 0), (o2 4 (.bin .eql 4 [] 3 (.const (.slice none 0 0))))]) (.cond 4 (.seq (R [(o2 2 (.val (.const (.slice none 0 0))))]) .ret) .skip)) (.seq (R [(o2 5 (.lit 26 0 [] [])), (ov 6 0), (o2 7 (.append 26 24 1 false 5 6)), (ov 2 7)]) .ret)))
def mf50 : MFunc := (MFunc.mk 8 [2] mf50_b)
theorem mf50_ok : compF Try.prog idf Try.f50 = some mf50 := by kernel_rfl
def law11_letters_l1 : MCode := (.seq (.seq (R [(ov 9 4), (ov 10 0), (o2 11 (.len 0 10)), (o2 12 (.bin .lss 0 [] 9 11))]) (.cond 12 .skip (.exit 0))) (.seq (.block 1 (R [(ov 15 3), (ov 16 4), (o2 17 (.build [(.int .i64 0), (.int .i64 0)] [(0, (1, 16))])), (ov 18 0), (ov 19 4), (o2 20 (.idxS 18 19)), (o2 21 (.convI .i32 20)), (o2 22 (.build ZL [(0, (1, 21))])), (o2 23 (.call (.func 31) [15, 17, 22, (cb false)]))])) (R [(ov 13 4), (o2 14 (.bin .add 0 [] 13 (ci 1))), (ov 4 14)])))
def law11_letters_c0 : MCode := (.seq (R [(ov 24 3), (ov 2 24)]) .ret)
def mf51_b (h0 h1 : MCode) : MCode := (.seq (R [(o2 2 (.val (.const (.pointer none))))]) (.seq (R [(ov 5 0), (o2 6 (.len 0 5)), (o2 7 (.build ZL [])), (o2 8 (.call (.func 10) [6, (ci 2), 7])), (ov 3 8)]) (.seq (.seq (R [(o2 4 (.val (ci 0)))]) (.block 0 (.loop h0))) h1)))
def mf51 : MFunc := (MFunc.mk 25 [2] (mf51_b law11_letters_l1 law11_letters_c0))
theorem mf51_ok : compF Try.prog idf Try.f51 = some mf51 := by kernel_rfl
def row_Text_l3 : MCode := (.seq (R [(o2 29 (.bin .lss 0 [] 28 (ci 2)))]) (.seq (.cond 29 .skip (.exit 3)) (.seq (.block 4 (.seq (R [(o2 30 (.idxA 2 none 1 27 28)), (ov 7 30)]) (.seq (R [(ov 31 7), (o2 32 (.bin .neq 0 [] 31 (.const (.int .i32 0))))]) (.cond 32 (R [(ov 33 7), (o2 34 (.call (.func 74) [3, 33]))]) .skip)))) (R [(o2 35 (.bin .add 0 [] 28 (ci 1))), (ov 28 35)]))))
def row_Text_c2 : MCode := (R [(o2 36 (.bin .add 0 [] 10 (ci 1))), (ov 10 36)])
def row_Text_l1_ (h0 h1 : MCode) : MCode := (.seq (R [(o2 11 (.bin .lss 0 [] 10 9))]) (.seq (.cond 11 .skip (.exit 0)) (.seq (.block 1 (.seq (R [(o2 12 (.addrL 14 8 10)), (o2 13 (.load (some 14) 12)), (o2 5 (.box 42 (.const (.agg ZA)))), (on (.store 14 5 13))]) (.seq (.block 2 (.seq (R [(o2 15 (.fieldAddr 3 5)), (o2 16 (.load none 15)), (o2 17 (.bin .eql 0 [] 16 (.const (.int .u8 2)))), (ov 14 17)]) (.cond 14 (.exit 1) (.seq (R [(o2 19 (.fieldAddr 0 5)), (o2 20 (.load none 19)), (o2 21 (.bin .eql 0 [] 20 (.const (.int .i32 0)))), (ov 18 21)]) (.cond 18 (.seq (R [(o2 22 (.call (.func 73) [3, (.const (.int .u8 32))]))]) (.exit 1)) .skip))))) (.seq (R [(o2 23 (.fieldAddr 0 5)), (o2 24 (.load none 23)), (o2 25 (.call (.func 74) [3, 24]))]) (.seq (R [(o2 26 (.fieldAddr 1 5)), (o2 27 (.load (some 2) 26)), (o2 28 (.val (ci 0)))]) (.block 3 (.loop h0))))))) h1)))
def row_Text_l1 : MCode := row_Text_l1_ row_Text_l3 row_Text_c2
def row_Text_c0 : MCode := (.seq (R [(o2 37 (.call (.func 75) [3])), (ov 2 37)]) .ret)
def mf52_b (h0 h1 : MCode) : MCode := (.seq (R [(o2 2 (.val (.const (.string (bs [])))))]) (.seq (R [(o2 3 (.box 126 (.const (.agg #[(.pointer none), (.slice none 0 0)]))))]) (.seq (.seq (R [(ov 8 0), (o2 9 (.len 1 8)), (o2 10 (.val (ci 0)))]) (.block 0 (.loop h0))) h1)))
def mf52 : MFunc := (MFunc.mk 38 [2] (mf52_b row_Text_l1 row_Text_c0))
theorem mf52_ok : compF Try.prog idf Try.f52 = some mf52 := by kernel_rfl
def grid_Grid_scroll_l3 : MCode := (.seq (R [(o2 90 (.bin .lss 0 [] 89 88))]) (.seq (.cond 90 .skip (.exit 0)) (.seq (.block 1 (.seq (R [(o2 91 (.addrL 1 87 89)), (o2 92 (.load none 91)), (ov 21 92)]) (R [(ov 93 19), (ov 94 21), (o2 95 (.call (.func 49) [94])), (o2 96 (.lit 26 1 [(.slice none 0 0)] [(0, (1, 95))])), (o2 97 (.append 26 24 1 false 93 96)), (ov 19 97)]))) (R [(o2 98 (.bin .add 0 [] 89 (ci 1))), (ov 89 98)]))))
def grid_Grid_scroll_c2 : MCode := (.seq (R [(ov 99 13), (ov 100 18), (o2 101 (.copy 1 99 100))]) (.seq (R [(ov 102 19), (ov 12 102)]) .ret))
def grid_Grid_scroll_c1_ (h0 h1 : MCode) : MCode := (.seq (.region true [(o0 62 (.val 13)), (o0 63 (.val 14)), (o0 64 (.sliceL 1 62 none (some 63) none)), (o0 65 (.val 13)), (o0 66 (.val 14)), (o0 67 (.sliceL 1 65 (some 66) none none)), (o0 15 (.val 64)), (o0 16 (.val 67))]) (.seq (.region true [(o0 68 (.val 3)), (o0 69 (.val 0)), (o0 70 (.nilCheck 69)), (o0 71 (.fieldAddr 1 70)), (o1 72 (.load none 71)), (o1 73 (.load (some 14) 10)), (o2 74 (.call (.func 44) [68, 72, 73])), (o0 17 (.val 74))]) (.seq (R [(ov 75 16), (ov 76 17), (o2 77 (.lit 27 2 [(.slice none 0 0), (.slice none 0 0)] [(0, (1, 75)), (1, (1, 76))])), (o2 78 (.call (.func 83) [77])), (ov 18 78)]) (.seq (.seq (R [(ov 79 5), (o2 80 (.un .not 79))]) (.cond 80 (.seq (R [(ov 81 16), (ov 82 15), (ov 15 81), (ov 16 82)]) (R [(ov 83 17), (ov 84 16), (o2 85 (.lit 27 2 [(.slice none 0 0), (.slice none 0 0)] [(0, (1, 83)), (1, (1, 84))])), (o2 86 (.call (.func 83) [85])), (ov 18 86)])) .skip)) (.seq (R [(o2 19 (.val (.const (.slice none 0 0))))]) (.seq (.seq (R [(ov 87 15), (o2 88 (.len 1 87)), (o2 89 (.val (ci 0)))]) (.block 0 (.loop h0))) h1))))))
def grid_Grid_scroll_c1 : MCode := grid_Grid_scroll_c1_ grid_Grid_scroll_l3 grid_Grid_scroll_c2
def grid_Grid_scroll_c0_ (h0 : MCode) : MCode := (.seq (R [(ov 41 0), (o2 42 (.nilCheck 41)), (o2 43 (.fieldAddr 0 42)), (o2 44 (.load none 43)), (ov 45 1), (ov 46 2), (o2 47 (.bin .add 0 [] 46 (ci 1))), (ov 48 2), (o2 49 (.bin .add 0 [] 48 (ci 1))), (o2 50 (.sliceL 1 44 (some 45) (some 47) (some 49))), (ov 13 50)]) (.seq (R [(ov 51 3), (ov 52 13), (o2 53 (.len 1 52)), (o2 54 (.minmax false 51 [53])), (ov 3 54)]) (.seq (R [(ov 55 3), (ov 14 55)]) (.seq (.seq (R [(ov 56 5), (o2 57 (.un .not 56))]) (.cond 57 (R [(ov 58 13), (o2 59 (.len 1 58)), (ov 60 3), (o2 61 (.bin .sub 0 [] 59 60)), (ov 14 61)]) .skip)) h0))))
def grid_Grid_scroll_c0 : MCode := grid_Grid_scroll_c0_ grid_Grid_scroll_c1
def mf57_b (h0 : MCode) : MCode := (.seq (R [(o2 10 (.box 42 4)), (o2 12 (.val (.const (.slice none 0 0))))]) (.seq (.seq (R [(ov 22 0), (ov 23 1), (o2 24 (.call (.func 48) [22, 23])), (o2 25 (.un .not 24)), (ov 26 25), (oF 27 26 (.val 0)), (oF 28 26 (.val 2)), (oF 29 26 (.call (.func 48) [27, 28])), (oF 30 26 (.un .not 29)), (o2 31 (.pick 26 (cb true) 30)), (ov 32 31), (oF 33 32 (.val 1)), (oF 34 32 (.val 2)), (oF 35 32 (.bin .gtr 0 [] 33 34)), (o2 36 (.pick 32 (cb true) 35)), (ov 37 36), (oF 38 37 (.val 3)), (oF 39 37 (.bin .lss 0 [] 38 (ci 1))), (o2 40 (.pick 37 (cb true) 39))]) (.cond 40 (.seq (R [(o2 12 (.val (.const (.slice none 0 0))))]) .ret) .skip)) h0))
def mf57 : MFunc := (MFunc.mk 103 [12] (mf57_b grid_Grid_scroll_c0))
theorem mf57_ok : compF Try.prog idf Try.f57 = some mf57 := by kernel_rfl
def mf59_b  : MCode := (.seq (R [(o2 4 (.box 48 1))]) (.seq (R [(ov 6 0), (o2 7 (.load (some 2) 4)), (o2 8 (.call (.func 46) [6, 7]))]) (.cond 8 (.region true [(o0 9 (.val 0)), (o0 10 (.nilCheck 9)), (o0 11 (.fieldAddr 0 10)), (o1 12 (.load none 11)), (o0 13 (.fieldAddr 0 4)), (o1 14 (.load none 13)), (o0 15 (.val 2)), (o0 16 (.val 0)), (o0 17 (.nilCheck 16)), (o0 18 (.fieldAddr 0 17)), (o1 19 (.load none 18)), (o0 20 (.fieldAddr 0 4)), (o1 21 (.load none 20)), (o0 22 (.addrL 1 19 21)), (o1 23 (.load none 22)), (o0 24 (.fieldAddr 1 4)), (o1 25 (.load none 24)), (o1 26 (.call 15 [23, 25])), (o0 27 (.addrL 1 12 14)), (on (.store 1 27 26))]) .skip)))
def mf59 : MFunc := (MFunc.mk 28 [] mf59_b)
theorem mf59_ok : compF Try.prog idf Try.f59 = some mf59 := by kernel_rfl
def mf60_b  : MCode := (.seq (R [(o2 3 (.box 109 0)), (o2 6 (.val (.const (.slice none 0 0))))]) (.seq (R [(ov 7 1), (ov 8 2), (o2 9 (.fieldAddr 0 3)), (o2 10 (.load (some 14) 9)), (o2 11 (.fieldAddr 14 3)), (o2 12 (.load none 11)), (o2 13 (.call (.func 84) [7, 8, 10, 12])), (ov 6 13)]) .ret))
def mf60 : MFunc := (MFunc.mk 14 [6] mf60_b)
theorem mf60_ok : compF Try.prog idf Try.f60 = some mf60 := by kernel_rfl
def strings_Join_l3 : MCode := (.seq (R [(o2 42 (.bin .lss 0 [] 41 40))]) (.seq (.cond 42 .skip (.exit 1)) (.seq (.block 2 (.seq (R [(o2 43 (.addrL 1 39 41)), (o2 44 (.load none 43)), (ov 7 44)]) (.seq (.seq (R [(ov 45 7), (o2 46 (.len 0 45)), (ov 47 5), (o2 48 (.bin .sub 0 [] (ci 9223372036854775807) 47)), (o2 49 (.bin .gtr 0 [] 46 48))]) (.cond 49 (R [(o2 50 (.mkIface 9 (.const (.string (bs [115, 116, 114, 105, 110, 103, 115, 58, 32, 74, 111, 105, 110, 32, 111, 117, 116, 112, 117, 116, 32, 108, 101, 110, 103, 116, 104, 32, 111, 118, 101, 114, 102, 108, 111, 119]))))), (on .never)]) .skip)) (R [(ov 51 5), (ov 52 7), (o2 53 (.len 0 52)), (o2 54 (.bin .add 0 [] 51 53)), (ov 5 54)])))) (R [(o2 55 (.bin .add 0 [] 41 (ci 1))), (ov 41 55)]))))
def strings_Join_l5 : MCode := (.seq (R [(o2 66 (.bin .lss 0 [] 65 64))]) (.seq (.cond 66 .skip (.exit 3)) (.seq (.block 4 (.seq (R [(o2 67 (.addrL 1 63 65)), (o2 68 (.load none 67)), (ov 10 68)]) (.seq (R [(ov 69 1), (o2 70 (.call (.func 86) [8, 69]))]) (R [(ov 71 10), (o2 72 (.call (.func 86) [8, 71]))])))) (R [(o2 73 (.bin .add 0 [] 65 (ci 1))), (ov 65 73)]))))
def strings_Join_c4 : MCode := (.seq (R [(o2 74 (.call (.func 75) [8])), (ov 4 74)]) .ret)
def strings_Join_c2_ (h0 h1 : MCode) : MCode := (.seq (R [(o2 8 (.box 126 (.const (.agg #[(.pointer none), (.slice none 0 0)]))))]) (.seq (R [(ov 56 5), (o2 57 (.call (.func 85) [8, 56]))]) (.seq (R [(ov 58 0), (o2 59 (.addrL 1 58 (ci 0))), (o2 60 (.load none 59)), (o2 61 (.call (.func 86) [8, 60]))]) (.seq (.seq (R [(ov 62 0), (o2 63 (.sliceL 1 62 (some (ci 1)) none none)), (o2 64 (.len 1 63)), (o2 65 (.val (ci 0)))]) (.block 3 (.loop h0))) h1))))
def strings_Join_c2 : MCode := strings_Join_c2_ strings_Join_l5 strings_Join_c4
def strings_Join_c1_ (h0 h1 : MCode) : MCode := (.seq (.seq (R [(ov 39 0), (o2 40 (.len 1 39)), (o2 41 (.val (ci 0)))]) (.block 1 (.loop h0))) h1)
def strings_Join_c1 : MCode := strings_Join_c1_ strings_Join_l3 strings_Join_c2
def strings_Join_c0_ (h0 : MCode) : MCode := (.seq (R [(o2 5 (.val (ci 0)))]) (.seq (.seq (R [(ov 20 1), (o2 21 (.len 0 20)), (o2 22 (.bin .gtr 0 [] 21 (ci 0)))]) (.cond 22 (.seq (.seq (R [(ov 23 1), (o2 24 (.len 0 23)), (ov 25 0), (o2 26 (.len 1 25)), (o2 27 (.bin .sub 0 [] 26 (ci 1))), (o2 28 (.bin .quo 0 [] (ci 9223372036854775807) 27)), (o2 29 (.bin .geq 0 [] 24 28))]) (.cond 29 (R [(o2 30 (.mkIface 9 (.const (.string (bs [115, 116, 114, 105, 110, 103, 115, 58, 32, 74, 111, 105, 110, 32, 111, 117, 116, 112, 117, 116, 32, 108, 101, 110, 103, 116, 104, 32, 111, 118, 101, 114, 102, 108, 111, 119]))))), (on .never)]) .skip)) (R [(ov 31 5), (ov 32 1), (o2 33 (.len 0 32)), (ov 34 0), (o2 35 (.len 1 34)), (o2 36 (.bin .sub 0 [] 35 (ci 1))), (o2 37 (.bin .mul 0 [] 33 36)), (o2 38 (.bin .add 0 [] 31 37)), (ov 5 38)])) .skip)) h0))
def strings_Join_c0 : MCode := strings_Join_c0_ strings_Join_c1
def mf61_b (h0 : MCode) : MCode := (.seq (R [(o2 4 (.val (.const (.string (bs [])))))]) (.seq (.seq (R [(ov 11 0), (o2 12 (.len 1 11))]) (.block 0 (.seq (R [(o2 14 (.bin .eql 0 [] 12 (ci 0))), (ov 13 14)]) (.cond 13 (.seq (R [(o2 4 (.val (.const (.string (bs [])))))]) .ret) (.seq (R [(o2 16 (.bin .eql 0 [] 12 (ci 1))), (ov 15 16)]) (.cond 15 (.seq (R [(ov 17 0), (o2 18 (.addrL 1 17 (ci 0))), (o2 19 (.load none 18)), (ov 4 19)]) .ret) .skip)))))) h0))
def mf61 : MFunc := (MFunc.mk 75 [4] (mf61_b strings_Join_c0))
theorem mf61_ok : compF Try.prog idf Try.f61 = some mf61 := by kernel_rfl
def mf62_b  : MCode := (.seq (R [(o2 1 (.box 31 0)), (o2 2 (.val (.const .nilFunc)))]) (.seq (R [(o2 3 (.mkFunc (.func 87) [] [1])), (ov 2 3)]) .ret))
def mf62 : MFunc := (MFunc.mk 4 [2] mf62_b)
theorem mf62_ok : compF Try.prog idf Try.f62 = some mf62 := by kernel_rfl
def mf63_b  : MCode := (.seq (R [(o2 5 (.box 42 2)), (o2 6 (.val (.const (.slice none 0 0))))]) (.seq (R [(ov 7 1), (o2 8 (.minmax true (ci 0) [7])), (ov 1 8)]) (.seq (R [(ov 9 0), (ov 10 1), (o2 11 (.lit 3 1 [(.int .i64 0)] [(0, (1, 10))])), (o2 12 (.call (.func 88) [9, 11])), (ov 0 12)]) (.seq (.region true [(o0 13 (.val 0)), (o0 14 (.val 1)), (o0 15 (.val 0)), (o0 16 (.len 1 15)), (o0 17 (.minmax false 14 [16])), (o0 18 (.sliceL 14 13 none (some 17) none)), (o0 19 (.val 1)), (o0 20 (.val 0)), (o0 21 (.len 1 20)), (o0 22 (.bin .sub 0 [] 19 21)), (o2 23 (.load (some 14) 5)), (o2 24 (.call (.func 29) [22, 23])), (o2 25 (.lit 26 2 [(.slice none 0 0), (.slice none 0 0)] [(0, (1, 18)), (1, (1, 24))])), (o2 26 (.call (.func 89) [25])), (o0 6 (.val 26))]) .ret))))
def mf63 : MFunc := (MFunc.mk 27 [6] mf63_b)
theorem mf63_ok : compF Try.prog idf Try.f63 = some mf63 := by kernel_rfl
def row_Raise_l1 : MCode := (.seq (R [(o2 11 (.bin .lss 0 [] 10 9))]) (.seq (.cond 11 .skip (.exit 0)) (.seq (.block 1 (.seq (R [(ov 12 10), (ov 5 12)]) (R [(ov 13 0), (ov 14 5), (ov 15 0), (ov 16 5), (o2 17 (.addrL 14 15 16)), (o2 18 (.fieldAddr 13 17)), (o2 19 (.load none 18)), (ov 20 1), (o2 21 (.lit 40 2 [(.int .u8 0), (.int .u8 0)] [(0, (1, 19)), (1, (1, 20))])), (o2 22 (.call (.func 91) [21])), (o2 23 (.addrL 14 13 14)), (o2 24 (.fieldAddr 13 23)), (on (.store 1 24 22))]))) (R [(o2 25 (.bin .add 0 [] 10 (ci 1))), (ov 10 25)]))))
def row_Raise_c0 : MCode := (.seq (R [(ov 26 0), (ov 4 26)]) .ret)
def mf64_b (h0 h1 : MCode) : MCode := (.seq (R [(o2 4 (.val (.const (.slice none 0 0))))]) (.seq (R [(ov 6 0), (o2 7 (.call (.func 90) [6])), (ov 0 7)]) (.seq (.seq (R [(ov 8 0), (o2 9 (.len 1 8)), (o2 10 (.val (ci 0)))]) (.block 0 (.loop h0))) h1)))
def mf64 : MFunc := (MFunc.mk 27 [4] (mf64_b row_Raise_l1 row_Raise_c0))
theorem mf64_ok : compF Try.prog idf Try.f64 = some mf64 := by kernel_rfl
def mf65_b  : MCode := (.seq (R [(o2 7 (.box 42 3)), (o2 8 (.val (.const (.slice none 0 0))))]) (.seq (R [(ov 9 1), (ov 10 0), (o2 11 (.call (.func 92) [9, 10])), (ov 12 2), (ov 13 0), (o2 14 (.call (.func 92) [12, 13])), (ov 1 11), (ov 2 14)]) (.seq (.seq (R [(ov 15 2), (ov 16 1), (o2 17 (.bin .leq 0 [] 15 16))]) (.cond 17 (.seq (R [(ov 18 0), (o2 19 (.call (.func 90) [18])), (ov 8 19)]) .ret) .skip)) (.seq (R [(ov 20 0), (ov 21 1), (ov 22 2), (o2 23 (.lit 3 2 [(.int .i64 0), (.int .i64 0)] [(0, (1, 21)), (1, (1, 22))])), (o2 24 (.call (.func 88) [20, 23])), (ov 0 24)]) (.seq (.region true [(o0 25 (.val 0)), (o0 26 (.val 1)), (o0 27 (.sliceL 14 25 none (some 26) none)), (o0 28 (.val 2)), (o0 29 (.val 1)), (o0 30 (.bin .sub 0 [] 28 29)), (o2 31 (.load (some 14) 7)), (o2 32 (.call (.func 29) [30, 31])), (o0 33 (.val 0)), (o0 34 (.val 2)), (o0 35 (.sliceL 14 33 (some 34) none none)), (o2 36 (.lit 26 3 [(.slice none 0 0), (.slice none 0 0), (.slice none 0 0)] [(0, (1, 27)), (1, (1, 32)), (2, (1, 35))])), (o2 37 (.call (.func 89) [36])), (o0 8 (.val 37))]) .ret)))))
def mf65 : MFunc := (MFunc.mk 38 [8] mf65_b)
theorem mf65_ok : compF Try.prog idf Try.f65 = some mf65 := by kernel_rfl
def row_Level_l1 : MCode := (.seq (.seq (R [(ov 15 7), (ov 16 2), (o2 17 (.bin .lss 0 [] 15 16))]) (.cond 17 .skip (.exit 0))) (.seq (.block 1 (R [(ov 20 6), (ov 21 0), (ov 22 7), (o2 23 (.addrL 14 21 22)), (o2 24 (.fieldAddr 13 23)), (o2 25 (.load none 24)), (o2 26 (.lit 40 2 [(.int .u8 0), (.int .u8 0)] [(0, (1, 20)), (1, (1, 25))])), (o2 27 (.call (.func 91) [26])), (ov 6 27)])) (R [(ov 18 7), (o2 19 (.bin .add 0 [] 18 (ci 1))), (ov 7 19)])))
def row_Level_c0 : MCode := (.seq (R [(ov 28 6), (ov 6 28)]) .ret)
def mf66_b (h0 h1 : MCode) : MCode := (.seq (R [(o2 6 (.val (.const (.int .u8 0))))]) (.seq (R [(ov 8 1), (ov 9 0), (o2 10 (.call (.func 92) [8, 9])), (ov 11 2), (ov 12 0), (o2 13 (.call (.func 92) [11, 12])), (ov 1 10), (ov 2 13)]) (.seq (.seq (R [(ov 14 1), (ov 7 14)]) (.block 0 (.loop h0))) h1)))
def mf66 : MFunc := (MFunc.mk 29 [6] (mf66_b row_Level_l1 row_Level_c0))
theorem mf66_ok : compF Try.prog idf Try.f66 = some mf66 := by kernel_rfl
def slices_EqualFunc__api_Cell___api_Cell__api_Cell__api_Cell_l1 : MCode := (.seq (R [(o2 18 (.bin .lss 0 [] 17 16))]) (.seq (.cond 18 .skip (.exit 0)) (.seq (.block 1 (.seq (R [(ov 19 17), (o2 20 (.addrL 1 15 17)), (o2 21 (.load none 20)), (ov 7 19), (ov 8 21)]) (.seq (R [(ov 22 1), (ov 23 7), (o2 24 (.addrL 1 22 23)), (o2 25 (.load none 24)), (ov 9 25)]) (.seq (R [(ov 26 2), (ov 27 8), (ov 28 9), (o2 29 (.call 26 [27, 28])), (o2 30 (.un .not 29))]) (.cond 30 (.seq (R [(o2 6 (.val (cb false)))]) .ret) .skip))))) (R [(o2 31 (.bin .add 0 [] 17 (ci 1))), (ov 17 31)]))))
def slices_EqualFunc__api_Cell___api_Cell__api_Cell__api_Cell_c0 : MCode := (.seq (R [(o2 6 (.val (cb true)))]) .ret)
def mf67_b (h0 h1 : MCode) : MCode := (.seq (R [(o2 6 (.val (cb false)))]) (.seq (.seq (R [(ov 10 0), (o2 11 (.len 1 10)), (ov 12 1), (o2 13 (.len 1 12)), (o2 14 (.bin .neq 0 [] 11 13))]) (.cond 14 (.seq (R [(o2 6 (.val (cb false)))]) .ret) .skip)) (.seq (.seq (R [(ov 15 0), (o2 16 (.len 1 15)), (o2 17 (.val (ci 0)))]) (.block 0 (.loop h0))) h1)))
def mf67 : MFunc := (MFunc.mk 32 [6] (mf67_b slices_EqualFunc__api_Cell___api_Cell__api_Cell__api_Cell_l1 slices_EqualFunc__api_Cell___api_Cell__api_Cell__api_Cell_c0))
theorem mf67_ok : compF Try.prog idf Try.f67 = some mf67 := by kernel_rfl
def mf68_b  : MCode := (.seq (R [(o2 4 (.val (cb false)))]) (.seq (R [(ov 5 0), (ov 6 1), (o2 7 (.call (.func 69) [5, 6])), (ov 4 7)]) .ret))
def mf68 : MFunc := (MFunc.mk 8 [4] mf68_b)
theorem mf68_ok : compF Try.prog idf Try.f68 = some mf68 := by kernel_rfl
def slices_Equal_api_Cell_api_Cell_l1 : MCode := (.seq (R [(o2 14 (.bin .lss 0 [] 13 12))]) (.seq (.cond 14 .skip (.exit 0)) (.seq (.block 1 (.seq (R [(ov 15 13), (ov 5 15)]) (.seq (.region true [(o0 16 (.val 0)), (o0 17 (.val 5)), (o0 18 (.addrL 14 16 17)), (o1 19 (.load (some 14) 18)), (o0 20 (.val 1)), (o0 21 (.val 5)), (o0 22 (.addrL 14 20 21)), (o1 23 (.load (some 14) 22)), (o0 24 (.bin .neq 2 [0, 0, 0, 0, 0, 0, 0, 0, 0, 0, 0, 0, 0, 0] 19 23))]) (.cond 24 (.seq (R [(o2 4 (.val (cb false)))]) .ret) .skip)))) (R [(o2 25 (.bin .add 0 [] 13 (ci 1))), (ov 13 25)]))))
def slices_Equal_api_Cell_api_Cell_c0 : MCode := (.seq (R [(o2 4 (.val (cb true)))]) .ret)
def mf69_b (h0 h1 : MCode) : MCode := (.seq (R [(o2 4 (.val (cb false)))]) (.seq (.seq (R [(ov 6 0), (o2 7 (.len 1 6)), (ov 8 1), (o2 9 (.len 1 8)), (o2 10 (.bin .neq 0 [] 7 9))]) (.cond 10 (.seq (R [(o2 4 (.val (cb false)))]) .ret) .skip)) (.seq (.seq (R [(ov 11 0), (o2 12 (.len 1 11)), (o2 13 (.val (ci 0)))]) (.block 0 (.loop h0))) h1)))
def mf69 : MFunc := (MFunc.mk 26 [4] (mf69_b slices_Equal_api_Cell_api_Cell_l1 slices_Equal_api_Cell_api_Cell_c0))
theorem mf69_ok : compF Try.prog idf Try.f69 = some mf69 := by kernel_rfl
def mf70_b  : MCode := (.seq (R [(o2 1 (.box 42 0)), (o2 2 (.box 42 (.const (.agg ZA))))]) (.seq (R [(o2 3 (.fieldAddr 4 1)), (o2 4 (.load (some 9) 3)), (o2 5 (.fieldAddr 13 1)), (o2 6 (.load none 5)), (o2 7 (.build ZL [(3, (1, (.const (.int .u8 2)))), (4, (9, 4)), (13, (1, 6))])), (on (.store 14 2 7))]) .ret))
def mf70 : MFunc := (MFunc.mk 8 [(.cell 2 (some 14))] mf70_b)
theorem mf70_ok : compF Try.prog idf Try.f70 = some mf70 := by kernel_rfl
def mf73_b  : MCode := (.seq (R [(o2 4 (.val (.const .nilIface)))]) (.seq (R [(ov 5 0), (o2 6 (.call (.func 94) [5]))]) (.seq (R [(ov 7 0), (ov 8 0), (o2 9 (.nilCheck 8)), (o2 10 (.fieldAddr 1 9)), (o2 11 (.load none 10)), (ov 12 1), (o2 13 (.lit 5 1 [(.int .u8 0)] [(0, (1, 12))])), (o2 14 (.append 5 1 1 false 11 13)), (o2 15 (.nilCheck 7)), (o2 16 (.fieldAddr 1 15)), (on (.store 1 16 14))]) (.seq (R [(o2 4 (.val (.const .nilIface)))]) .ret))))
def mf73 : MFunc := (MFunc.mk 17 [4] mf73_b)
theorem mf73_ok : compF Try.prog idf Try.f73 = some mf73 := by kernel_rfl
def mf74_b  : MCode := (.seq (R [(o2 4 (.val (ci 0))), (o2 5 (.val (.const .nilIface)))]) (.seq (R [(ov 7 0), (o2 8 (.call (.func 94) [7]))]) (.seq (R [(ov 9 0), (o2 10 (.nilCheck 9)), (o2 11 (.fieldAddr 1 10)), (o2 12 (.load none 11)), (o2 13 (.len 1 12)), (ov 6 13)]) (.seq (R [(ov 14 0), (ov 15 0), (o2 16 (.nilCheck 15)), (o2 17 (.fieldAddr 1 16)), (o2 18 (.load none 17)), (ov 19 1), (o2 20 (.call (.func 95) [18, 19])), (o2 21 (.nilCheck 14)), (o2 22 (.fieldAddr 1 21)), (on (.store 1 22 20))]) (.seq (R [(ov 23 0), (o2 24 (.nilCheck 23)), (o2 25 (.fieldAddr 1 24)), (o2 26 (.load none 25)), (o2 27 (.len 1 26)), (ov 28 6), (o2 29 (.bin .sub 0 [] 27 28)), (ov 4 29), (o2 5 (.val (.const .nilIface)))]) .ret)))))
def mf74 : MFunc := (MFunc.mk 30 [4, 5] mf74_b)
theorem mf74_ok : compF Try.prog idf Try.f74 = some mf74 := by kernel_rfl
def mf75_b  : MCode := (.seq (R [(o2 2 (.val (.const (.string (bs [])))))]) (.seq (.region true [(o0 3 (.val 0)), (o0 4 (.nilCheck 3)), (o0 5 (.fieldAddr 1 4)), (o1 6 (.load none 5)), (o1 7 (.sliceData 6)), (o0 8 (.val 0)), (o0 9 (.nilCheck 8)), (o0 10 (.fieldAddr 1 9)), (o1 11 (.load none 10)), (o0 12 (.len 1 11)), (o2 13 (.uString 5 7 12)), (o0 2 (.val 13))]) .ret))
def mf75 : MFunc := (MFunc.mk 14 [2] mf75_b)
theorem mf75_ok : compF Try.prog idf Try.f75 = some mf75 := by kernel_rfl
def slices_Concat__api_Cell__api_Cell_l1 : MCode := (.seq (R [(o2 12 (.bin .lss 0 [] 11 10))]) (.seq (.cond 12 .skip (.exit 0)) (.seq (.block 1 (.seq (R [(o2 13 (.addrL 1 9 11)), (o2 14 (.load none 13)), (ov 5 14)]) (.seq (R [(ov 15 3), (ov 16 5), (o2 17 (.len 1 16)), (o2 18 (.bin .add 0 [] 15 17)), (ov 3 18)]) (.seq (R [(ov 19 3), (o2 20 (.bin .lss 0 [] 19 (ci 0)))]) (.cond 20 (R [(o2 21 (.mkIface 9 (.const (.string (bs [108, 101, 110, 32, 111, 117, 116, 32, 111, 102, 32, 114, 97, 110, 103, 101]))))), (on .never)]) .skip))))) (R [(o2 22 (.bin .add 0 [] 11 (ci 1))), (ov 11 22)]))))
def slices_Concat__api_Cell__api_Cell_l3 : MCode := (.seq (R [(o2 28 (.bin .lss 0 [] 27 26))]) (.seq (.cond 28 .skip (.exit 2)) (.seq (.block 3 (.seq (R [(o2 29 (.addrL 1 25 27)), (o2 30 (.load none 29)), (ov 8 30)]) (R [(ov 31 6), (ov 32 8), (o2 33 (.append 26 24 1 false 31 32)), (ov 6 33)]))) (R [(o2 34 (.bin .add 0 [] 27 (ci 1))), (ov 27 34)]))))
def slices_Concat__api_Cell__api_Cell_c2 : MCode := (.seq (R [(ov 35 6), (ov 2 35)]) .ret)
def slices_Concat__api_Cell__api_Cell_c0_ (h0 h1 : MCode) : MCode := (.seq (R [(ov 23 3), (o2 24 (.call (.func 96) [(.const (.slice none 0 0)), 23])), (ov 6 24)]) (.seq (.seq (R [(ov 25 0), (o2 26 (.len 1 25)), (o2 27 (.val (ci 0)))]) (.block 2 (.loop h0))) h1))
def slices_Concat__api_Cell__api_Cell_c0 : MCode := slices_Concat__api_Cell__api_Cell_c0_ slices_Concat__api_Cell__api_Cell_l3 slices_Concat__api_Cell__api_Cell_c2
def mf83_b (h0 h1 : MCode) : MCode := (.seq (R [(o2 2 (.val (.const (.slice none 0 0))))]) (.seq (R [(o2 3 (.val (ci 0)))]) (.seq (.seq (R [(ov 9 0), (o2 10 (.len 1 9)), (o2 11 (.val (ci 0)))]) (.block 0 (.loop h0))) h1)))
def mf83 : MFunc := (MFunc.mk 36 [2] (mf83_b slices_Concat__api_Cell__api_Cell_l1 slices_Concat__api_Cell__api_Cell_c0))
theorem mf83_ok : compF Try.prog idf Try.f83 = some mf83 := by kernel_rfl
def mf84_b  : MCode := (.seq (R [(o2 6 (.box 42 2)), (o2 8 (.val (.const (.slice none 0 0))))]) (.seq (R [(o2 11 (.fieldAddr 3 6)), (on (.store 1 11 (.const (.int .u8 0))))]) (.seq (R [(o2 12 (.load (some 14) 6)), (o2 13 (.lit 42 1 ZL [(0, (14, 12))])), (ov 9 13)]) (.seq (.seq (R [(ov 14 3)]) (.cond 14 (.seq (R [(ov 15 9), (o2 16 (.addrL 14 15 (ci 0))), (o2 17 (.fieldAddr 3 16)), (on (.store 1 17 (.const (.int .u8 1))))]) (R [(ov 18 9), (o2 19 (.load (some 14) 6)), (o2 20 (.call (.func 70) [19])), (o2 21 (.lit 42 1 ZL [(0, (14, 20))])), (o2 22 (.append 42 28 14 false 18 21)), (ov 9 22)])) .skip)) (.seq (R [(ov 23 1), (ov 24 9), (o2 25 (.len 1 24)), (o2 26 (.bin .add 0 [] 23 25)), (ov 10 26)]) (.seq (.seq (R [(ov 27 1), (o2 28 (.bin .lss 0 [] 27 (ci 0))), (ov 29 28), (oF 30 29 (.val 10)), (oF 31 29 (.val 0)), (oF 32 29 (.len 1 31)), (oF 33 29 (.bin .gtr 0 [] 30 32)), (o2 34 (.pick 29 (cb true) 33))]) (.cond 34 (.seq (R [(ov 35 0), (o2 36 (.call (.func 90) [35])), (ov 8 36)]) .ret) .skip)) (.seq (R [(ov 37 0), (ov 38 1), (ov 39 10), (o2 40 (.lit 3 2 [(.int .i64 0), (.int .i64 0)] [(0, (1, 38)), (1, (1, 39))])), (o2 41 (.call (.func 88) [37, 40])), (ov 0 41)]) (.seq (.region true [(o0 42 (.val 0)), (o0 43 (.val 1)), (o0 44 (.sliceL 14 42 none (some 43) none)), (o0 45 (.val 9)), (o0 46 (.val 0)), (o0 47 (.val 10)), (o0 48 (.sliceL 14 46 (some 47) none none)), (o2 49 (.lit 26 3 [(.slice none 0 0), (.slice none 0 0), (.slice none 0 0)] [(0, (1, 44)), (1, (1, 45)), (2, (1, 48))])), (o2 50 (.call (.func 89) [49])), (o0 8 (.val 50))]) .ret))))))))
def mf84 : MFunc := (MFunc.mk 51 [8] mf84_b)
theorem mf84_ok : compF Try.prog idf Try.f84 = some mf84 := by kernel_rfl
def mf85_b  : MCode := (.seq (R [(ov 4 0), (o2 5 (.call (.func 94) [4]))]) (.seq (.seq (R [(ov 6 1), (o2 7 (.bin .lss 0 [] 6 (ci 0)))]) (.cond 7 (R [(o2 8 (.mkIface 9 (.const (.string (bs [115, 116, 114, 105, 110, 103, 115, 46, 66, 117, 105, 108, 100, 101, 114, 46, 71, 114, 111, 119, 58, 32, 110, 101, 103, 97, 116, 105, 118, 101, 32, 99, 111, 117, 110, 116]))))), (on .never)]) .skip)) (.seq (.region true [(o0 9 (.val 0)), (o0 10 (.nilCheck 9)), (o0 11 (.fieldAddr 1 10)), (o1 12 (.load none 11)), (o0 13 (.cap 12)), (o0 14 (.val 0)), (o0 15 (.nilCheck 14)), (o0 16 (.fieldAddr 1 15)), (o1 17 (.load none 16)), (o0 18 (.len 1 17)), (o0 19 (.bin .sub 0 [] 13 18)), (o0 20 (.val 1)), (o0 21 (.bin .lss 0 [] 19 20))]) (.cond 21 (R [(ov 22 0), (ov 23 1), (o2 24 (.call (.func 97) [22, 23]))]) .skip))))
def mf85 : MFunc := (MFunc.mk 25 [] mf85_b)
theorem mf85_ok : compF Try.prog idf Try.f85 = some mf85 := by kernel_rfl
def mf86_b  : MCode := (.seq (R [(o2 4 (.val (ci 0))), (o2 5 (.val (.const .nilIface)))]) (.seq (R [(ov 6 0), (o2 7 (.call (.func 94) [6]))]) (.seq (R [(ov 8 0), (ov 9 0), (o2 10 (.nilCheck 9)), (o2 11 (.fieldAddr 1 10)), (o2 12 (.load none 11)), (ov 13 1), (o2 14 (.append 5 1 1 true 12 13)), (o2 15 (.nilCheck 8)), (o2 16 (.fieldAddr 1 15)), (on (.store 1 16 14))]) (.seq (R [(ov 17 1), (o2 18 (.len 0 17)), (ov 4 18), (o2 5 (.val (.const .nilIface)))]) .ret))))
def mf86 : MFunc := (MFunc.mk 19 [4, 5] mf86_b)
theorem mf86_ok : compF Try.prog idf Try.f86 = some mf86 := by kernel_rfl
def grid_Grid_all_1_l0 : MCode := (.seq (R [(o2 13 (.bin .lss 0 [] 12 11))]) (.seq (.cond 13 .skip (.exit 0)) (.seq (.block 1 (.seq (R [(ov 14 12), (o2 15 (.addrL 1 10 12)), (o2 16 (.load none 15)), (ov 3 14), (ov 4 16)]) (.seq (R [(ov 17 0), (ov 18 3), (ov 19 4), (o2 20 (.call 17 [18, 19])), (o2 21 (.un .not 20))]) (.cond 21 .ret .skip)))) (R [(o2 22 (.bin .add 0 [] 12 (ci 1))), (ov 12 22)]))))
def mf87_b (h0 : MCode) : MCode := (.seq (.seq (R [(o2 5 (.load none 1)), (o2 6 (.bin .eql 3 [] 5 (.const (.pointer none))))]) (.cond 6 .ret .skip)) (.seq (R [(o2 7 (.load none 1)), (o2 8 (.nilCheck 7)), (o2 9 (.fieldAddr 0 8)), (o2 10 (.load none 9)), (o2 11 (.len 1 10)), (o2 12 (.val (ci 0)))]) (.block 0 (.loop h0))))
def mf87 : MFunc := (MFunc.mk 23 [] (mf87_b grid_Grid_all_1_l0))
theorem mf87_ok : compF Try.prog idf Try.f87 = some mf87 := by kernel_rfl
def row_Break_l1 : MCode := (.seq (R [(o2 14 (.bin .lss 0 [] 13 12))]) (.seq (.cond 14 .skip (.exit 0)) (.seq (.block 1 (.seq (R [(o2 15 (.addrL 1 11 13)), (o2 16 (.load none 15)), (ov 7 16)]) (.seq (R [(ov 17 7), (o2 18 (.load none 2)), (o2 19 (.call (.func 92) [17, 18])), (ov 7 19)]) (.seq (R [(ov 20 7), (o2 21 (.bin .gtr 0 [] 20 (ci 0))), (ov 22 21), (ot 23 22 (.val 7)), (ot 24 22 (.load none 2)), (ot 25 22 (.len 1 24)), (ot 26 22 (.bin .lss 0 [] 23 25)), (o2 27 (.pick 22 26 (cb false))), (ov 28 27), (ot 29 28 (.load none 2)), (ot 30 28 (.val 7)), (ot 31 28 (.bin .sub 0 [] 30 (ci 1))), (ot 32 28 (.addrL 14 29 31)), (ot 33 28 (.fieldAddr 3 32)), (ot 34 28 (.load none 33)), (ot 35 28 (.bin .eql 0 [] 34 (.const (.int .u8 1)))), (o2 36 (.pick 28 35 (cb false))), (ov 37 36), (ot 38 37 (.load none 2)), (ot 39 37 (.val 7)), (ot 40 37 (.addrL 14 38 39)), (ot 41 37 (.fieldAddr 3 40)), (ot 42 37 (.load none 41)), (ot 43 37 (.bin .eql 0 [] 42 (.const (.int .u8 2)))), (o2 44 (.pick 37 43 (cb false)))]) (.cond 44 (.seq (R [(ov 45 5), (ov 46 7), (o2 47 (.bin .sub 0 [] 46 (ci 1))), (o2 48 (.call 45 [47]))]) (R [(ov 49 5), (ov 50 7), (o2 51 (.call 49 [50]))])) .skip))))) (R [(o2 52 (.bin .add 0 [] 13 (ci 1))), (ov 13 52)]))))
def row_Break_c0 : MCode := (.seq (R [(o2 53 (.load none 2)), (ov 4 53)]) .ret)
def mf88_b (h0 h1 : MCode) : MCode := (.seq (R [(o2 2 (.box 26 0)), (o2 4 (.val (.const (.slice none 0 0))))]) (.seq (R [(o2 8 (.load none 2)), (o2 9 (.call (.func 90) [8])), (on (.store 1 2 9))]) (.seq (R [(o2 10 (.mkFunc (.func 98) [] [2])), (ov 5 10)]) (.seq (.seq (R [(ov 11 1), (o2 12 (.len 1 11)), (o2 13 (.val (ci 0)))]) (.block 0 (.loop h0))) h1))))
def mf88 : MFunc := (MFunc.mk 54 [4] (mf88_b row_Break_l1 row_Break_c0))
theorem mf88_ok : compF Try.prog idf Try.f88 = some mf88 := by kernel_rfl
def row_joint_l1 : MCode := (.seq (R [(o2 10 (.bin .lss 0 [] 9 8))]) (.seq (.cond 10 .skip (.exit 0)) (.seq (.block 1 (.seq (R [(o2 11 (.addrL 1 7 9)), (o2 12 (.load none 11)), (ov 5 12)]) (R [(ov 13 3), (ov 14 5), (o2 15 (.append 42 28 14 false 13 14)), (ov 3 15)]))) (R [(o2 16 (.bin .add 0 [] 9 (ci 1))), (ov 9 16)]))))
def row_joint_c0 : MCode := (.seq (R [(ov 17 3), (ov 2 17)]) .ret)
def mf89_b (h0 h1 : MCode) : MCode := (.seq (R [(o2 2 (.val (.const (.slice none 0 0))))]) (.seq (R [(o2 6 (.lit 42 0 [] [])), (ov 3 6)]) (.seq (.seq (R [(ov 7 0), (o2 8 (.len 1 7)), (o2 9 (.val (ci 0)))]) (.block 0 (.loop h0))) h1)))
def mf89 : MFunc := (MFunc.mk 18 [2] (mf89_b row_joint_l1 row_joint_c0))
theorem mf89_ok : compF Try.prog idf Try.f89 = some mf89 := by kernel_rfl
def mf90_b  : MCode := (.seq (R [(o2 2 (.val (.const (.slice none 0 0))))]) (.seq (R [(ov 4 0), (o2 5 (.len 1 4)), (o2 6 (.mkSlice 42 28 ZL 5 5)), (ov 3 6)]) (.seq (R [(ov 7 3), (ov 8 0), (o2 9 (.copy 14 7 8))]) (.seq (R [(ov 10 3), (ov 2 10)]) .ret))))
def mf90 : MFunc := (MFunc.mk 11 [2] mf90_b)
theorem mf90_ok : compF Try.prog idf Try.f90 = some mf90 := by kernel_rfl
def mf91_b  : MCode := (.seq (R [(o2 2 (.val (.const (.int .u8 0))))]) (.seq (R [(ov 3 0), (o2 4 (.call (.func 100) [3, (.func 101)])), (o2 5 (.call (.func 99) [4, (.const (.int .u8 1)), (.const (.int .u8 0))])), (ov 2 5)]) .ret))
def mf91 : MFunc := (MFunc.mk 6 [2] mf91_b)
theorem mf91_ok : compF Try.prog idf Try.f91 = some mf91 := by kernel_rfl
def mf92_b  : MCode := (.seq (R [(o2 4 (.val (ci 0)))]) (.seq (R [(ov 5 0), (ov 6 1), (o2 7 (.len 1 6)), (o2 8 (.minmax false 5 [7])), (o2 9 (.minmax true (ci 0) [8])), (ov 4 9)]) .ret))
def mf92 : MFunc := (MFunc.mk 10 [4] mf92_b)
theorem mf92_ok : compF Try.prog idf Try.f92 = some mf92 := by kernel_rfl
def mf94_b  : MCode := (.seq (R [(ov 2 0), (o2 3 (.nilCheck 2)), (o2 4 (.fieldAddr 0 3)), (o2 5 (.load none 4)), (o2 6 (.bin .eql 3 [] 5 (.const (.pointer none))))]) (.cond 6 (R [(ov 7 0), (ov 8 0), (o2 9 (.ptrU 8)), (o2 10 (.ident 9)), (o2 11 (.castP 126 2 10)), (o2 12 (.nilCheck 7)), (o2 13 (.fieldAddr 0 12)), (on (.store 1 13 11))]) (.seq (R [(ov 14 0), (o2 15 (.nilCheck 14)), (o2 16 (.fieldAddr 0 15)), (o2 17 (.load none 16)), (ov 18 0), (o2 19 (.bin .neq 3 [] 17 18))]) (.cond 19 (.cond (.func 0) .skip .skip) .skip))))
def mf94 : MFunc := (MFunc.mk 20 [] mf94_b)
theorem mf94_ok : compF Try.prog idf Try.f94 = some mf94 := by kernel_rfl
def mf95_b  : MCode := (.seq (R [(o2 4 (.val (.const (.slice none 0 0))))]) (.seq (.seq (R [(ov 5 1), (o2 6 (.convI .u32 5)), (o2 7 (.bin .leq 0 [] 6 (.const (.int .u32 127))))]) (.cond 7 (.seq (R [(ov 8 0), (ov 9 1), (o2 10 (.convI .u8 9)), (o2 11 (.lit 5 1 [(.int .u8 0)] [(0, (1, 10))])), (o2 12 (.append 5 1 1 false 8 11)), (ov 4 12)]) .ret) .skip)) (.seq (R [(ov 13 0), (ov 14 1), (o2 15 (.call (.func 105) [13, 14])), (ov 4 15)]) .ret)))
def mf95 : MFunc := (MFunc.mk 16 [4] mf95_b)
theorem mf95_ok : compF Try.prog idf Try.f95 = some mf95 := by kernel_rfl
def mf96_b  : MCode := (.seq (R [(o2 4 (.val (.const (.slice none 0 0))))]) (.seq (.seq (R [(ov 5 1), (o2 6 (.bin .lss 0 [] 5 (ci 0)))]) (.cond 6 (R [(o2 7 (.mkIface 9 (.const (.string (bs [99, 97, 110, 110, 111, 116, 32, 98, 101, 32, 110, 101, 103, 97, 116, 105, 118, 101]))))), (on .never)]) .skip)) (.seq (.seq (R [(ov 8 1), (ov 9 0), (o2 10 (.cap 9)), (ov 11 0), (o2 12 (.len 1 11)), (o2 13 (.bin .sub 0 [] 10 12)), (o2 14 (.bin .sub 0 [] 8 13)), (ov 1 14)]) (.seq (R [(ov 15 1), (o2 16 (.bin .gtr 0 [] 15 (ci 0)))]) (.cond 16 (R [(ov 17 0), (ov 18 0), (o2 19 (.cap 18)), (o2 20 (.sliceL 1 17 none (some 19) none)), (ov 21 1), (o2 22 (.appZ 26 24 1 20 21)), (ov 23 0), (o2 24 (.len 1 23)), (o2 25 (.sliceL 1 22 none (some 24) none)), (ov 0 25)]) .skip))) (.seq (R [(ov 26 0), (ov 4 26)]) .ret))))
def mf96 : MFunc := (MFunc.mk 27 [4] mf96_b)
theorem mf96_ok : compF Try.prog idf Try.f96 = some mf96 := by kernel_rfl
def mf97_b  : MCode := (.seq (.region true [(o0 5 (.val 0)), (o0 6 (.nilCheck 5)), (o0 7 (.fieldAddr 1 6)), (o1 8 (.load none 7)), (o0 9 (.cap 8)), (o0 10 (.bin .mul 0 [] (ci 2) 9)), (o0 11 (.val 1)), (o0 12 (.bin .add 0 [] 10 11)), (o1 13 (.noZero 5 12)), (o0 14 (.val 0)), (o0 15 (.nilCheck 14)), (o0 16 (.fieldAddr 1 15)), (o1 17 (.load none 16)), (o0 18 (.len 1 17)), (o0 19 (.sliceL 1 13 none (some 18) none)), (o0 4 (.val 19))]) (.seq (R [(ov 20 4), (ov 21 0), (o2 22 (.nilCheck 21)), (o2 23 (.fieldAddr 1 22)), (o2 24 (.load none 23)), (o2 25 (.copy 1 20 24))]) (R [(ov 26 0), (ov 27 4), (o2 28 (.nilCheck 26)), (o2 29 (.fieldAddr 1 28)), (on (.store 1 29 27))])))
def mf97 : MFunc := (MFunc.mk 30 [] mf97_b)
theorem mf97_ok : compF Try.prog idf Try.f97 = some mf97 := by kernel_rfl
def mf98_b  : MCode := (.region true [(o1 3 (.load none 1)), (o0 4 (.val 0)), (o1 5 (.load none 1)), (o0 6 (.val 0)), (o0 7 (.addrL 14 5 6)), (o0 8 (.fieldAddr 4 7)), (o1 9 (.load (some 9) 8)), (o1 10 (.load none 1)), (o0 11 (.val 0)), (o0 12 (.addrL 14 10 11)), (o0 13 (.fieldAddr 13 12)), (o1 14 (.load none 13)), (o0 15 (.build ZL [(4, (9, 9)), (13, (1, 14))])), (o0 16 (.addrL 14 3 4)), (on (.store 14 16 15))])
def mf98 : MFunc := (MFunc.mk 17 [] mf98_b)
theorem mf98_ok : compF Try.prog idf Try.f98 = some mf98 := by kernel_rfl
def mf99_b  : MCode := (.seq (R [(o2 6 (.val (.const (.int .u8 0))))]) (.seq (.seq (R [(ov 7 0)]) (.cond 7 (.seq (R [(ov 8 1), (ov 6 8)]) .ret) .skip)) (.seq (R [(ov 9 2), (ov 6 9)]) .ret)))
def mf99 : MFunc := (MFunc.mk 10 [6] mf99_b)
theorem mf99_ok : compF Try.prog idf Try.f99 = some mf99 := by kernel_rfl
def label_some_Level_l1 : MCode := (.seq (R [(o2 10 (.bin .lss 0 [] 9 8))]) (.seq (.cond 10 .skip (.exit 0)) (.seq (.block 1 (.seq (R [(o2 11 (.addrL 1 7 9)), (o2 12 (.load none 11)), (ov 6 12)]) (.seq (R [(ov 13 1), (ov 14 6), (o2 15 (.call 13 [14]))]) (.cond 15 (.seq (R [(o2 4 (.val (cb true)))]) .ret) .skip)))) (R [(o2 16 (.bin .add 0 [] 9 (ci 1))), (ov 9 16)]))))
def label_some_Level_c0 : MCode := (.seq (R [(o2 4 (.val (cb false)))]) .ret)
def mf100_b (h0 h1 : MCode) : MCode := (.seq (R [(o2 4 (.val (cb false)))]) (.seq (.seq (R [(ov 7 0), (o2 8 (.len 1 7)), (o2 9 (.val (ci 0)))]) (.block 0 (.loop h0))) h1))
def mf100 : MFunc := (MFunc.mk 17 [4] (mf100_b label_some_Level_l1 label_some_Level_c0))
theorem mf100_ok : compF Try.prog idf Try.f100 = some mf100 := by kernel_rfl
def mf101_b  : MCode := (.seq (R [(o2 2 (.val (cb false)))]) (.seq (R [(ov 3 0), (o2 4 (.bin .gtr 0 [] 3 (.const (.int .u8 0)))), (ov 2 4)]) .ret))
def mf101 : MFunc := (MFunc.mk 5 [2] mf101_b)
theorem mf101_ok : compF Try.prog idf Try.f101 = some mf101 := by kernel_rfl
def unicode_utf8_appendRuneNonASCII_c1 : MCode := (.cond 50 (.seq (R [(ov 57 0), (ov 58 1), (o2 59 (.bin .shr 0 [] 58 (.const (.int .u64 18)))), (o2 60 (.convI .u8 59)), (o2 61 (.bin .or 0 [] (.const (.int .u8 240)) 60)), (ov 62 1), (o2 63 (.bin .shr 0 [] 62 (.const (.int .u64 12)))), (o2 64 (.convI .u8 63)), (o2 65 (.bin .and 0 [] 64 (.const (.int .u8 63)))), (o2 66 (.bin .or 0 [] (.const (.int .u8 128)) 65)), (ov 67 1), (o2 68 (.bin .shr 0 [] 67 (.const (.int .u64 6)))), (o2 69 (.convI .u8 68)), (o2 70 (.bin .and 0 [] 69 (.const (.int .u8 63)))), (o2 71 (.bin .or 0 [] (.const (.int .u8 128)) 70)), (ov 72 1), (o2 73 (.convI .u8 72)), (o2 74 (.bin .and 0 [] 73 (.const (.int .u8 63)))), (o2 75 (.bin .or 0 [] (.const (.int .u8 128)) 74)), (o2 76 (.lit 5 4 [(.int .u8 0), (.int .u8 0), (.int .u8 0), (.int .u8 0)] [(0, (1, 61)), (1, (1, 66)), (2, (1, 71)), (3, (1, 75))])), (o2 77 (.append 5 1 1 false 57 76)), (ov 4 77)]) .ret) (.seq (R [(ov 8 0), (o2 9 (.lit 5 3 [(.int .u8 0), (.int .u8 0), (.int .u8 0)] [(0, (1, (.const (.int .u8 239)))), (1, (1, (.const (.int .u8 191)))), (2, (1, (.const (.int .u8 189))))])), (o2 10 (.append 5 1 1 false 8 9)), (ov 4 10)]) .ret))
def unicode_utf8_appendRuneNonASCII_c0_ (h0 : MCode) : MCode := (.cond 25 (.seq (R [(ov 34 0), (ov 35 1), (o2 36 (.bin .shr 0 [] 35 (.const (.int .u64 12)))), (o2 37 (.convI .u8 36)), (o2 38 (.bin .or 0 [] (.const (.int .u8 224)) 37)), (ov 39 1), (o2 40 (.bin .shr 0 [] 39 (.const (.int .u64 6)))), (o2 41 (.convI .u8 40)), (o2 42 (.bin .and 0 [] 41 (.const (.int .u8 63)))), (o2 43 (.bin .or 0 [] (.const (.int .u8 128)) 42)), (ov 44 1), (o2 45 (.convI .u8 44)), (o2 46 (.bin .and 0 [] 45 (.const (.int .u8 63)))), (o2 47 (.bin .or 0 [] (.const (.int .u8 128)) 46)), (o2 48 (.lit 5 3 [(.int .u8 0), (.int .u8 0), (.int .u8 0)] [(0, (1, 38)), (1, (1, 43)), (2, (1, 47))])), (o2 49 (.append 5 1 1 false 34 48)), (ov 4 49)]) .ret) (.seq (R [(ov 51 5), (o2 52 (.bin .gtr 0 [] 51 (.const (.int .u32 65535)))), (ov 53 52), (ot 54 53 (.val 5)), (ot 55 53 (.bin .leq 0 [] 54 (.const (.int .u32 1114111)))), (o2 56 (.pick 53 55 (cb false))), (ov 50 56)]) h0))
def unicode_utf8_appendRuneNonASCII_c0 : MCode := unicode_utf8_appendRuneNonASCII_c0_ unicode_utf8_appendRuneNonASCII_c1
def mf105_b (h0 : MCode) : MCode := (.seq (R [(o2 4 (.val (.const (.slice none 0 0))))]) (.seq (R [(ov 6 1), (o2 7 (.convI .u32 6)), (ov 5 7)]) (.block 0 (.seq (R [(ov 12 5), (o2 13 (.bin .leq 0 [] 12 (.const (.int .u32 2047)))), (ov 11 13)]) (.cond 11 (.seq (R [(ov 14 0), (ov 15 1), (o2 16 (.bin .shr 0 [] 15 (.const (.int .u64 6)))), (o2 17 (.convI .u8 16)), (o2 18 (.bin .or 0 [] (.const (.int .u8 192)) 17)), (ov 19 1), (o2 20 (.convI .u8 19)), (o2 21 (.bin .and 0 [] 20 (.const (.int .u8 63)))), (o2 22 (.bin .or 0 [] (.const (.int .u8 128)) 21)), (o2 23 (.lit 5 2 [(.int .u8 0), (.int .u8 0)] [(0, (1, 18)), (1, (1, 22))])), (o2 24 (.append 5 1 1 false 14 23)), (ov 4 24)]) .ret) (.seq (.seq (R [(ov 26 5), (o2 27 (.bin .lss 0 [] 26 (.const (.int .u32 55296)))), (ov 25 27)]) (.cond 25 .skip (R [(ov 28 5), (o2 29 (.bin .lss 0 [] (.const (.int .u32 57343)) 28)), (ov 30 29), (ot 31 30 (.val 5)), (ot 32 30 (.bin .leq 0 [] 31 (.const (.int .u32 65535)))), (o2 33 (.pick 30 32 (cb false))), (ov 25 33)]))) h0))))))
def mf105 : MFunc := (MFunc.mk 78 [4] (mf105_b unicode_utf8_appendRuneNonASCII_c0))
theorem mf105_ok : compF Try.prog idf Try.f105 = some mf105 := by kernel_rfl
def funs : Funs := fun f => if f = 5 then some mf5 else if f = 10 then some mf10 else if f = 15 then some mf15 else if f = 17 then some mf17 else if f = 18 then some mf18 else if f = 19 then some mf19 else if f = 21 then some mf21 else if f = 22 then some mf22 else if f = 27 then some mf27 else if f = 29 then some mf29 else if f = 30 then some mf30 else if f = 31 then some mf31 else if f = 32 then some mf32 else if f = 33 then some mf33 else if f = 34 then some mf34 else if f = 35 then some mf35 else if f = 36 then some mf36 else if f = 37 then some mf37 else if f = 38 then some mf38 else if f = 43 then some mf43 else if f = 44 then some mf44 else if f = 46 then some mf46 else if f = 48 then some mf48 else if f = 49 then some mf49 else if f = 50 then some mf50 else if f = 51 then some mf51 else if f = 52 then some mf52 else if f = 57 then some mf57 else if f = 59 then some mf59 else if f = 60 then some mf60 else if f = 61 then some mf61 else if f = 62 then some mf62 else if f = 63 then some mf63 else if f = 64 then some mf64 else if f = 65 then some mf65 else if f = 66 then some mf66 else if f = 67 then some mf67 else if f = 68 then some mf68 else if f = 69 then some mf69 else if f = 70 then some mf70 else if f = 73 then some mf73 else if f = 74 then some mf74 else if f = 75 then some mf75 else if f = 83 then some mf83 else if f = 84 then some mf84 else if f = 85 then some mf85 else if f = 86 then some mf86 else if f = 87 then some mf87 else if f = 88 then some mf88 else if f = 89 then some mf89 else if f = 90 then some mf90 else if f = 91 then some mf91 else if f = 92 then some mf92 else if f = 94 then some mf94 else if f = 95 then some mf95 else if f = 96 then some mf96 else if f = 97 then some mf97 else if f = 98 then some mf98 else if f = 99 then some mf99 else if f = 100 then some mf100 else if f = 101 then some mf101 else if f = 105 then some mf105 else none
theorem funs_ok : FunsOK Try.prog idf funs := by
  intro f m h
  unfold funs at h
  by_cases e5 : f = 5
  · rw [if_pos e5] at h; subst e5; rw [← Option.some.inj h]; exact ⟨Try.f5, Try.func5, mf5_ok⟩
  rw [if_neg e5] at h
  by_cases e10 : f = 10
  · rw [if_pos e10] at h; subst e10; rw [← Option.some.inj h]; exact ⟨Try.f10, Try.func10, mf10_ok⟩
  rw [if_neg e10] at h
  by_cases e15 : f = 15
  · rw [if_pos e15] at h; subst e15; rw [← Option.some.inj h]; exact ⟨Try.f15, Try.func15, mf15_ok⟩
  rw [if_neg e15] at h
  by_cases e17 : f = 17
  · rw [if_pos e17] at h; subst e17; rw [← Option.some.inj h]; exact ⟨Try.f17, Try.func17, mf17_ok⟩
  rw [if_neg e17] at h
  by_cases e18 : f = 18
  · rw [if_pos e18] at h; subst e18; rw [← Option.some.inj h]; exact ⟨Try.f18, Try.func18, mf18_ok⟩
  rw [if_neg e18] at h
  by_cases e19 : f = 19
  · rw [if_pos e19] at h; subst e19; rw [← Option.some.inj h]; exact ⟨Try.f19, Try.func19, mf19_ok⟩
  rw [if_neg e19] at h
  by_cases e21 : f = 21
  · rw [if_pos e21] at h; subst e21; rw [← Option.some.inj h]; exact ⟨Try.f21, Try.func21, mf21_ok⟩
  rw [if_neg e21] at h
  by_cases e22 : f = 22
  · rw [if_pos e22] at h; subst e22; rw [← Option.some.inj h]; exact ⟨Try.f22, Try.func22, mf22_ok⟩
  rw [if_neg e22] at h
  by_cases e27 : f = 27
  · rw [if_pos e27] at h; subst e27; rw [← Option.some.inj h]; exact ⟨Try.f27, Try.func27, mf27_ok⟩
  rw [if_neg e27] at h
  by_cases e29 : f = 29
  · rw [if_pos e29] at h; subst e29; rw [← Option.some.inj h]; exact ⟨Try.f29, Try.func29, mf29_ok⟩
  rw [if_neg e29] at h
  by_cases e30 : f = 30
  · rw [if_pos e30] at h; subst e30; rw [← Option.some.inj h]; exact ⟨Try.f30, Try.func30, mf30_ok⟩
  rw [if_neg e30] at h
  by_cases e31 : f = 31
  · rw [if_pos e31] at h; subst e31; rw [← Option.some.inj h]; exact ⟨Try.f31, Try.func31, mf31_ok⟩
  rw [if_neg e31] at h
  by_cases e32 : f = 32
  · rw [if_pos e32] at h; subst e32; rw [← Option.some.inj h]; exact ⟨Try.f32, Try.func32, mf32_ok⟩
  rw [if_neg e32] at h
  by_cases e33 : f = 33
  · rw [if_pos e33] at h; subst e33; rw [← Option.some.inj h]; exact ⟨Try.f33, Try.func33, mf33_ok⟩
  rw [if_neg e33] at h
  by_cases e34 : f = 34
  · rw [if_pos e34] at h; subst e34; rw [← Option.some.inj h]; exact ⟨Try.f34, Try.func34, mf34_ok⟩
  rw [if_neg e34] at h
  by_cases e35 : f = 35
  · rw [if_pos e35] at h; subst e35; rw [← Option.some.inj h]; exact ⟨Try.f35, Try.func35, mf35_ok⟩
  rw [if_neg e35] at h
  by_cases e36 : f = 36
  · rw [if_pos e36] at h; subst e36; rw [← Option.some.inj h]; exact ⟨Try.f36, Try.func36, mf36_ok⟩
  rw [if_neg e36] at h
  by_cases e37 : f = 37
  · rw [if_pos e37] at h; subst e37; rw [← Option.some.inj h]; exact ⟨Try.f37, Try.func37, mf37_ok⟩
  rw [if_neg e37] at h
  by_cases e38 : f = 38
  · rw [if_pos e38] at h; subst e38; rw [← Option.some.inj h]; exact ⟨Try.f38, Try.func38, mf38_ok⟩
  rw [if_neg e38] at h
  by_cases e43 : f = 43
  · rw [if_pos e43] at h; subst e43; rw [← Option.some.inj h]; exact ⟨Try.f43, Try.func43, mf43_ok⟩
  rw [if_neg e43] at h
  by_cases e44 : f = 44
  · rw [if_pos e44] at h; subst e44; rw [← Option.some.inj h]; exact ⟨Try.f44, Try.func44, mf44_ok⟩
  rw [if_neg e44] at h
  by_cases e46 : f = 46
  · rw [if_pos e46] at h; subst e46; rw [← Option.some.inj h]; exact ⟨Try.f46, Try.func46, mf46_ok⟩
  rw [if_neg e46] at h
  by_cases e48 : f = 48
  · rw [if_pos e48] at h; subst e48; rw [← Option.some.inj h]; exact ⟨Try.f48, Try.func48, mf48_ok⟩
  rw [if_neg e48] at h
  by_cases e49 : f = 49
  · rw [if_pos e49] at h; subst e49; rw [← Option.some.inj h]; exact ⟨Try.f49, Try.func49, mf49_ok⟩
  rw [if_neg e49] at h
  by_cases e50 : f = 50
  · rw [if_pos e50] at h; subst e50; rw [← Option.some.inj h]; exact ⟨Try.f50, Try.func50, mf50_ok⟩
  rw [if_neg e50] at h
  by_cases e51 : f = 51
  · rw [if_pos e51] at h; subst e51; rw [← Option.some.inj h]; exact ⟨Try.f51, Try.func51, mf51_ok⟩
  rw [if_neg e51] at h
  by_cases e52 : f = 52
  · rw [if_pos e52] at h; subst e52; rw [← Option.some.inj h]; exact ⟨Try.f52, Try.func52, mf52_ok⟩
  rw [if_neg e52] at h
  by_cases e57 : f = 57
  · rw [if_pos e57] at h; subst e57; rw [← Option.some.inj h]; exact ⟨Try.f57, Try.func57, mf57_ok⟩
  rw [if_neg e57] at h
  by_cases e59 : f = 59
  · rw [if_pos e59] at h; subst e59; rw [← Option.some.inj h]; exact ⟨Try.f59, Try.func59, mf59_ok⟩
  rw [if_neg e59] at h
  by_cases e60 : f = 60
  · rw [if_pos e60] at h; subst e60; rw [← Option.some.inj h]; exact ⟨Try.f60, Try.func60, mf60_ok⟩
  rw [if_neg e60] at h
  by_cases e61 : f = 61
  · rw [if_pos e61] at h; subst e61; rw [← Option.some.inj h]; exact ⟨Try.f61, Try.func61, mf61_ok⟩
  rw [if_neg e61] at h
  by_cases e62 : f = 62
  · rw [if_pos e62] at h; subst e62; rw [← Option.some.inj h]; exact ⟨Try.f62, Try.func62, mf62_ok⟩
  rw [if_neg e62] at h
  by_cases e63 : f = 63
  · rw [if_pos e63] at h; subst e63; rw [← Option.some.inj h]; exact ⟨Try.f63, Try.func63, mf63_ok⟩
  rw [if_neg e63] at h
  by_cases e64 : f = 64
  · rw [if_pos e64] at h; subst e64; rw [← Option.some.inj h]; exact ⟨Try.f64, Try.func64, mf64_ok⟩
  rw [if_neg e64] at h
  by_cases e65 : f = 65
  · rw [if_pos e65] at h; subst e65; rw [← Option.some.inj h]; exact ⟨Try.f65, Try.func65, mf65_ok⟩
  rw [if_neg e65] at h
  by_cases e66 : f = 66
  · rw [if_pos e66] at h; subst e66; rw [← Option.some.inj h]; exact ⟨Try.f66, Try.func66, mf66_ok⟩
  rw [if_neg e66] at h
  by_cases e67 : f = 67
  · rw [if_pos e67] at h; subst e67; rw [← Option.some.inj h]; exact ⟨Try.f67, Try.func67, mf67_ok⟩
  rw [if_neg e67] at h
  by_cases e68 : f = 68
  · rw [if_pos e68] at h; subst e68; rw [← Option.some.inj h]; exact ⟨Try.f68, Try.func68, mf68_ok⟩
  rw [if_neg e68] at h
  by_cases e69 : f = 69
  · rw [if_pos e69] at h; subst e69; rw [← Option.some.inj h]; exact ⟨Try.f69, Try.func69, mf69_ok⟩
  rw [if_neg e69] at h
  by_cases e70 : f = 70
  · rw [if_pos e70] at h; subst e70; rw [← Option.some.inj h]; exact ⟨Try.f70, Try.func70, mf70_ok⟩
  rw [if_neg e70] at h
  by_cases e73 : f = 73
  · rw [if_pos e73] at h; subst e73; rw [← Option.some.inj h]; exact ⟨Try.f73, Try.func73, mf73_ok⟩
  rw [if_neg e73] at h
  by_cases e74 : f = 74
  · rw [if_pos e74] at h; subst e74; rw [← Option.some.inj h]; exact ⟨Try.f74, Try.func74, mf74_ok⟩
  rw [if_neg e74] at h
  by_cases e75 : f = 75
  · rw [if_pos e75] at h; subst e75; rw [← Option.some.inj h]; exact ⟨Try.f75, Try.func75, mf75_ok⟩
  rw [if_neg e75] at h
  by_cases e83 : f = 83
  · rw [if_pos e83] at h; subst e83; rw [← Option.some.inj h]; exact ⟨Try.f83, Try.func83, mf83_ok⟩
  rw [if_neg e83] at h
  by_cases e84 : f = 84
  · rw [if_pos e84] at h; subst e84; rw [← Option.some.inj h]; exact ⟨Try.f84, Try.func84, mf84_ok⟩
  rw [if_neg e84] at h
  by_cases e85 : f = 85
  · rw [if_pos e85] at h; subst e85; rw [← Option.some.inj h]; exact ⟨Try.f85, Try.func85, mf85_ok⟩
  rw [if_neg e85] at h
  by_cases e86 : f = 86
  · rw [if_pos e86] at h; subst e86; rw [← Option.some.inj h]; exact ⟨Try.f86, Try.func86, mf86_ok⟩
  rw [if_neg e86] at h
  by_cases e87 : f = 87
  · rw [if_pos e87] at h; subst e87; rw [← Option.some.inj h]; exact ⟨Try.f87, Try.func87, mf87_ok⟩
  rw [if_neg e87] at h
  by_cases e88 : f = 88
  · rw [if_pos e88] at h; subst e88; rw [← Option.some.inj h]; exact ⟨Try.f88, Try.func88, mf88_ok⟩
  rw [if_neg e88] at h
  by_cases e89 : f = 89
  · rw [if_pos e89] at h; subst e89; rw [← Option.some.inj h]; exact ⟨Try.f89, Try.func89, mf89_ok⟩
  rw [if_neg e89] at h
  by_cases e90 : f = 90
  · rw [if_pos e90] at h; subst e90; rw [← Option.some.inj h]; exact ⟨Try.f90, Try.func90, mf90_ok⟩
  rw [if_neg e90] at h
  by_cases e91 : f = 91
  · rw [if_pos e91] at h; subst e91; rw [← Option.some.inj h]; exact ⟨Try.f91, Try.func91, mf91_ok⟩
  rw [if_neg e91] at h
  by_cases e92 : f = 92
  · rw [if_pos e92] at h; subst e92; rw [← Option.some.inj h]; exact ⟨Try.f92, Try.func92, mf92_ok⟩
  rw [if_neg e92] at h
  by_cases e94 : f = 94
  · rw [if_pos e94] at h; subst e94; rw [← Option.some.inj h]; exact ⟨Try.f94, Try.func94, mf94_ok⟩
  rw [if_neg e94] at h
  by_cases e95 : f = 95
  · rw [if_pos e95] at h; subst e95; rw [← Option.some.inj h]; exact ⟨Try.f95, Try.func95, mf95_ok⟩
  rw [if_neg e95] at h
  by_cases e96 : f = 96
  · rw [if_pos e96] at h; subst e96; rw [← Option.some.inj h]; exact ⟨Try.f96, Try.func96, mf96_ok⟩
  rw [if_neg e96] at h
  by_cases e97 : f = 97
  · rw [if_pos e97] at h; subst e97; rw [← Option.some.inj h]; exact ⟨Try.f97, Try.func97, mf97_ok⟩
  rw [if_neg e97] at h
  by_cases e98 : f = 98
  · rw [if_pos e98] at h; subst e98; rw [← Option.some.inj h]; exact ⟨Try.f98, Try.func98, mf98_ok⟩
  rw [if_neg e98] at h
  by_cases e99 : f = 99
  · rw [if_pos e99] at h; subst e99; rw [← Option.some.inj h]; exact ⟨Try.f99, Try.func99, mf99_ok⟩
  rw [if_neg e99] at h
  by_cases e100 : f = 100
  · rw [if_pos e100] at h; subst e100; rw [← Option.some.inj h]; exact ⟨Try.f100, Try.func100, mf100_ok⟩
  rw [if_neg e100] at h
  by_cases e101 : f = 101
  · rw [if_pos e101] at h; subst e101; rw [← Option.some.inj h]; exact ⟨Try.f101, Try.func101, mf101_ok⟩
  rw [if_neg e101] at h
  by_cases e105 : f = 105
  · rw [if_pos e105] at h; subst e105; rw [← Option.some.inj h]; exact ⟨Try.f105, Try.func105, mf105_ok⟩
  rw [if_neg e105] at h
  cases h
theorem idf_ok : IdOK Try.prog idf := by
  intro f h
  have hf : f = 104 ∨ f = 106 := by simpa [idf, or_assoc] using h
  rcases hf with rfl | rfl
  · rw [show noz Try.prog 104 = none from by kernel_rfl]
    intro x w
    rw [run_callFunc_extern (e := Extern.AbiNoEscape.same) Try.func104 (by kernel_rfl) (by kernel_rfl) (by kernel_rfl) (by kernel_rfl)]
    rfl
  · rw [show noz Try.prog 106 = some 5 from by kernel_rfl]
    refine ⟨124, #[3], by kernel_rfl, by kernel_rfl, fun x w => ?_⟩
    exact run_callFunc_extern (e := Extern.BytealgMakeNoZero.makeNoZero #[3] #[124]) Try.func106 (by kernel_rfl) (by kernel_rfl) (by kernel_rfl) (by kernel_rfl) #[x] w
abbrev n_law11_GridKnown : FuncId := 5
abbrev n_grid_New : FuncId := 10
abbrev n_grid_Grid_At : FuncId := 15
abbrev n_grid_Grid_Row : FuncId := 17
abbrev n_grid_Grid_Copy : FuncId := 18
abbrev n_grid_Grid_Set : FuncId := 19
abbrev n_law11_works : FuncId := 21
abbrev n_grid_Grid_Size : FuncId := 22
abbrev n_grid_Grid_Up : FuncId := 27
abbrev n_row_New : FuncId := 29
abbrev n_grid_Grid_Put : FuncId := 31
abbrev n_law11_texts : FuncId := 32
abbrev n_grid_Grid_Resize : FuncId := 33
abbrev n_grid_Grid_Raise : FuncId := 34
abbrev n_grid_Grid_Erase : FuncId := 35
abbrev n_grid_Grid_Level : FuncId := 36
abbrev n_grid_Grid_Text : FuncId := 37
abbrev n_grid_Same : FuncId := 38
abbrev n_grid_may : FuncId := 43
abbrev n_grid_blanks : FuncId := 44
abbrev n_grid_Grid_has : FuncId := 46
abbrev n_grid_Grid_is : FuncId := 48
abbrev n_slices_Clone_api_Cell_api_Cell : FuncId := 49
abbrev n_slices_Clone__api_Cell__api_Cell : FuncId := 50
abbrev n_row_Text : FuncId := 52
abbrev n_grid_Grid_scroll : FuncId := 57
abbrev n_grid_Grid_at : FuncId := 59
abbrev n_grid_stamp_on : FuncId := 60
abbrev n_grid_Grid_all : FuncId := 62
abbrev n_row_Resize : FuncId := 63
abbrev n_row_Raise : FuncId := 64
abbrev n_row_Erase : FuncId := 65
abbrev n_row_Level : FuncId := 66
abbrev n_slices_EqualFunc__api_Cell___api_Cell__api_Cell__api_Cell : FuncId := 67
abbrev n_grid_Same_1 : FuncId := 68
abbrev n_grid_Grid_all_1 : FuncId := 87
abbrev n_row_Break : FuncId := 88
abbrev n_row_joint : FuncId := 89
abbrev n_row_own : FuncId := 90
abbrev n_label_Join : FuncId := 91
abbrev n_row_within : FuncId := 92
abbrev n_row_Break_1 : FuncId := 98
abbrev n_label_which : FuncId := 99
abbrev n_label_some_Level : FuncId := 100
abbrev n_label_Join_1 : FuncId := 101
end Go.Proofs.Ytifemfnjoobiiaa.Run
