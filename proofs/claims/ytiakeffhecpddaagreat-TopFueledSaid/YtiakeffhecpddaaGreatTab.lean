/- The own layer under the proofs of this seat, part Tab: what calls of the program come to on an abstract heap. No condition. -/
import Derived.Test.YtiakeffhecpddaaGreatG
import Derived.Test.YtiakeffhecpddaaGreatChecked
import Derived.KernelRfl
set_option linter.unusedSimpArgs false
set_option linter.unusedVariables false
namespace Go.Proofs.Ab
open Go
def bI : Code → List Nat → Code
 | .seq a b,i :: r => if i = 0 then bI a r else bI b r
 | .cond _ a b,i :: r => if i = 0 then bI a r else bI b r
 | .block _ a,_ :: r => bI a r
 | .loop a,_ :: r => bI a r
 | .scope a,_ :: r => bI a r
 | .rangeFunc _ _ a b,i :: r => if i = 0 then bI a r else bI b r
 | c,_ => c
noncomputable def cI (f : Nat) : Code := ((Tryz.prog.funcs[f]?).bind (·.body)).getD .skip
theorem aI : Tryz.prog.follows .mixedOrders = true := by kernel_rfl
noncomputable section
abbrev o_ (n : Nat) (x : MOp) : MIx := .op (some n) none x
abbrev q_ (n c : Nat) (b : Bool) (x : MOp) : MIx := .op (some n) (some (c,b)) x
abbrev m_ (n : Nat) : MOp := .mov (.t n)
abbrev i_ (n : Int) : Opd := .k (.int .i64 n)
abbrev f_ (n : Nat) : Opd := .k (.fn (.func n) [] [])
abbrev l_ (n : Nat) : MOp := .load (.t n) none
attribute [go_sem] o_ q_ m_ i_ f_ l_
abbrev a_ (n k : Nat) : MOp := .addr (.t n) k
abbrev x_ (e a b : Nat) : MOp := .idxs e (.t a) (.t b)
abbrev p_ (a b : Nat) : MOp := .pick (.t a) (.t b) (.k (.bool false))
abbrev r_ (a b : Nat) : MOp := .pick (.t a) (.k (.bool true)) (.t b)
abbrev b_ (b : Bool) : MOp := .mov (.k (.bool b))
abbrev e_ (n k : Nat) : MOp := .ext (.t n) k
abbrev w_ (n k : Nat) : MOp := .load (.t n) (some k)
abbrev n_ (n : Nat) : MOp := .len (.t n)
abbrev s_ (a b k : Nat) : MIx := .op none none (.store (.t a) (.t b) k)
abbrev c_ (n f : Nat) (l : List Opd) : MIx := .call (some n) none (.k (.fn (.func f) [] [])) l
abbrev d_ (n c : Nat) (b : Bool) (f : Nat) (l : List Opd) : MIx := .call (some n) (some (c,b)) (.k (.fn (.func f) [] [])) l
abbrev v_ (n k : Nat) : MIx := .op (some n) none (.mov (.t k))
abbrev y_ (n k : Nat) : MIx := .op (some n) none (.load (.t k) none)
abbrev z_ (n e a b : Nat) : MIx := .op (some n) none (.idxs e (.t a) (.t b))
abbrev j_ (n k : Nat) : MIx := .op (some n) none (.bin .add (.t k) (.k (.int .i64 1)))
attribute [go_sem] a_ x_ p_ r_ b_ e_ w_ n_ s_ c_ d_ v_ y_ z_ j_
def mf3 : SF := ⟨222,[(.t 10)],
 (.seq (.reg [o_ 5 (.box (.t 0) 10),o_ 8 (.box (.t 3) 1),o_ 10 (b_ false)])
 (.seq (.seq (.reg [o_ 31 (a_ 5 4),y_ 32 31,o_ 33 (n_ 32),o_ 34 (.bin .gtr (.t 33) (i_ 12)),v_ 35 34,q_ 36 35 false (a_ 5 5),q_ 37 35 false (l_ 36),q_ 38 35 false (n_ 37),q_ 39 35 false (.bin .gtr (.t 38) (i_ 8)),o_ 40 (r_ 35 39),v_ 41 40,q_ 42 41 false (a_ 5 9),q_ 43 41 false (l_ 42),q_ 44 41 false (n_ 43),q_ 45 41 false (.bin .gtr (.t 44) (i_ 2)),o_ 46 (r_ 41 45),v_ 47 46,q_ 48 47 false (m_ 1),q_ 49 47 false (n_ 48),q_ 50 47 false (.bin .gtr (.t 49) (i_ 6)),o_ 51 (r_ 47 50),v_ 52 51,q_ 53 52 false (w_ 5 10),d_ 54 52 false 6 [(.t 53)],q_ 55 52 false (.un .not (.t 54)),o_ 56 (r_ 52 55),v_ 57 56,q_ 58 57 false (a_ 5 6),q_ 59 57 false (a_ 58 1),q_ 60 57 false (l_ 59),q_ 61 57 false (.bin .gtr (.t 60) (i_ 400)),o_ 62 (r_ 57 61),v_ 63 62,q_ 64 63 false (m_ 1),q_ 65 63 false (a_ 5 5),q_ 66 63 false (l_ 65),q_ 67 63 false (n_ 66),d_ 68 63 false 7 [(.t 64),(.t 67)],q_ 69 63 false (.un .not (.t 68)),o_ 70 (r_ 63 69),v_ 71 70,q_ 72 71 false (m_ 2),q_ 73 71 false (.bin .lss (.t 72) (i_ 0)),o_ 74 (r_ 71 73),v_ 75 74,q_ 76 75 false (m_ 2),q_ 77 75 false (a_ 5 6),q_ 78 75 false (a_ 77 1),q_ 79 75 false (l_ 78),q_ 80 75 false (.bin .gtr (.t 76) (.t 79)),o_ 81 (r_ 75 80),v_ 82 81,q_ 83 82 false (w_ 8 1),d_ 84 82 false 8 [(.t 83)],q_ 85 82 false (.un .not (.t 84)),o_ 86 (r_ 82 85),v_ 87 86,q_ 88 87 false (m_ 4),d_ 89 87 false 9 [(.t 88)],q_ 90 87 false (.un .not (.t 89)),o_ 91 (r_ 87 90)])
 (.cond (.t 91) (.seq (.reg [c_ 92 10 [],v_ 10 92])
 .ret)
 .skip))
 (.seq (.reg [o_ 94 (w_ 5 10),v_ 95 1,c_ 96 11 [(.t 94),(.t 95)],v_ 93 96,o_ 97 (e_ 93 0),o_ 98 (e_ 93 1),v_ 11 97,v_ 12 98])
 (.seq (.reg [o_ 100 (w_ 8 1),v_ 101 4,c_ 102 12 [(.t 100),(.t 101)],v_ 99 102,o_ 103 (e_ 99 0),o_ 104 (e_ 99 1),v_ 13 103,v_ 14 104])
 (.seq (.seq (.reg [v_ 105 14,o_ 106 (.bin .neq (.t 105) (i_ 0)),v_ 107 106,q_ 108 107 false (m_ 13),q_ 109 107 false (.bin .lss (.t 108) (i_ 0)),o_ 110 (r_ 107 109)])
 (.cond (.t 110) (.seq (.reg [o_ 10 (b_ false)])
 .ret)
 .skip))
 (.seq (.seq (.reg [v_ 111 12,o_ 112 (.bin .neq (.t 111) (i_ 0))])
 (.cond (.t 112) (.seq (.reg [o_ 114 (w_ 5 10),v_ 115 2,v_ 116 2,o_ 117 (.build [(.int .i64 0),(.int .i64 0)] [(0,1,(.t 115)),(1,1,(.t 116))]),v_ 118 1,c_ 119 13 [(.t 114),(.t 117),(.t 118)],v_ 113 119,o_ 120 (e_ 113 0),o_ 121 (e_ 113 1),o_ 122 (e_ 113 2),o_ 123 (e_ 113 3),v_ 15 120,v_ 16 121,v_ 17 122,v_ 18 123])
 (.seq (.reg [v_ 124 12,o_ 125 (.bin .eql (.t 124) (i_ 5)),v_ 126 125,q_ 127 126 true (m_ 18),q_ 128 126 true (.bin .eql (.t 127) (i_ 0)),o_ 129 (p_ 126 128),v_ 130 129,q_ 131 130 true (m_ 15),q_ 132 130 true (.bin .geq (.t 131) (i_ 0)),o_ 133 (p_ 130 132),v_ 134 133,d_ 135 134 true 10 [],o_ 136 (p_ 134 135),v_ 10 136])
 .ret))
 .skip))
 (.seq (.seq (.reg [v_ 137 11,v_ 138 2,o_ 139 (.bin .leq (.t 137) (.t 138))])
 (.cond (.t 139) (.seq (.reg [c_ 140 10 [],v_ 10 140])
 .ret)
 .skip))
 (.seq (.reg [o_ 142 (w_ 8 1),v_ 143 4,v_ 144 11,v_ 145 2,o_ 146 (.bin .sub (.t 144) (.t 145)),c_ 147 14 [(.t 142),(.t 143),(.t 146)],v_ 141 147,o_ 148 (e_ 141 0),o_ 149 (e_ 141 1),o_ 19 (.alloc [.nilS]),s_ 19 148 1,v_ 20 149])
 (.seq (.seq (.reg [v_ 150 13,v_ 151 11,v_ 152 2,o_ 153 (.bin .sub (.t 151) (.t 152)),o_ 154 (.bin .lss (.t 150) (.t 153))])
 (.cond (.t 154) (.seq (.reg [v_ 155 20,o_ 156 (.bin .eql (.t 155) (i_ 5)),v_ 157 156,d_ 158 157 true 10 [],o_ 159 (p_ 157 158),v_ 10 159])
 .ret)
 .skip))
 (.seq (.reg [o_ 161 (w_ 19 1),v_ 162 4,c_ 163 12 [(.t 161),(.t 162)],v_ 160 163,o_ 164 (e_ 160 0),o_ 165 (e_ 160 1),v_ 21 164,v_ 22 165])
 (.seq (.seq (.reg [v_ 166 20,o_ 167 (.bin .neq (.t 166) (i_ 0)),v_ 168 167,q_ 169 168 false (m_ 22),q_ 170 168 false (.bin .neq (.t 169) (i_ 0)),o_ 171 (r_ 168 170),v_ 172 171,q_ 173 172 false (m_ 21),q_ 174 172 false (m_ 13),q_ 175 172 false (m_ 11),q_ 176 172 false (m_ 2),q_ 177 172 false (.bin .sub (.t 175) (.t 176)),q_ 178 172 false (.bin .sub (.t 174) (.t 177)),q_ 179 172 false (.bin .neq (.t 173) (.t 178)),o_ 180 (r_ 172 179)])
 (.cond (.t 180) (.seq (.reg [o_ 10 (b_ false)])
 .ret)
 .skip))
 (.seq (.reg [o_ 182 (w_ 5 10),v_ 183 11,v_ 184 11,o_ 185 (.build [(.int .i64 0),(.int .i64 0)] [(0,1,(.t 183)),(1,1,(.t 184))]),v_ 186 1,c_ 187 13 [(.t 182),(.t 185),(.t 186)],v_ 181 187,o_ 188 (e_ 181 0),o_ 189 (e_ 181 1),o_ 190 (e_ 181 2),o_ 191 (e_ 181 3),v_ 23 188,v_ 24 189,v_ 25 190,v_ 26 191])
 (.seq (.reg [o_ 193 (w_ 5 10),v_ 194 11,o_ 195 (.bin .sub (.t 194) (i_ 1)),v_ 196 11,o_ 197 (.bin .sub (.t 196) (i_ 1)),o_ 198 (.build [(.int .i64 0),(.int .i64 0)] [(0,1,(.t 195)),(1,1,(.t 197))]),v_ 199 1,c_ 200 13 [(.t 193),(.t 198),(.t 199)],v_ 192 200,o_ 201 (e_ 192 0),o_ 202 (e_ 192 1),o_ 203 (e_ 192 2),o_ 204 (e_ 192 3),v_ 27 201,v_ 28 202,v_ 29 203,v_ 30 204])
 (.seq (.reg [v_ 205 26,o_ 206 (.bin .eql (.t 205) (i_ 0)),v_ 207 206,q_ 208 207 true (m_ 30),q_ 209 207 true (.bin .eql (.t 208) (i_ 0)),o_ 210 (p_ 207 209),v_ 211 210,q_ 212 211 true (m_ 23),q_ 213 211 true (.bin .eql (.t 212) (i_ (-1))),o_ 214 (p_ 211 213),v_ 215 214,q_ 216 215 true (m_ 27),q_ 217 215 true (.bin .geq (.t 216) (i_ 0)),o_ 218 (p_ 215 217),v_ 219 218,d_ 220 219 true 10 [],o_ 221 (p_ 219 220),v_ 10 221])
 .ret))))))))))))))⟩
def L6_0 : SC := (.seq (.seq (.reg [v_ 61 3,o_ 62 (a_ 1 5),y_ 63 62,o_ 64 (n_ 63),o_ 65 (.bin .lss (.t 61) (.t 64))])
 (.cond (.t 65) .skip
 (.exit 0)))
 (.seq (.blk 1 (.seq (.reg [o_ 68 (a_ 1 5),y_ 69 68,v_ 70 3,z_ 71 2 69 70,o_ 72 (w_ 71 2),c_ 73 26 [(.t 72)],o_ 74 (.un .not (.t 73))])
 (.cond (.t 74) (.seq (.reg [o_ 2 (b_ false)])
 .ret)
 .skip)))
 (.reg [v_ 66 3,j_ 67 66,v_ 3 67])))
def L6_1 : SC := (.seq (.seq (.reg [v_ 75 4,o_ 76 (a_ 1 9),y_ 77 76,o_ 78 (n_ 77),o_ 79 (.bin .lss (.t 75) (.t 78))])
 (.cond (.t 79) .skip
 (.exit 2)))
 (.seq (.blk 3 (.seq (.reg [o_ 82 (a_ 1 9),y_ 83 82,v_ 84 4,z_ 85 2 83 84,o_ 86 (w_ 85 2),c_ 87 26 [(.t 86)],o_ 88 (.un .not (.t 87))])
 (.cond (.t 88) (.seq (.reg [o_ 2 (b_ false)])
 .ret)
 .skip)))
 (.reg [v_ 80 4,j_ 81 80,v_ 4 81])))
def L6_2 : SC := (.seq (.seq (.reg [v_ 89 5,o_ 90 (a_ 1 4),y_ 91 90,o_ 92 (n_ 91),o_ 93 (.bin .lss (.t 89) (.t 92))])
 (.cond (.t 93) .skip
 (.exit 4)))
 (.seq (.blk 5 (.seq (.reg [o_ 96 (a_ 1 4),y_ 97 96,v_ 98 5,z_ 99 2 97 98,o_ 100 (a_ 99 0),y_ 101 100,c_ 102 25 [(.t 101),(i_ 0),(i_ 20000)],o_ 103 (.un .not (.t 102)),v_ 104 103,q_ 105 104 false (a_ 1 4),q_ 106 104 false (l_ 105),q_ 107 104 false (m_ 5),q_ 108 104 false (x_ 2 106 107),q_ 109 104 false (a_ 108 1),q_ 110 104 false (l_ 109),d_ 111 104 false 25 [(.t 110),(i_ (-20000000)),(i_ 20000000)],q_ 112 104 false (.un .not (.t 111)),o_ 113 (r_ 104 112)])
 (.cond (.t 113) (.seq (.reg [o_ 2 (b_ false)])
 .ret)
 .skip)))
 (.reg [v_ 94 5,j_ 95 94,v_ 5 95])))
def L6_3 : SC := (.seq (.seq (.reg [v_ 121 7,o_ 122 (a_ 1 4),y_ 123 122,o_ 124 (n_ 123),o_ 125 (.bin .lss (.t 121) (.t 124))])
 (.cond (.t 125) .skip
 (.exit 8)))
 (.seq (.blk 9 (.seq (.draw [true] [v_ 128 7,v_ 129 6,o_ 130 (.bin .neq (.t 128) (.t 129)),v_ 131 130,q_ 132 131 true (m_ 7),q_ 133 131 true (m_ 6),q_ 134 131 true (.bin .add (.t 133) (i_ 1)),q_ 135 131 true (a_ 1 4),q_ 136 131 true (l_ 135),q_ 137 131 true (n_ 136),q_ 138 131 true (.bin .rem (.t 134) (.t 137)),q_ 139 131 true (.bin .neq (.t 132) (.t 138)),o_ 140 (p_ 131 139),v_ 141 140,q_ 142 141 true (w_ 1 10),q_ 143 141 true (m_ 6),q_ 144 141 true (a_ 1 4),q_ 145 141 true (l_ 144),q_ 146 141 true (m_ 7),q_ 147 141 true (x_ 2 145 146),q_ 148 141 true (a_ 147 0),q_ 149 141 true (l_ 148),q_ 150 141 true (a_ 1 4),q_ 151 141 true (l_ 150),q_ 152 141 true (m_ 7),q_ 153 141 true (x_ 2 151 152),q_ 154 141 true (a_ 153 1),q_ 155 141 true (l_ 154),d_ 156 141 true 27 [(.t 142),(.t 143),(.t 149),(.t 155)],q_ 157 141 true (.bin .leq (.t 156) (i_ 0)),o_ 158 (p_ 141 157)] [[],[],[0,1],[2,0,1],[3,2,0,1],[3,2,0,1],[5,3,2,0,1],[3,2,0,1],[7,3,2,0,1],[8,7,3,2,0,1],[6,5,3,2,0,1,9,8,7],[4,3,2,0,1,10,6,5,9,8,7],[3,2,0,1,11,4,10,6,5,9,8,7],[12,3,2,0,1,11,4,10,6,5,9,8,7],[13,12,3,2,0,1,11,4,10,6,5,9,8,7],[13,12,3,2,0,1,11,4,10,6,5,9,8,7],[13,12,3,2,0,1,11,4,10,6,5,9,8,7],[16,13,12,3,2,0,1,11,4,10,6,5,9,8,7],[13,12,3,2,0,1,11,4,10,6,5,9,8,7],[17,16,13,12,3,2,0,1,11,4,10,6,5,9,8,7,18],[19,17,16,13,12,3,2,0,1,11,4,10,6,5,9,8,7,18],[20,19,17,16,13,12,3,2,0,1,11,4,10,6,5,9,8,7,18],[13,12,3,2,0,1,11,4,10,6,5,9,8,7],[22,13,12,3,2,0,1,11,4,10,6,5,9,8,7],[13,12,3,2,0,1,11,4,10,6,5,9,8,7],[23,22,13,12,3,2,0,1,11,4,10,6,5,9,8,7,24],[25,23,22,13,12,3,2,0,1,11,4,10,6,5,9,8,7,24],[26,25,23,22,13,12,3,2,0,1,11,4,10,6,5,9,8,7,24],[14,13,12,3,2,0,1,11,4,10,6,5,9,8,7,15,21,20,19,17,16,18,27,26,25,23,22,24],[28,14,13,12,3,2,0,1,11,4,10,6,5,9,8,7,15,21,20,19,17,16,18,27,26,25,23,22,24],[13,12,3,2,0,1,11,4,10,6,5,9,8,7,29,28,14,15,21,20,19,17,16,18,27,26,25,23,22,24]])
 (.cond (.t 158) (.seq (.reg [o_ 2 (b_ false)])
 .ret)
 .skip)))
 (.reg [v_ 126 7,j_ 127 126,v_ 7 127])))
def L6_4 : SC := (.seq (.seq (.reg [v_ 114 6,o_ 115 (a_ 1 4),y_ 116 115,o_ 117 (n_ 116),o_ 118 (.bin .lss (.t 114) (.t 117))])
 (.cond (.t 118) .skip
 (.exit 6)))
 (.seq (.blk 7 (.seq (.reg [o_ 7 (.mov (i_ 0))])
 (.blk 8 (.loop [1,6,7] L6_3))))
 (.reg [v_ 119 6,j_ 120 119,v_ 6 120])))
def mf6 : SF := ⟨159,[(.t 2)],
 (.seq (.reg [o_ 1 (.box (.t 0) 10),o_ 2 (b_ false)])
 (.seq (.seq (.reg [o_ 8 (a_ 1 0),y_ 9 8,c_ 10 25 [(.t 9),(i_ 1),(i_ 20000)],o_ 11 (.un .not (.t 10)),v_ 12 11,q_ 13 12 false (a_ 1 1),q_ 14 12 false (l_ 13),d_ 15 12 false 25 [(.t 14),(i_ (-20000000)),(i_ 20000000)],q_ 16 12 false (.un .not (.t 15)),o_ 17 (r_ 12 16),v_ 18 17,q_ 19 18 false (a_ 1 2),q_ 20 18 false (l_ 19),d_ 21 18 false 25 [(.t 20),(i_ 0),(i_ 20000)],q_ 22 18 false (.un .not (.t 21)),o_ 23 (r_ 18 22),v_ 24 23,q_ 25 24 false (a_ 1 3),q_ 26 24 false (l_ 25),d_ 27 24 false 25 [(.t 26),(i_ 0),(i_ 20000)],q_ 28 24 false (.un .not (.t 27)),o_ 29 (r_ 24 28),v_ 30 29,q_ 31 30 false (a_ 1 8),q_ 32 30 false (l_ 31),d_ 33 30 false 25 [(.t 32),(i_ 0),(i_ 20000)],q_ 34 30 false (.un .not (.t 33)),o_ 35 (r_ 30 34),v_ 36 35,q_ 37 36 false (a_ 1 4),q_ 38 36 false (l_ 37),q_ 39 36 false (n_ 38),d_ 40 36 false 25 [(.t 39),(i_ 3),(i_ 12)],q_ 41 36 false (.un .not (.t 40)),o_ 42 (r_ 36 41),v_ 43 42,q_ 44 43 false (a_ 1 5),q_ 45 43 false (l_ 44),q_ 46 43 false (n_ 45),q_ 47 43 false (.bin .gtr (.t 46) (i_ 8)),o_ 48 (r_ 43 47),v_ 49 48,q_ 50 49 false (a_ 1 6),q_ 51 49 false (w_ 50 2),d_ 52 49 false 26 [(.t 51)],q_ 53 49 false (.un .not (.t 52)),o_ 54 (r_ 49 53),v_ 55 54,q_ 56 55 false (a_ 1 9),q_ 57 55 false (l_ 56),q_ 58 55 false (n_ 57),q_ 59 55 false (.bin .gtr (.t 58) (i_ 2)),o_ 60 (r_ 55 59)])
 (.cond (.t 60) (.seq (.reg [o_ 2 (b_ false)])
 .ret)
 .skip))
 (.seq (.seq (.reg [o_ 3 (.mov (i_ 0))])
 (.blk 0 (.loop [1,3] L6_0)))
 (.seq (.seq (.reg [o_ 4 (.mov (i_ 0))])
 (.blk 2 (.loop [1,4] L6_1)))
 (.seq (.seq (.reg [o_ 5 (.mov (i_ 0))])
 (.blk 4 (.loop [1,5] L6_2)))
 (.seq (.seq (.reg [o_ 6 (.mov (i_ 0))])
 (.blk 6 (.loop [1,6] L6_4)))
 (.seq (.reg [o_ 2 (b_ true)])
 .ret)))))))⟩
def L7_0 : SC := (.seq (.seq (.reg [v_ 6 5,v_ 7 0,o_ 8 (n_ 7),o_ 9 (.bin .lss (.t 6) (.t 8))])
 (.cond (.t 9) .skip
 (.exit 0)))
 (.seq (.blk 1 (.seq (.reg [v_ 12 0,v_ 13 5,z_ 14 7 12 13,o_ 15 (a_ 14 0),y_ 16 15,v_ 17 1,c_ 18 28 [(.t 16),(.t 17)],o_ 19 (.un .not (.t 18)),v_ 20 19,q_ 21 20 false (m_ 0),q_ 22 20 false (m_ 5),q_ 23 20 false (x_ 7 21 22),q_ 24 20 false (a_ 23 2),q_ 25 20 false (l_ 24),d_ 26 20 false 25 [(.t 25),(i_ 0),(i_ 20000)],q_ 27 20 false (.un .not (.t 26)),o_ 28 (r_ 20 27),v_ 29 28,q_ 30 29 false (m_ 0),q_ 31 29 false (m_ 5),q_ 32 29 false (x_ 7 30 31),q_ 33 29 false (a_ 32 3),q_ 34 29 false (w_ 33 2),d_ 35 29 false 29 [(.t 34),(i_ 0),(i_ 20000)],q_ 36 29 false (.un .not (.t 35)),o_ 37 (r_ 29 36),v_ 38 37,q_ 39 38 false (m_ 0),q_ 40 38 false (m_ 5),q_ 41 38 false (x_ 7 39 40),q_ 42 38 false (a_ 41 5),q_ 43 38 false (w_ 42 2),d_ 44 38 false 29 [(.t 43),(i_ 0),(i_ 20000)],q_ 45 38 false (.un .not (.t 44)),o_ 46 (r_ 38 45)])
 (.cond (.t 46) (.seq (.reg [o_ 4 (b_ false)])
 .ret)
 .skip)))
 (.reg [v_ 10 5,j_ 11 10,v_ 5 11])))
def mf7 : SF := ⟨50,[(.t 4)],
 (.seq (.reg [o_ 4 (b_ false)])
 (.seq (.seq (.reg [o_ 5 (.mov (i_ 0))])
 (.blk 0 (.loop [0,1,5] L7_0)))
 (.seq (.reg [v_ 47 0,o_ 48 (n_ 47),o_ 49 (.bin .geq (.t 48) (i_ 1)),v_ 4 49])
 .ret)))⟩
def L8_0 : SC := (.seq (.seq (.reg [v_ 4 3,o_ 5 (a_ 1 0),y_ 6 5,o_ 7 (n_ 6),o_ 8 (.bin .lss (.t 4) (.t 7))])
 (.cond (.t 8) .skip
 (.exit 0)))
 (.seq (.blk 1 (.seq (.reg [o_ 11 (a_ 1 0),y_ 12 11,v_ 13 3,z_ 14 2 12 13,o_ 15 (a_ 14 0),y_ 16 15,c_ 17 30 [(.t 16),(i_ 1),(i_ 1000)],o_ 18 (.un .not (.t 17)),v_ 19 18,q_ 20 19 false (a_ 1 0),q_ 21 19 false (l_ 20),q_ 22 19 false (m_ 3),q_ 23 19 false (x_ 2 21 22),q_ 24 19 false (a_ 23 1),q_ 25 19 false (l_ 24),d_ 26 19 false 9 [(.t 25)],q_ 27 19 false (.un .not (.t 26)),o_ 28 (r_ 19 27)])
 (.cond (.t 28) (.seq (.reg [o_ 2 (b_ false)])
 .ret)
 .skip)))
 (.reg [v_ 9 3,j_ 10 9,v_ 3 10])))
def mf8 : SF := ⟨33,[(.t 2)],
 (.seq (.reg [o_ 1 (.box (.t 0) 1),o_ 2 (b_ false)])
 (.seq (.seq (.reg [o_ 3 (.mov (i_ 0))])
 (.blk 0 (.loop [1,3] L8_0)))
 (.seq (.reg [o_ 29 (a_ 1 0),y_ 30 29,o_ 31 (n_ 30),o_ 32 (.bin .leq (.t 31) (i_ 30)),v_ 2 32])
 .ret)))⟩
def mf9 : SF := ⟨5,[(.t 2)],
 (.seq (.reg [o_ 2 (b_ false)])
 (.seq (.reg [v_ 3 0,c_ 4 30 [(.t 3),(i_ 0),(i_ 400)],v_ 2 4])
 .ret))⟩
def mf10 : SF := ⟨73,[(.t 0)],
 (.seq (.reg [o_ 0 (b_ false)])
 (.seq (.reg [c_ 10 31 [],c_ 11 32 [],c_ 12 11 [(.t 10),(.t 11)],v_ 9 12,o_ 13 (e_ 9 0),o_ 14 (e_ 9 1),v_ 1 13,v_ 2 14])
 (.seq (.reg [c_ 16 34 [],c_ 17 33 [(.t 16)],v_ 15 17,o_ 18 (e_ 15 0),o_ 19 (e_ 15 1),v_ 3 18,v_ 4 19])
 (.seq (.reg [o_ 21 (.bslice 1 [(.int .i64 0)] 3 [(0,1,(i_ 1)),(1,1,(i_ 1)),(2,1,(i_ 1))]),c_ 22 35 [(i_ 1000),(.t 21)],v_ 20 22,o_ 23 (e_ 20 0),o_ 24 (e_ 20 1),v_ 5 23,v_ 6 24])
 (.seq (.reg [o_ 26 (.build [(.int .i64 0),(.int .i64 0)] [(0,1,(i_ 100)),(1,1,(i_ 9))]),o_ 27 (.build [(.int .i64 0),(.int .i64 0)] [(0,1,(i_ 80)),(1,1,(i_ 2))]),o_ 28 (.bslice 2 [(.int .i64 0),(.int .i64 0)] 2 [(0,2,(.t 26)),(2,2,(.t 27))]),o_ 29 (.build [.nilS] [(0,1,(.t 28))]),c_ 30 12 [(.t 29),(i_ 3)],v_ 25 30,o_ 31 (e_ 25 0),o_ 32 (e_ 25 1),v_ 7 31,v_ 8 32])
 (.seq (.reg [v_ 33 2,o_ 34 (.bin .eql (.t 33) (i_ 0)),v_ 35 34,q_ 36 35 true (m_ 4),q_ 37 35 true (.bin .eql (.t 36) (i_ 0)),o_ 38 (p_ 35 37),v_ 39 38,q_ 40 39 true (m_ 6),q_ 41 39 true (.bin .eql (.t 40) (i_ 0)),o_ 42 (p_ 39 41),v_ 43 42,q_ 44 43 true (m_ 8),q_ 45 43 true (.bin .eql (.t 44) (i_ 0)),o_ 46 (p_ 43 45),v_ 47 46,q_ 48 47 true (m_ 1),q_ 49 47 true (.bin .eql (.t 48) (i_ 160)),o_ 50 (p_ 47 49),v_ 51 50,q_ 52 51 true (m_ 3),q_ 53 51 true (n_ 52),q_ 54 51 true (.bin .eql (.t 53) (i_ 2)),o_ 55 (p_ 51 54),v_ 56 55,q_ 57 56 true (m_ 3),q_ 58 56 true (.idxs 1 (.t 57) (i_ 0)),q_ 59 56 true (l_ 58),q_ 60 56 true (.build [(.int .i64 0),(.int .i64 0)] [(0,1,(i_ 480)),(1,1,(i_ 520))]),q_ 61 56 true (.bslice 2 [(.int .i64 0),(.int .i64 0)] 1 [(0,2,(.t 60))]),d_ 62 56 true 36 [(.t 59),(.t 61)],o_ 63 (p_ 56 62),v_ 64 63,q_ 65 64 true (m_ 5),q_ 66 64 true (.bslice 1 [(.int .i64 0)] 3 [(0,1,(i_ 333)),(1,1,(i_ 333)),(2,1,(i_ 334))]),d_ 67 64 true 37 [(.t 65),(.t 66)],o_ 68 (p_ 64 67),v_ 69 68,q_ 70 69 true (m_ 7),q_ 71 69 true (.bin .eql (.t 70) (i_ 100)),o_ 72 (p_ 69 71),v_ 0 72])
 .ret))))))⟩
def D11_0 : List MIx := [o_ 21 (.load (.t 2) (some 10)),o_ 22 (l_ 3),.call (some 23) none (f_ 39) [(.t 21),(.t 22),(i_ 0)],o_ 24 (.load (.t 2) (some 10)),o_ 25 (l_ 3),.call (some 26) none (f_ 39) [(.t 24),(.t 25),(i_ 20000)],o_ 7 (m_ 23),o_ 8 (m_ 26)]
def B11_0 : List (List Nat) := [[],[],[0,1],[],[],[3,4,2,0,1],[2,0,1,5,3,4],[5,3,4,2,0,1,6]]
def L11_0 : SC := (.seq (.reg [o_ 30 (.bin .lss (.t 29) (.t 28))])
 (.seq (.cond (.t 30) .skip
 (.exit 0))
 (.seq (.blk 1 (.seq (.reg [v_ 31 29,o_ 10 (.alloc [(.int .i64 0)]),s_ 10 31 1])
 (.seq (.seq (.reg [v_ 32 7,y_ 33 10,z_ 34 1 32 33,y_ 35 34,v_ 36 35,q_ 37 36 true (m_ 8),q_ 38 36 true (l_ 10),q_ 39 36 true (x_ 1 37 38),q_ 40 36 true (l_ 39),o_ 41 (p_ 36 40)])
 (.cond (.t 41) (.seq (.reg [o_ 4 (.mov (i_ 0)),o_ 5 (.mov (i_ 5))])
 .ret)
 .skip))
 (.seq (.reg [v_ 42 7,y_ 43 10,z_ 44 1 42 43,y_ 45 44])
 (.cond (.t 45) (.reg [v_ 46 9,o_ 47 (.mkfn (.func 41) [] [(.t 2),(.t 3),(.t 10)]),c_ 48 40 [(i_ 0),(i_ 20000),(.t 47)],o_ 49 (.minmax false [(.t 46),(.t 48)]),v_ 9 49])
 .skip)))))
 (.reg [j_ 50 29,v_ 29 50]))))
def mf11 : SF := ⟨64,[(.t 4),(.t 5)],
 (.seq (.reg [o_ 2 (.box (.t 0) 10),o_ 3 (.box (.t 1) 1),o_ 4 (.mov (i_ 0)),o_ 5 (.mov (i_ 0))])
 (.seq (.seq (.reg [o_ 14 (w_ 2 10),o_ 15 (.build [(.int .i64 0),(.int .i64 0)] []),y_ 16 3,c_ 17 38 [(.t 14),(.t 15),(.t 16)],v_ 6 17])
 (.seq (.reg [v_ 18 6,o_ 19 (.bin .neq (.t 18) (i_ 0))])
 (.cond (.t 19) (.seq (.reg [v_ 20 6,o_ 4 (.mov (i_ 0)),v_ 5 20])
 .ret)
 .skip)))
 (.seq (.draw [] D11_0 B11_0)
 (.seq (.reg [o_ 9 (.mov (i_ 0))])
 (.seq (.seq (.reg [v_ 27 7,o_ 28 (n_ 27),o_ 29 (.mov (i_ 0))])
 (.blk 0 (.loop [2,3,7,8,9,28,29] L11_0)))
 (.seq (.seq (.reg [o_ 52 (w_ 2 10),v_ 53 9,v_ 54 9,o_ 55 (.build [(.int .i64 0),(.int .i64 0)] [(0,1,(.t 53)),(1,1,(.t 54))]),y_ 56 3,c_ 57 42 [(.t 52),(.t 55),(.t 56)],v_ 51 57,o_ 58 (e_ 51 0),o_ 59 (e_ 51 1),o_ 60 (e_ 51 2),v_ 11 58,v_ 12 59,v_ 13 60])
 (.seq (.reg [v_ 61 11,o_ 62 (.bin .geq (.t 61) (i_ 0))])
 (.cond (.t 62) (.seq (.reg [o_ 4 (.mov (i_ 0)),o_ 5 (.mov (i_ 5))])
 .ret)
 .skip)))
 (.seq (.reg [v_ 63 9,v_ 4 63,o_ 5 (.mov (i_ 0))])
 .ret)))))))⟩
def mf12 : SF := ⟨19,[(.t 4),(.t 5)],
 (.seq (.reg [o_ 2 (.box (.t 0) 1),o_ 4 (.mov (i_ 0)),o_ 5 (.mov (i_ 0))])
 (.seq (.seq (.reg [o_ 6 (w_ 2 1),c_ 7 43 [(.t 6)],o_ 8 (.un .not (.t 7)),v_ 9 8,q_ 10 9 false (m_ 1),d_ 11 9 false 44 [(.t 10),(i_ 0),(i_ 400)],q_ 12 9 false (.un .not (.t 11)),o_ 13 (r_ 9 12)])
 (.cond (.t 13) (.seq (.reg [o_ 4 (.mov (i_ 0)),o_ 5 (.mov (i_ 2))])
 .ret)
 .skip))
 (.seq (.reg [o_ 14 (a_ 2 0),y_ 15 14,v_ 16 1,c_ 17 46 [(.t 15),(.t 16)],c_ 18 45 [(.t 17)],v_ 4 18,o_ 5 (.mov (i_ 0))])
 .ret)))⟩
def mf13 : SF := ⟨32,[(.t 6),(.t 7),(.t 8),(.t 9)],
 (.seq (.reg [o_ 3 (.box (.t 0) 10),o_ 4 (.box (.t 1) 2),o_ 6 (.mov (i_ 0)),o_ 7 (.mov (i_ 0)),o_ 8 (.mov (i_ 0)),o_ 9 (.mov (i_ 0))])
 (.seq (.seq (.reg [o_ 14 (w_ 3 10),o_ 15 (w_ 4 2),v_ 16 2,c_ 17 38 [(.t 14),(.t 15),(.t 16)],v_ 10 17])
 (.seq (.reg [v_ 18 10,o_ 19 (.bin .neq (.t 18) (i_ 0))])
 (.cond (.t 19) (.seq (.reg [v_ 20 10,o_ 6 (.mov (i_ 0)),o_ 7 (.mov (i_ 0)),o_ 8 (.mov (i_ 0)),v_ 9 20])
 .ret)
 .skip)))
 (.seq (.reg [o_ 22 (w_ 3 10),o_ 23 (w_ 4 2),v_ 24 2,c_ 25 42 [(.t 22),(.t 23),(.t 24)],v_ 21 25,o_ 26 (e_ 21 0),o_ 27 (e_ 21 1),o_ 28 (e_ 21 2),v_ 11 26,v_ 12 27,v_ 13 28])
 (.seq (.reg [v_ 29 11,v_ 30 12,v_ 31 13,v_ 6 29,v_ 7 30,v_ 8 31,o_ 9 (.mov (i_ 0))])
 .ret))))⟩
def mf14 : SF := ⟨37,[(.c 6 (some 1)),(.t 7)],
 (.seq (.reg [o_ 3 (.box (.t 0) 1),o_ 6 (.alloc [.nilS]),o_ 7 (.mov (i_ 0))])
 (.seq (.seq (.reg [o_ 10 (w_ 3 1),c_ 11 43 [(.t 10)],o_ 12 (.un .not (.t 11)),v_ 13 12,q_ 14 13 false (m_ 1),d_ 15 13 false 44 [(.t 14),(i_ 0),(i_ 400)],q_ 16 13 false (.un .not (.t 15)),o_ 17 (r_ 13 16),v_ 18 17,q_ 19 18 false (m_ 2),d_ 20 18 false 44 [(.t 19),(i_ 0),(i_ 30000)],q_ 21 18 false (.un .not (.t 20)),o_ 22 (r_ 18 21)])
 (.cond (.t 22) (.seq (.reg [o_ 23 (.build [.nilS] []),s_ 6 23 1,o_ 7 (.mov (i_ 2))])
 .ret)
 .skip))
 (.seq (.reg [o_ 25 (a_ 3 0),y_ 26 25,v_ 27 1,v_ 28 2,c_ 29 47 [(.t 26),(.t 27),(.t 28)],v_ 24 29,o_ 30 (e_ 24 0),o_ 31 (e_ 24 1),v_ 8 30,v_ 9 31])
 (.seq (.seq (.reg [v_ 32 9,o_ 33 (.un .not (.t 32))])
 (.cond (.t 33) (.seq (.reg [o_ 34 (.build [.nilS] []),s_ 6 34 1,o_ 7 (.mov (i_ 5))])
 .ret)
 .skip))
 (.seq (.reg [v_ 35 8,o_ 36 (.build [.nilS] [(0,1,(.t 35))]),s_ 6 36 1,o_ 7 (.mov (i_ 0))])
 .ret)))))⟩
def mf25 : SF := ⟨15,[(.t 6)],
 (.seq (.reg [o_ 6 (b_ false)])
 (.seq (.reg [v_ 7 0,v_ 8 1,o_ 9 (.bin .geq (.t 7) (.t 8)),v_ 10 9,q_ 11 10 true (m_ 0),q_ 12 10 true (m_ 2),q_ 13 10 true (.bin .leq (.t 11) (.t 12)),o_ 14 (p_ 10 13),v_ 6 14])
 .ret))⟩
def mf26 : SF := ⟨11,[(.t 2)],
 (.seq (.reg [o_ 1 (.box (.t 0) 2),o_ 2 (b_ false)])
 (.seq (.reg [o_ 3 (a_ 1 0),y_ 4 3,c_ 5 25 [(.t 4),(i_ (-1000)),(i_ 1000)],v_ 6 5,q_ 7 6 true (a_ 1 1),q_ 8 6 true (l_ 7),d_ 9 6 true 25 [(.t 8),(i_ 0),(i_ 20000)],o_ 10 (p_ 6 9),v_ 2 10])
 .ret))⟩
def D27_0 : List MIx := [o_ 11 (.load (.t 4) (some 10)),o_ 12 (m_ 1),.call (some 13) none (f_ 75) [(.t 11),(.t 12)],o_ 14 (.load (.t 4) (some 10)),o_ 15 (m_ 1),o_ 16 (.bin .add (.t 15) (i_ 1)),.call (some 17) none (f_ 75) [(.t 14),(.t 16)],o_ 9 (.alloc [(.int .i64 0),(.int .i64 0)]),o_ 10 (.alloc [(.int .i64 0),(.int .i64 0)]),.op none none (.store (.t 9) (.t 13) 2),.op none none (.store (.t 10) (.t 17) 2)]
def B27_0 : List (List Nat) := [[],[],[0,1],[],[],[4],[3,5,4,2,0,1],[],[],[7,2,0,1,6,3,5,4,8],[8,6,3,5,4,2,0,1,9,7]]
def mf27 : SF := ⟨39,[(.t 8)],
 (.seq (.reg [o_ 4 (.box (.t 0) 10),o_ 8 (.mov (i_ 0))])
 (.seq (.draw [] D27_0 B27_0)
 (.seq (.reg [o_ 18 (a_ 10 0),y_ 19 18,o_ 20 (a_ 9 0),y_ 21 20,o_ 22 (.bin .sub (.t 19) (.t 21)),v_ 23 3,o_ 24 (a_ 9 1),y_ 25 24,o_ 26 (.bin .sub (.t 23) (.t 25)),o_ 27 (.bin .mul (.t 22) (.t 26)),o_ 28 (a_ 10 1),y_ 29 28,o_ 30 (a_ 9 1),y_ 31 30,o_ 32 (.bin .sub (.t 29) (.t 31)),v_ 33 2,o_ 34 (a_ 9 0),y_ 35 34,o_ 36 (.bin .sub (.t 33) (.t 35)),o_ 37 (.bin .mul (.t 32) (.t 36)),o_ 38 (.bin .sub (.t 27) (.t 37)),v_ 8 38])
 .ret)))⟩
def L28_0 : SC := (.seq (.seq (.reg [v_ 6 5,v_ 7 0,o_ 8 (n_ 7),o_ 9 (.bin .lss (.t 6) (.t 8))])
 (.cond (.t 9) .skip
 (.exit 0)))
 (.seq (.blk 1 (.seq (.reg [v_ 12 0,v_ 13 5,z_ 14 3 12 13,o_ 15 (a_ 14 0),y_ 16 15,v_ 17 1,o_ 18 (.bin .sub (.t 17) (i_ 1)),c_ 19 25 [(.t 16),(i_ 0),(.t 18)],o_ 20 (.un .not (.t 19)),v_ 21 20,q_ 22 21 false (m_ 0),q_ 23 21 false (m_ 5),q_ 24 21 false (x_ 3 22 23),q_ 25 21 false (a_ 24 1),q_ 26 21 false (w_ 25 2),d_ 27 21 false 29 [(.t 26),(i_ 0),(i_ 20000)],q_ 28 21 false (.un .not (.t 27)),o_ 29 (r_ 21 28)])
 (.cond (.t 29) (.seq (.reg [o_ 4 (b_ false)])
 .ret)
 .skip)))
 (.reg [v_ 10 5,j_ 11 10,v_ 5 11])))
def mf28 : SF := ⟨33,[(.t 4)],
 (.seq (.reg [o_ 4 (b_ false)])
 (.seq (.seq (.reg [o_ 5 (.mov (i_ 0))])
 (.blk 0 (.loop [0,1,5] L28_0)))
 (.seq (.reg [v_ 30 0,o_ 31 (n_ 30),o_ 32 (.bin .leq (.t 31) (i_ 12)),v_ 4 32])
 .ret)))⟩
def mf29 : SF := ⟨19,[(.t 6)],
 (.seq (.reg [o_ 3 (.box (.t 0) 2),o_ 6 (b_ false)])
 (.seq (.reg [o_ 7 (a_ 3 0),y_ 8 7,v_ 9 1,o_ 10 (a_ 3 1),y_ 11 10,c_ 12 25 [(.t 8),(.t 9),(.t 11)],v_ 13 12,q_ 14 13 true (a_ 3 1),q_ 15 13 true (l_ 14),q_ 16 13 true (m_ 2),q_ 17 13 true (.bin .leq (.t 15) (.t 16)),o_ 18 (p_ 13 17),v_ 6 18])
 .ret))⟩
def mf30 : SF := ⟨15,[(.t 6)],
 (.seq (.reg [o_ 6 (b_ false)])
 (.seq (.reg [v_ 7 0,v_ 8 1,o_ 9 (.bin .geq (.t 7) (.t 8)),v_ 10 9,q_ 11 10 true (m_ 0),q_ 12 10 true (m_ 2),q_ 13 10 true (.bin .leq (.t 11) (.t 12)),o_ 14 (p_ 10 13),v_ 6 14])
 .ret))⟩
def mf31 : SF := ⟨16,[(.c 0 (some 10))],
 (.seq (.reg [o_ 0 (.alloc [(.int .i64 0),(.int .i64 0),(.int .i64 0),(.int .i64 0),.nilS,.nilS,(.int .i64 0),(.int .i64 0),(.int .i64 0),.nilS])])
 (.seq (.reg [o_ 2 (.build [(.int .i64 0),(.int .i64 0)] [(0,1,(i_ 100)),(1,1,(i_ 50))]),o_ 1 (.alloc [(.int .i64 0),(.int .i64 0)]),s_ 1 2 2])
 (.seq (.reg [o_ 3 (.build [(.int .i64 0),(.int .i64 0)] [(0,1,(i_ 120)),(1,1,(i_ 200))]),o_ 4 (w_ 1 2),o_ 5 (w_ 1 2),o_ 6 (.bslice 2 [(.int .i64 0),(.int .i64 0)] 2 [(0,2,(.t 4)),(2,2,(.t 5))]),o_ 7 (.build [(.int .i64 0),(.int .i64 0)] [(0,1,(i_ 90)),(1,1,(i_ 200))]),o_ 8 (.build [(.int .i64 0),(.int .i64 0)] [(0,1,(i_ 200)),(1,1,(i_ 300))]),o_ 9 (.bslice 2 [(.int .i64 0),(.int .i64 0)] 2 [(0,2,(.t 7)),(2,2,(.t 8))]),o_ 10 (.build [(.int .i64 0),(.int .i64 0)] [(0,1,(i_ 1000)),(1,1,(i_ 95000))]),o_ 11 (.build [(.int .i64 0),(.int .i64 0)] [(0,1,(i_ 2000)),(1,1,(i_ 190000))]),o_ 12 (.build [(.int .i64 0),(.int .i64 0)] [(0,1,(i_ 2000)),(1,1,(i_ 230000))]),o_ 13 (.build [(.int .i64 0),(.int .i64 0)] [(0,1,(i_ 1000)),(1,1,(i_ 115000))]),o_ 14 (.bslice 2 [(.int .i64 0),(.int .i64 0)] 4 [(0,2,(.t 10)),(2,2,(.t 11)),(4,2,(.t 12)),(6,2,(.t 13))]),o_ 15 (.build [(.int .i64 0),(.int .i64 0),(.int .i64 0),(.int .i64 0),.nilS,.nilS,(.int .i64 0),(.int .i64 0),(.int .i64 0),.nilS] [(0,1,(i_ 1000)),(1,1,(i_ 100000)),(2,1,(i_ 2000)),(3,1,(i_ 1900)),(8,1,(i_ 40)),(6,2,(.t 3)),(9,1,(.t 6)),(5,1,(.t 9)),(4,1,(.t 14))]),s_ 0 15 10])
 .ret)))⟩
def mf32 : SF := ⟨17,[(.t 0)],
 (.seq (.reg [o_ 0 (.mov (.k .nilS))])
 (.seq (.reg [o_ 2 (.build [(.int .i64 0),(.int .i64 0)] [(0,1,(i_ 70)),(1,1,(i_ 90))]),o_ 3 (.build [(.int .i64 0),(.int .i64 0),(.int .i64 0)] [(0,1,(i_ 0)),(1,2,(.t 2))]),o_ 4 (.build [(.int .i64 0),(.int .i64 0)] [(0,1,(i_ 100)),(1,1,(i_ 140))]),o_ 5 (.build [(.int .i64 0),(.int .i64 0),(.int .i64 0)] [(0,1,(i_ 1)),(1,2,(.t 4))]),o_ 6 (.bslice 3 [(.int .i64 0),(.int .i64 0),(.int .i64 0)] 2 [(0,3,(.t 3)),(3,3,(.t 5))]),v_ 1 6])
 (.seq (.reg [v_ 7 1,o_ 8 (.build [(.int .i64 0),(.int .i64 0)] [(0,1,(i_ 30)),(1,1,(i_ 40))]),o_ 9 (.build [(.int .i64 0),(.int .i64 0)] [(1,1,(i_ 5))]),o_ 10 (.build [.nilS,(.bool false),(.int .i64 0),(.int .i64 0),(.int .i64 0),(.int .i64 0),(.int .i64 0)] [(0,1,(.t 7)),(3,2,(.t 8)),(5,2,(.t 9))]),v_ 11 1,o_ 12 (.slc 3 (.t 11) none (some (i_ 1)) none),o_ 13 (.build [(.int .i64 0),(.int .i64 0)] [(0,1,(i_ 60)),(1,1,(i_ 80))]),o_ 14 (.build [(.int .i64 0),(.int .i64 0)] [(1,1,(i_ 5))]),o_ 15 (.build [.nilS,(.bool false),(.int .i64 0),(.int .i64 0),(.int .i64 0),(.int .i64 0),(.int .i64 0)] [(0,1,(.t 12)),(3,2,(.t 13)),(5,2,(.t 14))]),o_ 16 (.bslice 7 [.nilS,(.bool false),(.int .i64 0),(.int .i64 0),(.int .i64 0),(.int .i64 0),(.int .i64 0)] 2 [(0,7,(.t 10)),(7,7,(.t 15))]),v_ 0 16])
 .ret)))⟩
def L33_0 : SC := (.seq (.reg [o_ 14 (.bin .lss (.t 13) (.t 12))])
 (.seq (.cond (.t 14) .skip
 (.exit 0))
 (.seq (.blk 1 (.seq (.reg [z_ 15 1441 11 13,o_ 16 (w_ 15 1441),o_ 6 (.alloc (List.replicate 1441 (.bool false))),s_ 6 16 1441])
 (.reg [v_ 17 4,o_ 18 (.slca 1441 1 (.t 6) none none none),c_ 19 78 [(.t 18)],o_ 20 (.bslice 1 [.nilS] 1 [(0,1,(.t 19))]),o_ 21 (.app 1 [.nilS] 24 (.t 17) (.t 20)),v_ 4 21])))
 (.reg [j_ 22 13,v_ 13 22]))))
def mf33 : SF := ⟨24,[(.t 2),(.t 3)],
 (.seq (.reg [o_ 1 (.box (.t 0) 2),o_ 2 (.mov (.k .nilS)),o_ 3 (.mov (i_ 0))])
 (.seq (.seq (.reg [o_ 7 (w_ 1 2),c_ 8 76 [(.t 7)],o_ 9 (.un .not (.t 8))])
 (.cond (.t 9) (.seq (.reg [o_ 2 (.mov (.k .nilS)),o_ 3 (.mov (i_ 2))])
 .ret)
 .skip))
 (.seq (.reg [o_ 4 (.mov (.k .nilS))])
 (.seq (.seq (.reg [o_ 10 (w_ 1 2),c_ 11 77 [(.t 10)],o_ 12 (n_ 11),o_ 13 (.mov (i_ 0))])
 (.blk 0 (.loop [4,11,12,13] L33_0)))
 (.seq (.reg [v_ 23 4,v_ 2 23,o_ 3 (.mov (i_ 0))])
 .ret)))))⟩
def mf34 : SF := ⟨17,[(.c 0 (some 2))],
 (.seq (.reg [o_ 0 (.alloc [.nilS,.nilS])])
 (.seq (.reg [o_ 1 (.build [(.int .i64 0),(.int .i64 0)] [(0,1,(i_ 480)),(1,1,(i_ 600))]),o_ 2 (.bslice 2 [(.int .i64 0),(.int .i64 0)] 1 [(0,2,(.t 1))]),o_ 3 (.build [.nilS,(.int .i64 0)] [(0,1,(.t 2))]),o_ 4 (.build [(.int .i64 0),(.int .i64 0)] [(0,1,(i_ 500)),(1,1,(i_ 560))]),o_ 5 (.build [(.int .i64 0),(.int .i64 0)] [(0,1,(i_ 640)),(1,1,(i_ 700))]),o_ 6 (.bslice 2 [(.int .i64 0),(.int .i64 0)] 2 [(0,2,(.t 4)),(2,2,(.t 5))]),o_ 7 (.build [.nilS,(.int .i64 0)] [(0,1,(.t 6)),(1,1,(i_ 10))]),o_ 8 (.build [(.int .i64 0),(.int .i64 0)] [(0,1,(i_ 520)),(1,1,(i_ 580))]),o_ 9 (.build [(.int .i64 0),(.int .i64 0)] [(0,1,(i_ 690)),(1,1,(i_ 760))]),o_ 10 (.bslice 2 [(.int .i64 0),(.int .i64 0)] 2 [(0,2,(.t 8)),(2,2,(.t 9))]),o_ 11 (.build [.nilS,(.int .i64 0)] [(0,1,(.t 10))]),o_ 12 (.bslice 2 [.nilS,(.int .i64 0)] 3 [(0,2,(.t 3)),(2,2,(.t 7)),(4,2,(.t 11))]),o_ 13 (.build [(.int .i64 0),(.int .i64 0)] [(0,1,(i_ 30)),(1,1,(i_ 40))]),o_ 14 (.build [(.int .i64 0),(.int .i64 0)] [(0,1,(i_ 20)),(1,1,(i_ 50))]),o_ 15 (.bslice 2 [(.int .i64 0),(.int .i64 0)] 2 [(0,2,(.t 13)),(2,2,(.t 14))]),o_ 16 (.build [.nilS,.nilS] [(0,1,(.t 12)),(1,1,(.t 15))]),s_ 0 16 2])
 .ret))⟩
def mf35 : SF := ⟨16,[(.t 4),(.t 5)],
 (.seq (.reg [o_ 4 (.mov (.k .nilS)),o_ 5 (.mov (i_ 0))])
 (.seq (.seq (.reg [v_ 7 0,v_ 8 1,c_ 9 66 [(.t 7),(.t 8)],v_ 6 9])
 (.seq (.reg [v_ 10 6,o_ 11 (.bin .neq (.t 10) (i_ 0))])
 (.cond (.t 11) (.seq (.reg [v_ 12 6,o_ 4 (.mov (.k .nilS)),v_ 5 12])
 .ret)
 .skip)))
 (.seq (.reg [v_ 13 0,v_ 14 1,c_ 15 68 [(.t 13),(.t 14)],v_ 4 15,o_ 5 (.mov (i_ 0))])
 .ret)))⟩
def L36_0 : SC := (.seq (.seq (.reg [v_ 11 5,v_ 12 0,o_ 13 (n_ 12),o_ 14 (.bin .lss (.t 11) (.t 13))])
 (.cond (.t 14) .skip
 (.exit 0)))
 (.seq (.blk 1 (.seq (.draw [true] [v_ 17 0,v_ 18 5,z_ 19 2 17 18,o_ 20 (w_ 19 2),v_ 21 1,v_ 22 5,z_ 23 2 21 22,o_ 24 (w_ 23 2),o_ 25 (.eqag [true,true] true (.t 20) (.t 24))] [[],[],[0,1],[2,0,1],[],[],[4,5],[6,4,5],[3,2,0,1,7,6,4,5]])
 (.cond (.t 25) (.seq (.reg [o_ 4 (b_ false)])
 .ret)
 .skip)))
 (.reg [v_ 15 5,j_ 16 15,v_ 5 16])))
def mf36 : SF := ⟨26,[(.t 4)],
 (.seq (.reg [o_ 4 (b_ false)])
 (.seq (.seq (.reg [v_ 6 0,o_ 7 (n_ 6),v_ 8 1,o_ 9 (n_ 8),o_ 10 (.bin .neq (.t 7) (.t 9))])
 (.cond (.t 10) (.seq (.reg [o_ 4 (b_ false)])
 .ret)
 .skip))
 (.seq (.seq (.reg [o_ 5 (.mov (i_ 0))])
 (.blk 0 (.loop [0,1,5] L36_0)))
 (.seq (.reg [o_ 4 (b_ true)])
 .ret))))⟩
def L37_0 : SC := (.seq (.seq (.reg [v_ 11 5,v_ 12 0,o_ 13 (n_ 12),o_ 14 (.bin .lss (.t 11) (.t 13))])
 (.cond (.t 14) .skip
 (.exit 0)))
 (.seq (.blk 1 (.seq (.draw [true] [v_ 17 0,v_ 18 5,z_ 19 1 17 18,y_ 20 19,v_ 21 1,v_ 22 5,z_ 23 1 21 22,y_ 24 23,o_ 25 (.bin .neq (.t 20) (.t 24))] [[],[],[0,1],[2,0,1],[],[],[4,5],[6,4,5],[3,2,0,1,7,6,4,5]])
 (.cond (.t 25) (.seq (.reg [o_ 4 (b_ false)])
 .ret)
 .skip)))
 (.reg [v_ 15 5,j_ 16 15,v_ 5 16])))
def mf37 : SF := ⟨26,[(.t 4)],
 (.seq (.reg [o_ 4 (b_ false)])
 (.seq (.seq (.reg [v_ 6 0,o_ 7 (n_ 6),v_ 8 1,o_ 9 (n_ 8),o_ 10 (.bin .neq (.t 7) (.t 9))])
 (.cond (.t 10) (.seq (.reg [o_ 4 (b_ false)])
 .ret)
 .skip))
 (.seq (.seq (.reg [o_ 5 (.mov (i_ 0))])
 (.blk 0 (.loop [0,1,5] L37_0)))
 (.seq (.reg [o_ 4 (b_ true)])
 .ret))))⟩
def mf38 : SF := ⟨22,[(.t 6)],
 (.seq (.reg [o_ 3 (.box (.t 0) 10),o_ 4 (.box (.t 1) 2),o_ 6 (.mov (i_ 0))])
 (.seq (.seq (.reg [o_ 8 (w_ 4 2),v_ 9 2,o_ 10 (a_ 3 5),y_ 11 10,o_ 12 (n_ 11),c_ 13 79 [(.t 8),(.t 9),(.t 12)],v_ 7 13])
 (.seq (.reg [v_ 14 7,o_ 15 (.bin .eql (.t 14) (i_ 3)),v_ 16 15,q_ 17 16 false (w_ 3 10),q_ 18 16 false (.build [(.int .i64 0),(.int .i64 0),(.int .i64 0),(.int .i64 0),.nilS,.nilS,(.int .i64 0),(.int .i64 0),(.int .i64 0),.nilS] [(0,10,(.t 17))]),d_ 19 16 false 80 [(.t 18)],o_ 20 (r_ 16 19)])
 (.cond (.t 20) (.seq (.reg [v_ 21 7,v_ 6 21])
 .ret)
 .skip)))
 (.seq (.reg [o_ 6 (.mov (i_ 2))])
 .ret)))⟩
def L39_0 : SC := (.seq (.reg [o_ 29 (.bin .lss (.t 28) (i_ 6))])
 (.seq (.cond (.t 29) .skip
 (.exit 2))
 (.seq (.blk 3 (.seq (.reg [o_ 30 (.idx 6 1 false (.t 27) (.t 28)),v_ 11 30])
 (.reg [v_ 31 7,v_ 32 11,.call (some 33) none (.t 32) [],o_ 34 (.app 1 [(.bool false)] 1 (.t 31) (.t 33)),v_ 7 34])))
 (.reg [j_ 35 28,v_ 28 35]))))
def L39_1 : SC := (.seq (.reg [o_ 20 (.bin .lss (.t 19) (.t 18))])
 (.seq (.cond (.t 20) .skip
 (.exit 0))
 (.seq (.blk 1 (.seq (.reg [z_ 21 5 17 19,o_ 22 (w_ 21 5),o_ 9 (.alloc [.nilS,(.int .i64 0),(.int .i64 0),.nilS,(.bool false)]),s_ 9 22 5])
 (.seq (.reg [o_ 23 (w_ 3 10),o_ 24 (.build [(.int .i64 0),(.int .i64 0),(.int .i64 0),(.int .i64 0),.nilS,.nilS,(.int .i64 0),(.int .i64 0),(.int .i64 0),.nilS] [(0,10,(.t 23))]),o_ 25 (w_ 9 5),o_ 26 (.build [(.int .i64 0),(.int .i64 0),(.int .i64 0),(.int .i64 0),.nilS,.nilS,(.int .i64 0),(.int .i64 0),(.int .i64 0),.nilS,.nilS,(.int .i64 0),(.int .i64 0),.nilS,(.bool false)] [(0,10,(.t 24)),(10,5,(.t 25))]),c_ 27 82 [(.t 26)],o_ 28 (.mov (i_ 0))])
 (.blk 2 (.loop [3,7,17,18,19,27,28] L39_0)))))
 (.reg [j_ 36 19,v_ 19 36]))))
def mf39 : SF := ⟨38,[(.t 6)],
 (.seq (.reg [o_ 3 (.box (.t 0) 10),o_ 6 (.mov (.k .nilS))])
 (.seq (.reg [o_ 7 (.mov (.k .nilS))])
 (.seq (.seq (.reg [o_ 12 (w_ 3 10),v_ 13 2,v_ 14 2,o_ 15 (.build [(.int .i64 0),(.int .i64 0)] [(0,1,(.t 13)),(1,1,(.t 14))]),v_ 16 1,c_ 17 81 [(.t 12),(.t 15),(.t 16)],o_ 18 (n_ 17),o_ 19 (.mov (i_ 0))])
 (.blk 0 (.loop [3,7,17,18,19] L39_1)))
 (.seq (.reg [v_ 37 7,v_ 6 37])
 .ret))))⟩
def L40_0 : SC := (.seq (.seq (.reg [v_ 12 0,v_ 13 1,o_ 14 (.bin .lss (.t 12) (.t 13))])
 (.cond (.t 14) .skip
 (.exit 0)))
 (.blk 1 (.seq (.reg [v_ 15 0,v_ 16 1,v_ 17 0,o_ 18 (.bin .sub (.t 16) (.t 17)),o_ 19 (.bin .quo (.t 18) (i_ 2)),o_ 20 (.bin .add (.t 15) (.t 19)),v_ 8 20])
 (.seq (.reg [v_ 21 2,v_ 22 8,.call (some 23) none (.t 21) [(.t 22)],v_ 24 7,o_ 25 (.eqb false (.t 23) (.t 24))])
 (.cond (.t 25) (.reg [v_ 26 8,v_ 1 26])
 (.reg [v_ 27 8,j_ 28 27,v_ 0 28]))))))
def mf40 : SF := ⟨30,[(.t 6)],
 (.seq (.reg [o_ 6 (.mov (i_ 0))])
 (.seq (.reg [v_ 9 2,v_ 10 1,.call (some 11) none (.t 9) [(.t 10)],v_ 7 11])
 (.seq (.blk 0 (.loop [0,1,2,7] L40_0))
 (.seq (.reg [v_ 29 0,v_ 6 29])
 .ret))))⟩
def D41_0 : List MIx := [o_ 6 (.load (.t 1) (some 10)),o_ 7 (l_ 2),o_ 8 (m_ 0),.call (some 9) none (f_ 39) [(.t 6),(.t 7),(.t 8)],o_ 10 (l_ 3),o_ 11 (.idxs 1 (.t 9) (.t 10)),o_ 12 (l_ 11),o_ 5 (m_ 12)]
def B41_0 : List (List Nat) := [[],[],[],[0,1,2],[],[3,0,1,2,4],[5,3,0,1,2,4],[6,5,3,0,1,2,4]]
def mf41 : SF := ⟨13,[(.t 5)],
 (.seq (.reg [o_ 5 (b_ false)])
 (.seq (.draw [] D41_0 B41_0)
 .ret))⟩
def L42_0 : SC := (.seq (.reg [o_ 19 (.bin .lss (.t 18) (.t 17))])
 (.seq (.cond (.t 19) .skip
 (.exit 0))
 (.seq (.blk 1 (.seq (.reg [v_ 20 18,z_ 21 5 16 18,o_ 22 (w_ 21 5),o_ 10 (.alloc [.nilS,(.int .i64 0),(.int .i64 0),.nilS,(.bool false)]),v_ 9 20,s_ 10 22 5])
 (.seq (.reg [o_ 24 (w_ 3 10),o_ 25 (.build [(.int .i64 0),(.int .i64 0),(.int .i64 0),(.int .i64 0),.nilS,.nilS,(.int .i64 0),(.int .i64 0),(.int .i64 0),.nilS] [(0,10,(.t 24))]),o_ 26 (w_ 10 5),o_ 27 (.build [(.int .i64 0),(.int .i64 0),(.int .i64 0),(.int .i64 0),.nilS,.nilS,(.int .i64 0),(.int .i64 0),(.int .i64 0),.nilS,.nilS,(.int .i64 0),(.int .i64 0),.nilS,(.bool false)] [(0,10,(.t 25)),(10,5,(.t 26))]),c_ 28 83 [(.t 27)],v_ 23 28,o_ 29 (e_ 23 0),o_ 30 (e_ 23 1),v_ 11 29,v_ 12 30])
 (.seq (.reg [v_ 31 11,o_ 32 (.bin .neq (.t 31) (i_ 1))])
 (.cond (.t 32) (.seq (.reg [v_ 33 9,v_ 34 11,v_ 35 12,v_ 6 33,v_ 7 34,v_ 8 35])
 .ret)
 .skip)))))
 (.reg [j_ 36 18,v_ 18 36]))))
def mf42 : SF := ⟨37,[(.t 6),(.t 7),(.t 8)],
 (.seq (.reg [o_ 3 (.box (.t 0) 10),o_ 4 (.box (.t 1) 2),o_ 6 (.mov (i_ 0)),o_ 7 (.mov (i_ 0)),o_ 8 (.mov (i_ 0))])
 (.seq (.seq (.reg [o_ 13 (w_ 3 10),o_ 14 (w_ 4 2),v_ 15 2,c_ 16 81 [(.t 13),(.t 14),(.t 15)],o_ 17 (n_ 16),o_ 18 (.mov (i_ 0))])
 (.blk 0 (.loop [3,16,17,18] L42_0)))
 (.seq (.reg [o_ 6 (.mov (i_ (-1))),o_ 7 (.mov (i_ 1)),o_ 8 (.mov (i_ 0))])
 .ret)))⟩
def mf43 : SF := ⟨13,[(.t 2)],
 (.seq (.reg [o_ 1 (.box (.t 0) 1),o_ 2 (b_ false)])
 (.seq (.reg [o_ 3 (a_ 1 0),y_ 4 3,o_ 5 (n_ 4),o_ 6 (.bin .leq (.t 5) (i_ 30)),v_ 7 6,q_ 8 7 true (a_ 1 0),q_ 9 7 true (l_ 8),d_ 10 7 true 84 [(.t 9),(f_ 85)],q_ 11 7 true (.un .not (.t 10)),o_ 12 (p_ 7 11),v_ 2 12])
 .ret))⟩
def mf44 : SF := ⟨15,[(.t 6)],
 (.seq (.reg [o_ 6 (b_ false)])
 (.seq (.reg [v_ 7 0,v_ 8 1,o_ 9 (.bin .geq (.t 7) (.t 8)),v_ 10 9,q_ 11 10 true (m_ 0),q_ 12 10 true (m_ 2),q_ 13 10 true (.bin .leq (.t 11) (.t 12)),o_ 14 (p_ 10 13),v_ 6 14])
 .ret))⟩
def L45_0 : SC := (.seq (.reg [o_ 9 (.bin .lss (.t 8) (.t 7))])
 (.seq (.cond (.t 9) .skip
 (.exit 0))
 (.seq (.blk 1 (.seq (.reg [z_ 10 2 6 8,o_ 11 (w_ 10 2),o_ 5 (.alloc [(.int .i64 0),(.int .i64 0)]),s_ 5 11 2])
 (.reg [v_ 12 3,o_ 13 (a_ 5 0),y_ 14 13,o_ 15 (.bin .add (.t 12) (.t 14)),v_ 3 15])))
 (.reg [j_ 16 8,v_ 8 16]))))
def mf45 : SF := ⟨18,[(.t 2)],
 (.seq (.reg [o_ 2 (.mov (i_ 0))])
 (.seq (.reg [o_ 3 (.mov (i_ 0))])
 (.seq (.seq (.reg [v_ 6 0,o_ 7 (n_ 6),o_ 8 (.mov (i_ 0))])
 (.blk 0 (.loop [3,6,7,8] L45_0)))
 (.seq (.reg [v_ 17 3,v_ 2 17])
 .ret))))⟩
def mf46 : SF := ⟨8,[(.t 4)],
 (.seq (.reg [o_ 3 (.box (.t 1) 1),o_ 4 (.mov (.k .nilS))])
 (.seq (.reg [v_ 5 0,o_ 6 (.mkfn (.func 87) [] [(.t 3)]),c_ 7 86 [(.t 5),(.t 6)],v_ 4 7])
 .ret))⟩
def L47_0 : SC := (.seq (.reg [o_ 30 (.bin .lss (.t 29) (.t 28))])
 (.seq (.cond (.t 30) .skip
 (.exit 0))
 (.seq (.blk 1 (.seq (.reg [v_ 31 29,z_ 32 2 27 29,o_ 33 (w_ 32 2),o_ 11 (.alloc [(.int .i64 0),(.int .i64 0)]),v_ 10 31,s_ 11 33 2])
 (.seq (.reg [v_ 34 1,o_ 35 (a_ 11 1),y_ 36 35,o_ 37 (.bin .leq (.t 34) (.t 36))])
 (.cond (.t 37) (.reg [v_ 38 9, v_ 39 10, .call (some 40) none (.k (.fn (.method "windsock/cache.push") [] [])) [(.t 38), (.t 39)]])
 .skip))))
 (.reg [j_ 41 29,v_ 29 41]))))
def L47_1 : SC := (.seq (.seq (.reg [v_ 42 2,o_ 43 (.bin .gtr (.t 42) (i_ 0))])
 (.cond (.t 43) .skip
 (.exit 2)))
 (.blk 3 (.seq (.reg [v_ 45 9, .call (some 46) none (.k (.fn (.method "windsock/cache.pop") [] [])) [(.t 45)], v_ 44 46, o_ 47 (e_ 44 0), o_ 48 (e_ 44 1), v_ 12 47, v_ 13 48])
 (.seq (.seq (.reg [v_ 49 13,o_ 50 (.un .not (.t 49))])
 (.cond (.t 50) (.exit 2)
 .skip))
 (.seq (.reg [v_ 51 2,v_ 52 8,v_ 53 12,z_ 54 2 52 53,o_ 55 (a_ 54 0),y_ 56 55,o_ 57 (.minmax true [(.t 51),(.t 56)]),v_ 14 57])
 (.seq (.reg [v_ 58 8,v_ 59 12,z_ 60 2 58 59,o_ 61 (a_ 60 0),y_ 62 61,v_ 63 14,o_ 64 (.bin .sub (.t 62) (.t 63)),z_ 65 2 58 59,o_ 66 (a_ 65 0),s_ 66 64 1])
 (.reg [v_ 67 2,v_ 68 14,o_ 69 (.bin .sub (.t 67) (.t 68)),v_ 2 69])))))))
def mf47 : SF := ⟨72,[(.t 6),(.t 7)],
 (.seq (.reg [o_ 6 (.mov (.k .nilS)),o_ 7 (b_ false)])
 (.seq (.seq (.reg [v_ 15 0,v_ 16 1,c_ 17 46 [(.t 15),(.t 16)],c_ 18 45 [(.t 17)],v_ 19 2,o_ 20 (.bin .lss (.t 18) (.t 19))])
 (.cond (.t 20) (.seq (.reg [o_ 6 (.mov (.k .nilS)),o_ 7 (b_ false)])
 .ret)
 .skip))
 (.seq (.reg [v_ 21 0,c_ 22 88 [(.t 21)],v_ 8 22])
 (.seq (.reg [v_ 23 0,o_ 24 (.build [.nilS,.nilS] [(0,1,(.t 23))]),o_ 25 (.box (.t 24) 2),o_ 26 (.mkif 185 (.t 25)),v_ 9 26])
 (.seq (.seq (.reg [v_ 27 0,o_ 28 (n_ 27),o_ 29 (.mov (i_ 0))])
 (.blk 0 (.loop [1,2,8,9,27,28,29] L47_0)))
 (.seq (.blk 2 (.loop [2,8,9] L47_1))
 (.seq (.reg [v_ 70 8,c_ 71 86 [(.t 70),(f_ 89)],v_ 6 71,o_ 7 (b_ true)])
 .ret)))))))⟩
def mf61 : SF := ⟨15,[(.t 6)],
 (.seq (.reg [o_ 6 (b_ false)])
 (.seq (.reg [v_ 7 0,v_ 8 1,o_ 9 (.bin .geq (.t 7) (.t 8)),v_ 10 9,q_ 11 10 true (m_ 0),q_ 12 10 true (m_ 2),q_ 13 10 true (.bin .leq (.t 11) (.t 12)),o_ 14 (p_ 10 13),v_ 6 14])
 .ret))⟩
def mf66 : SF := ⟨22,[(.t 4)],
 (.seq (.reg [o_ 4 (.mov (i_ 0))])
 (.seq (.seq (.reg [v_ 5 1,o_ 6 (n_ 5),o_ 7 (.bin .gtr (.t 6) (i_ 8))])
 (.cond (.t 7) (.seq (.reg [o_ 4 (.mov (i_ 3))])
 .ret)
 .skip))
 (.seq (.seq (.reg [v_ 8 0,o_ 9 (.bslice 1 [(.int .i64 0)] 1 [(0,1,(.t 8))]),c_ 10 123 [(.t 9)],o_ 11 (.un .not (.t 10)),v_ 12 11,q_ 13 12 false (m_ 1),d_ 14 12 false 124 [(.t 13),(f_ 125)],q_ 15 12 false (.un .not (.t 14)),o_ 16 (r_ 12 15),v_ 17 16,q_ 18 17 false (m_ 1),d_ 19 17 false 126 [(.t 18)],q_ 20 17 false (.bin .eql (.t 19) (i_ 0)),o_ 21 (r_ 17 20)])
 (.cond (.t 21) (.seq (.reg [o_ 4 (.mov (i_ 2))])
 .ret)
 .skip))
 (.seq (.reg [o_ 4 (.mov (i_ 0))])
 .ret))))⟩
def mf67 : SF := ⟨15,[(.t 6)],
 (.seq (.reg [o_ 6 (b_ false)])
 (.seq (.reg [v_ 7 0,v_ 8 1,o_ 9 (.bin .geq (.t 7) (.t 8)),v_ 10 9,q_ 11 10 true (m_ 0),q_ 12 10 true (m_ 2),q_ 13 10 true (.bin .leq (.t 11) (.t 12)),o_ 14 (p_ 10 13),v_ 6 14])
 .ret))⟩
def L68_0 : SC := (.seq (.reg [o_ 16 (.bin .lss (.t 15) (.t 14))])
 (.seq (.cond (.t 16) .skip
 (.exit 0))
 (.seq (.blk 1 (.seq (.reg [z_ 17 1 13 15,y_ 18 17,v_ 10 18])
 (.seq (.reg [v_ 19 7,v_ 20 10,o_ 21 (.bin .add (.t 19) (.t 20)),v_ 7 21])
 (.seq (.reg [v_ 22 5,v_ 23 0,v_ 24 7,o_ 25 (.bin .mul (.t 23) (.t 24)),v_ 26 8,o_ 27 (.bin .quo (.t 25) (.t 26)),v_ 28 6,o_ 29 (.bin .sub (.t 27) (.t 28)),o_ 30 (.bslice 1 [(.int .i64 0)] 1 [(0,1,(.t 29))]),o_ 31 (.app 1 [(.int .i64 0)] 8 (.t 22) (.t 30)),v_ 5 31])
 (.reg [v_ 32 0,v_ 33 7,o_ 34 (.bin .mul (.t 32) (.t 33)),v_ 35 8,o_ 36 (.bin .quo (.t 34) (.t 35)),v_ 6 36])))))
 (.reg [j_ 37 15,v_ 15 37]))))
def mf68 : SF := ⟨39,[(.t 4)],
 (.seq (.reg [o_ 4 (.mov (.k .nilS))])
 (.seq (.reg [o_ 5 (.mov (.k .nilS))])
 (.seq (.reg [v_ 11 1,c_ 12 126 [(.t 11)],o_ 6 (.mov (i_ 0)),o_ 7 (.mov (i_ 0)),v_ 8 12])
 (.seq (.seq (.reg [v_ 13 1,o_ 14 (n_ 13),o_ 15 (.mov (i_ 0))])
 (.blk 0 (.loop [0,5,6,7,8,13,14,15] L68_0)))
 (.seq (.reg [v_ 38 5,v_ 4 38])
 .ret)))))⟩
def mf75 : SF := ⟨14,[(.c 4 (some 2))],
 (.seq (.reg [o_ 2 (.box (.t 0) 10),o_ 4 (.alloc [(.int .i64 0),(.int .i64 0)])])
 (.seq (.draw [true] [o_ 5 (a_ 2 4),y_ 6 5,v_ 7 1,o_ 8 (a_ 2 4),y_ 9 8,o_ 10 (n_ 9),o_ 11 (.bin .rem (.t 7) (.t 10)),z_ 12 2 6 11,o_ 13 (w_ 12 2),s_ 4 13 2] [[],[0],[],[],[3],[4,3],[2,5,4,3],[1,0,6,2,5,4,3],[7,1,0,6,2,5,4,3],[8,7,1,0,6,2,5,4,3]])
 .ret))⟩
def mf76 : SF := ⟨31,[(.t 2)],
 (.seq (.reg [o_ 1 (.box (.t 0) 2),o_ 2 (b_ false)])
 (.seq (.reg [o_ 5 (a_ 1 0),y_ 6 5,c_ 7 136 [(.t 6),(f_ 137)],v_ 3 7])
 (.seq (.reg [o_ 8 (a_ 1 1),y_ 9 8,c_ 10 138 [(.t 9),(f_ 141)],v_ 4 10])
 (.seq (.reg [o_ 11 (a_ 1 0),y_ 12 11,o_ 13 (n_ 12),c_ 14 61 [(.t 13),(i_ 2),(i_ 8)],v_ 15 14,q_ 16 15 true (a_ 1 1),q_ 17 15 true (l_ 16),q_ 18 15 true (n_ 17),q_ 19 15 true (a_ 1 0),q_ 20 15 true (l_ 19),q_ 21 15 true (n_ 20),q_ 22 15 true (.bin .sub (.t 21) (i_ 1)),q_ 23 15 true (.bin .eql (.t 18) (.t 22)),o_ 24 (p_ 15 23),v_ 25 24,q_ 26 25 true (m_ 3),o_ 27 (p_ 25 26),v_ 28 27,q_ 29 28 true (m_ 4),o_ 30 (p_ 28 29),v_ 2 30])
 .ret))))⟩
def D77_80 : List MIx := [o_ 21 (m_ 3),o_ 22 (m_ 4),o_ 23 (m_ 5),o_ 24 (.addr (.t 1) 0),o_ 25 (l_ 24),o_ 26 (m_ 4),o_ 27 (.idxs 2 (.t 25) (.t 26)),o_ 28 (.load (.t 27) (some 2)),o_ 29 (m_ 5),.call (some 30) none (f_ 142) [(.t 28),(.t 29)],o_ 31 (m_ 30),q_ 32 31 true (.load (.t 1) (some 2)),q_ 33 31 true (m_ 3),q_ 34 31 true (m_ 4),q_ 35 31 true (m_ 5),.call (some 36) (some (31,true)) (f_ 143) [(.t 32),(.t 33),(.t 34),(.t 35)],q_ 37 31 true (.bin .lss (.t 36) (i_ 0)),o_ 38 (.pick (.t 31) (.t 37) (.k (.bool false))),o_ 39 (.idxs 1441 (.t 21) (.t 22)),o_ 40 (.idxa 1441 1 (.t 39) (.t 23)),.op none none (.store (.t 40) (.t 38) 1)]
def B77_80 : List (List Nat) := [[],[],[],[],[3],[],[4,3,5],[6,4,3,5],[],[7,6,4,3,5,8],[9,7,6,4,3,5,8],[10,9,7,6,4,3,5,8],[10,9,7,6,4,3,5,8],[10,9,7,6,4,3,5,8],[10,9,7,6,4,3,5,8],[11,10,9,7,6,4,3,5,8,12,13,14],[15,11,10,9,7,6,4,3,5,8,12,13,14],[10,9,7,6,4,3,5,8,16,15,11,12,13,14],[0,1],[18,0,1,2,3,4,5,6,7,8,9,10,11,12,13,14,15,16,17],[19,18,0,1,2,3,4,5,6,7,8,9,10,11,12,13,14,15,16,17]]
def L77_0 : SC := (.seq (.reg [o_ 19 (.bin .lss (.t 18) (i_ 1441))])
 (.seq (.cond (.t 19) .skip
 (.exit 2))
 (.seq (.blk 3 (.seq (.reg [v_ 20 18,v_ 5 20])
 (.draw [] D77_80 B77_80)))
 (.reg [j_ 41 18,v_ 18 41]))))
def L77_1 : SC := (.seq (.seq (.reg [v_ 14 4,o_ 15 (.bin .geq (.t 14) (i_ 0))])
 (.cond (.t 15) .skip
 (.exit 0)))
 (.seq (.blk 1 (.seq (.reg [o_ 18 (.mov (i_ 0))])
 (.blk 2 (.loop [1,3,4,18] L77_0))))
 (.reg [v_ 16 4,o_ 17 (.bin .sub (.t 16) (i_ 1)),v_ 4 17])))
def mf77 : SF := ⟨43,[(.t 2)],
 (.seq (.reg [o_ 1 (.box (.t 0) 2),o_ 2 (.mov (.k .nilS))])
 (.seq (.reg [o_ 6 (a_ 1 1),y_ 7 6,o_ 8 (n_ 7),o_ 9 (.mksl 1441 (List.replicate 1441 (.bool false)) 1441 (.t 8) (.t 8)),v_ 3 9])
 (.seq (.seq (.reg [o_ 10 (a_ 1 1),y_ 11 10,o_ 12 (n_ 11),o_ 13 (.bin .sub (.t 12) (i_ 1)),v_ 4 13])
 (.blk 0 (.loop [1,3,4] L77_1)))
 (.seq (.reg [v_ 42 3,v_ 2 42])
 .ret))))⟩
def L78_0 : SC := (.seq (.reg [o_ 9 (.bin .lss (.t 8) (.t 7))])
 (.seq (.cond (.t 9) .skip
 (.exit 0))
 (.seq (.blk 1 (.seq (.reg [v_ 10 8,z_ 11 1 6 8,y_ 12 11,v_ 4 10,v_ 5 12])
 (.blk 2 (.seq (.reg [v_ 20 5,o_ 21 (.un .not (.t 20)),v_ 19 21])
 (.cond (.t 19) .skip
 (.seq (.reg [v_ 23 3,o_ 24 (n_ 23),o_ 25 (.bin .gtr (.t 24) (i_ 0)),v_ 26 25,q_ 27 26 true (m_ 3),q_ 28 26 true (m_ 3),q_ 29 26 true (n_ 28),q_ 30 26 true (.bin .sub (.t 29) (i_ 1)),q_ 31 26 true (x_ 2 27 30),q_ 32 26 true (a_ 31 1),q_ 33 26 true (l_ 32),q_ 34 26 true (m_ 4),q_ 35 26 true (.bin .sub (.t 34) (i_ 1)),q_ 36 26 true (.bin .eql (.t 33) (.t 35)),o_ 37 (p_ 26 36),v_ 22 37])
 (.cond (.t 22) (.reg [v_ 38 3,v_ 39 3,o_ 40 (n_ 39),o_ 41 (.bin .sub (.t 40) (i_ 1)),v_ 42 4,z_ 43 2 38 41,o_ 44 (a_ 43 1),s_ 44 42 1])
 (.reg [v_ 13 3,v_ 14 4,v_ 15 4,o_ 16 (.build [(.int .i64 0),(.int .i64 0)] [(0,1,(.t 14)),(1,1,(.t 15))]),o_ 17 (.bslice 2 [(.int .i64 0),(.int .i64 0)] 1 [(0,2,(.t 16))]),o_ 18 (.app 2 [(.int .i64 0),(.int .i64 0)] 16 (.t 13) (.t 17)),v_ 3 18]))))))))
 (.reg [j_ 45 8,v_ 8 45]))))
def mf78 : SF := ⟨47,[(.t 2)],
 (.seq (.reg [o_ 2 (.mov (.k .nilS))])
 (.seq (.reg [o_ 3 (.mov (.k .nilS))])
 (.seq (.seq (.reg [v_ 6 0,o_ 7 (n_ 6),o_ 8 (.mov (i_ 0))])
 (.blk 0 (.loop [3,6,7,8] L78_0)))
 (.seq (.reg [v_ 46 3,v_ 2 46])
 .ret))))⟩
def mf79 : SF := ⟨26,[(.t 6)],
 (.seq (.reg [o_ 3 (.box (.t 0) 2),o_ 5 (.box (.t 2) 1),o_ 6 (.mov (i_ 0))])
 (.seq (.seq (.reg [v_ 8 1,o_ 9 (n_ 8),o_ 10 (.bin .gtr (.t 9) (i_ 6))])
 (.cond (.t 10) (.seq (.reg [o_ 6 (.mov (i_ 3))])
 .ret)
 .skip))
 (.seq (.reg [v_ 11 1,o_ 12 (.mkfn (.func 145) [] [(.t 5)]),c_ 13 144 [(.t 11),(.t 12)],v_ 7 13])
 (.seq (.seq (.reg [v_ 14 1,o_ 15 (n_ 14),o_ 16 (.bin .eql (.t 15) (i_ 0)),v_ 17 16,q_ 18 17 false (w_ 3 2),d_ 19 17 false 148 [(.t 18),(i_ 0),(i_ 20000)],q_ 20 17 false (.un .not (.t 19)),o_ 21 (r_ 17 20),v_ 22 21,q_ 23 22 false (m_ 7),q_ 24 22 false (.un .not (.t 23)),o_ 25 (r_ 22 24)])
 (.cond (.t 25) (.seq (.reg [o_ 6 (.mov (i_ 2))])
 .ret)
 .skip))
 (.seq (.reg [o_ 6 (.mov (i_ 0))])
 .ret)))))⟩
def mf80 : SF := ⟨77,[(.t 2)],
 (.seq (.reg [o_ 1 (.box (.t 0) 10),o_ 2 (b_ false)])
 (.seq (.reg [o_ 4 (a_ 1 0),o_ 5 (a_ 4 4),y_ 6 5,c_ 7 149 [(.t 6),(f_ 150)],v_ 3 7])
 (.seq (.reg [o_ 8 (a_ 1 0),o_ 9 (a_ 8 0),y_ 10 9,c_ 11 151 [(.t 10),(i_ 1),(i_ 20000)],v_ 12 11,q_ 13 12 true (a_ 1 0),q_ 14 12 true (a_ 13 1),q_ 15 12 true (l_ 14),d_ 16 12 true 151 [(.t 15),(i_ (-20000000)),(i_ 20000000)],o_ 17 (p_ 12 16),v_ 18 17,q_ 19 18 true (a_ 1 0),q_ 20 18 true (a_ 19 2),q_ 21 18 true (l_ 20),q_ 22 18 true (a_ 1 0),q_ 23 18 true (a_ 22 3),q_ 24 18 true (l_ 23),q_ 25 18 true (a_ 1 0),q_ 26 18 true (a_ 25 8),q_ 27 18 true (l_ 26),q_ 28 18 true (.bslice 1 [(.int .i64 0)] 3 [(0,1,(.t 21)),(1,1,(.t 24)),(2,1,(.t 27))]),d_ 29 18 true 147 [(.t 28)],o_ 30 (p_ 18 29),v_ 31 30,q_ 32 31 true (a_ 1 0),q_ 33 31 true (a_ 32 4),q_ 34 31 true (l_ 33),q_ 35 31 true (n_ 34),d_ 36 31 true 151 [(.t 35),(i_ 3),(i_ 12)],o_ 37 (p_ 31 36),v_ 38 37,q_ 39 38 true (a_ 1 0),q_ 40 38 true (a_ 39 5),q_ 41 38 true (l_ 40),q_ 42 38 true (n_ 41),q_ 43 38 true (.bin .leq (.t 42) (i_ 8)),o_ 44 (p_ 38 43),v_ 45 44,q_ 46 45 true (a_ 1 0),q_ 47 45 true (a_ 46 9),q_ 48 45 true (l_ 47),q_ 49 45 true (n_ 48),q_ 50 45 true (.bin .leq (.t 49) (i_ 2)),o_ 51 (p_ 45 50),v_ 52 51,q_ 53 52 true (m_ 3),o_ 54 (p_ 52 53),v_ 55 54,q_ 56 55 true (a_ 1 0),q_ 57 55 true (a_ 56 5),q_ 58 55 true (l_ 57),d_ 59 55 true 152 [(.t 58),(f_ 153)],o_ 60 (p_ 55 59),v_ 61 60,q_ 62 61 true (a_ 1 0),q_ 63 61 true (a_ 62 6),q_ 64 61 true (w_ 63 2),d_ 65 61 true 153 [(.t 64)],o_ 66 (p_ 61 65),v_ 67 66,q_ 68 67 true (a_ 1 0),q_ 69 67 true (a_ 68 9),q_ 70 67 true (l_ 69),d_ 71 67 true 152 [(.t 70),(f_ 153)],o_ 72 (p_ 67 71),v_ 73 72,q_ 74 73 true (w_ 1 10),d_ 75 73 true 154 [(.t 74)],o_ 76 (p_ 73 75),v_ 2 76])
 .ret)))⟩
def L81_0 : SC := (.seq (.reg [o_ 19 (.bin .lss (.t 18) (.t 17))])
 (.seq (.cond (.t 19) .skip
 (.exit 0))
 (.seq (.blk 1 (.seq (.reg [z_ 20 7 16 18,o_ 21 (w_ 20 7),o_ 12 (.alloc [.nilS,(.bool false),(.int .i64 0),(.int .i64 0),(.int .i64 0),(.int .i64 0),(.int .i64 0)]),s_ 12 21 7])
 (.seq (.seq (.reg [o_ 22 (a_ 12 1),y_ 23 22])
 (.cond (.t 23) (.reg [o_ 24 (.build [(.int .i64 0),(.int .i64 0)] []),s_ 9 24 2])
 .skip))
 (.seq (.reg [o_ 25 (a_ 8 0),y_ 26 25,o_ 27 (a_ 12 2),y_ 28 27,o_ 29 (.bin .add (.t 26) (.t 28)),o_ 30 (a_ 8 1),y_ 31 30,o_ 32 (a_ 12 2),y_ 33 32,o_ 34 (.bin .add (.t 31) (.t 33)),o_ 35 (.build [(.int .i64 0),(.int .i64 0)] [(0,1,(.t 29)),(1,1,(.t 34))]),s_ 8 35 2])
 (.seq (.reg [v_ 36 10,o_ 37 (w_ 12 7),.call (some 38) none (.t 36) [(.t 37),(.k (.bool false))]])
 (.seq (.reg [o_ 39 (a_ 8 0),y_ 40 39,o_ 41 (a_ 12 3),o_ 42 (a_ 41 1),y_ 43 42,o_ 44 (.bin .sub (.t 40) (.t 43)),o_ 45 (a_ 8 1),y_ 46 45,o_ 47 (a_ 12 3),o_ 48 (a_ 47 0),y_ 49 48,o_ 50 (.bin .sub (.t 46) (.t 49)),o_ 51 (.build [(.int .i64 0),(.int .i64 0)] [(0,1,(.t 44)),(1,1,(.t 50))]),s_ 8 51 2])
 (.seq (.reg [o_ 52 (a_ 9 0),y_ 53 52,o_ 54 (a_ 12 5),o_ 55 (a_ 54 0),y_ 56 55,o_ 57 (.bin .add (.t 53) (.t 56)),o_ 58 (a_ 9 1),y_ 59 58,o_ 60 (a_ 12 5),o_ 61 (a_ 60 1),y_ 62 61,o_ 63 (.bin .add (.t 59) (.t 62)),o_ 64 (.build [(.int .i64 0),(.int .i64 0)] [(0,1,(.t 57)),(1,1,(.t 63))]),s_ 9 64 2])
 (.reg [v_ 65 10,o_ 66 (w_ 12 7),.call (some 67) none (.t 65) [(.t 66),(.k (.bool true))]]))))))))
 (.reg [j_ 68 18,v_ 18 68]))))
def mf81 : SF := ⟨70,[(.t 6)],
 (.seq (.reg [o_ 3 (.box (.t 0) 10),o_ 4 (.box (.t 1) 2),o_ 6 (.mov (.k .nilS))])
 (.seq (.reg [o_ 7 (.alloc [.nilS])])
 (.seq (.reg [o_ 13 (w_ 4 2),o_ 14 (.build [(.int .i64 0),(.int .i64 0)] []),o_ 8 (.alloc [(.int .i64 0),(.int .i64 0)]),o_ 9 (.alloc [(.int .i64 0),(.int .i64 0)]),s_ 8 13 2,s_ 9 14 2])
 (.seq (.reg [o_ 15 (.mkfn (.func 155) [] [(.t 8),(.t 3),(.t 9),(.t 7)]),v_ 10 15])
 (.seq (.seq (.reg [v_ 16 2,o_ 17 (n_ 16),o_ 18 (.mov (i_ 0))])
 (.blk 0 (.loop [7,8,9,10,16,17,18] L81_0)))
 (.seq (.reg [y_ 69 7,v_ 6 69])
 .ret))))))⟩
def mf82 : SF := ⟨16,[(.c 2 (some 6))],
 (.seq (.reg [o_ 1 (.box (.t 0) 15),o_ 2 (.alloc [.nilF,.nilF,.nilF,.nilF,.nilF,.nilF])])
 (.seq (.reg [o_ 3 (w_ 1 15),o_ 4 (.mkfn (.func 156) [(.t 3)] []),o_ 5 (w_ 1 15),o_ 6 (.mkfn (.func 157) [(.t 5)] []),o_ 7 (w_ 1 15),o_ 8 (.mkfn (.func 158) [(.t 7)] []),o_ 9 (w_ 1 15),o_ 10 (.mkfn (.func 159) [(.t 9)] []),o_ 11 (w_ 1 15),o_ 12 (.mkfn (.func 160) [(.t 11)] []),o_ 13 (w_ 1 15),o_ 14 (.mkfn (.func 161) [(.t 13)] []),o_ 15 (.build [.nilF,.nilF,.nilF,.nilF,.nilF,.nilF] [(0,1,(.t 4)),(1,1,(.t 6)),(2,1,(.t 8)),(3,1,(.t 10)),(4,1,(.t 12)),(5,1,(.t 14))]),s_ 2 15 6])
 .ret))⟩
def L83_0 : SC := (.seq (.reg [o_ 18 (.bin .lss (.t 17) (.t 16))])
 (.seq (.cond (.t 18) .skip
 (.exit 2))
 (.seq (.blk 3 (.seq (.reg [v_ 19 17,z_ 20 1 15 17,y_ 21 20,v_ 6 19,v_ 7 21])
 (.seq (.reg [v_ 22 7])
 (.cond (.t 22) (.seq (.reg [v_ 23 4,o_ 24 (.bin .add (i_ 2) (.t 23)),v_ 25 6,v_ 2 24,v_ 3 25])
 .ret)
 .skip))))
 (.reg [j_ 26 17,v_ 17 26]))))
def L83_1 : SC := (.seq (.reg [o_ 11 (.bin .lss (.t 10) (i_ 6))])
 (.seq (.cond (.t 11) .skip
 (.exit 0))
 (.seq (.blk 1 (.seq (.reg [v_ 12 10,o_ 13 (.idx 6 1 false (.t 9) (.t 10)),v_ 4 12,v_ 5 13])
 (.seq (.reg [v_ 14 5,.call (some 15) none (.t 14) [],o_ 16 (n_ 15),o_ 17 (.mov (i_ 0))])
 (.blk 2 (.loop [4,9,10,15,16,17] L83_0)))))
 (.reg [j_ 27 10,v_ 10 27]))))
def mf83 : SF := ⟨28,[(.t 2),(.t 3)],
 (.seq (.reg [o_ 1 (.box (.t 0) 15),o_ 2 (.mov (i_ 0)),o_ 3 (.mov (i_ 0))])
 (.seq (.seq (.reg [o_ 8 (w_ 1 15),c_ 9 82 [(.t 8)],o_ 10 (.mov (i_ 0))])
 (.blk 0 (.loop [9,10] L83_1)))
 (.seq (.reg [o_ 2 (.mov (i_ 1)),o_ 3 (.mov (i_ 0))])
 .ret)))⟩
def mf84 : SF := ⟨9,[(.t 4)],
 (.seq (.reg [o_ 4 (b_ false)])
 (.seq (.reg [v_ 5 0,v_ 6 1,c_ 7 162 [(.t 5),(.t 6)],o_ 8 (.bin .geq (.t 7) (i_ 0)),v_ 4 8])
 .ret))⟩
def mf85 : SF := ⟨13,[(.t 2)],
 (.seq (.reg [o_ 1 (.box (.t 0) 2),o_ 2 (b_ false)])
 (.seq (.reg [o_ 3 (a_ 1 0),y_ 4 3,c_ 5 44 [(.t 4),(i_ 1),(i_ 1000)],o_ 6 (.un .not (.t 5)),v_ 7 6,q_ 8 7 false (a_ 1 1),q_ 9 7 false (l_ 8),d_ 10 7 false 44 [(.t 9),(i_ 0),(i_ 400)],q_ 11 7 false (.un .not (.t 10)),o_ 12 (r_ 7 11),v_ 2 12])
 .ret))⟩
def L86_0 : SC := (.seq (.reg [o_ 11 (.bin .lss (.t 10) (.t 9))])
 (.seq (.cond (.t 11) .skip
 (.exit 0))
 (.seq (.blk 1 (.seq (.reg [z_ 12 2 8 10,o_ 13 (w_ 12 2),o_ 7 (.alloc [(.int .i64 0),(.int .i64 0)]),s_ 7 13 2])
 (.seq (.reg [v_ 14 1,o_ 15 (w_ 7 2),.call (some 16) none (.t 14) [(.t 15)]])
 (.cond (.t 16) (.reg [v_ 17 5,o_ 18 (w_ 7 2),o_ 19 (.bslice 2 [(.int .i64 0),(.int .i64 0)] 1 [(0,2,(.t 18))]),o_ 20 (.app 2 [(.int .i64 0),(.int .i64 0)] 16 (.t 17) (.t 19)),v_ 5 20])
 .skip))))
 (.reg [j_ 21 10,v_ 10 21]))))
def mf86 : SF := ⟨23,[(.t 4)],
 (.seq (.reg [o_ 4 (.mov (.k .nilS))])
 (.seq (.reg [o_ 5 (.mov (.k .nilS))])
 (.seq (.seq (.reg [v_ 8 0,o_ 9 (n_ 8),o_ 10 (.mov (i_ 0))])
 (.blk 0 (.loop [1,5,8,9,10] L86_0)))
 (.seq (.reg [v_ 22 5,v_ 4 22])
 .ret))))⟩
def mf87 : SF := ⟨8,[(.t 3)],
 (.seq (.reg [o_ 2 (.box (.t 0) 2),o_ 3 (b_ false)])
 (.seq (.reg [y_ 4 1,o_ 5 (a_ 2 1),y_ 6 5,o_ 7 (.bin .leq (.t 4) (.t 6)),v_ 3 7])
 .ret))⟩
def mf88 : SF := ⟨8,[(.t 2)],
 (.seq (.reg [o_ 2 (.mov (.k .nilS))])
 (.seq (.seq (.reg [v_ 3 0,o_ 4 (.eqnil true false (.t 3))])
 (.cond (.t 4) (.seq (.reg [o_ 2 (.mov (.k .nilS))])
 .ret)
 .skip))
 (.seq (.reg [o_ 5 (.bslice 2 [(.int .i64 0),(.int .i64 0)] 0 []),v_ 6 0,o_ 7 (.app 2 [(.int .i64 0),(.int .i64 0)] 16 (.t 5) (.t 6)),v_ 2 7])
 .ret)))⟩
def mf89 : SF := ⟨6,[(.t 2)],
 (.seq (.reg [o_ 1 (.box (.t 0) 2),o_ 2 (b_ false)])
 (.seq (.reg [o_ 3 (a_ 1 0),y_ 4 3,o_ 5 (.bin .gtr (.t 4) (i_ 0)),v_ 2 5])
 .ret))⟩
def mf123 : SF := ⟨5,[(.t 2)],
 (.seq (.reg [o_ 2 (b_ false)])
 (.seq (.reg [v_ 3 0,c_ 4 124 [(.t 3),(f_ 168)],v_ 2 4])
 .ret))⟩
def L124_0 : SC := (.seq (.reg [o_ 10 (.bin .lss (.t 9) (.t 8))])
 (.seq (.cond (.t 10) .skip
 (.exit 0))
 (.seq (.blk 1 (.seq (.reg [v_ 11 9,z_ 12 1 7 9,y_ 13 12,v_ 5 11,v_ 6 13])
 (.seq (.reg [v_ 14 1,v_ 15 5,v_ 16 6,.call (some 17) none (.t 14) [(.t 15),(.t 16)],o_ 18 (.un .not (.t 17))])
 (.cond (.t 18) (.seq (.reg [o_ 4 (b_ false)])
 .ret)
 .skip))))
 (.reg [j_ 19 9,v_ 9 19]))))
def mf124 : SF := ⟨20,[(.t 4)],
 (.seq (.reg [o_ 4 (b_ false)])
 (.seq (.seq (.reg [v_ 7 0,o_ 8 (n_ 7),o_ 9 (.mov (i_ 0))])
 (.blk 0 (.loop [1,7,8,9] L124_0)))
 (.seq (.reg [o_ 4 (b_ true)])
 .ret)))⟩
def mf125 : SF := ⟨7,[(.t 4)],
 (.seq (.reg [o_ 4 (b_ false)])
 (.seq (.reg [v_ 5 1,c_ 6 67 [(.t 5),(i_ 0),(i_ 10000)],v_ 4 6])
 .ret))⟩
def L126_0 : SC := (.seq (.reg [o_ 9 (.bin .lss (.t 8) (.t 7))])
 (.seq (.cond (.t 9) .skip
 (.exit 0))
 (.seq (.blk 1 (.seq (.reg [z_ 10 1 6 8,y_ 11 10,v_ 5 11])
 (.reg [v_ 12 3,v_ 13 5,o_ 14 (.bin .add (.t 12) (.t 13)),v_ 3 14])))
 (.reg [j_ 15 8,v_ 8 15]))))
def mf126 : SF := ⟨17,[(.t 2)],
 (.seq (.reg [o_ 2 (.mov (i_ 0))])
 (.seq (.reg [o_ 3 (.mov (i_ 0))])
 (.seq (.seq (.reg [v_ 6 0,o_ 7 (n_ 6),o_ 8 (.mov (i_ 0))])
 (.blk 0 (.loop [3,6,7,8] L126_0)))
 (.seq (.reg [v_ 16 3,v_ 2 16])
 .ret))))⟩
def L136_0 : SC := (.seq (.reg [o_ 10 (.bin .lss (.t 9) (.t 8))])
 (.seq (.cond (.t 10) .skip
 (.exit 0))
 (.seq (.blk 1 (.seq (.reg [v_ 11 9,z_ 12 2 7 9,o_ 13 (w_ 12 2),o_ 6 (.alloc [.nilS,(.int .i64 0)]),v_ 5 11,s_ 6 13 2])
 (.seq (.reg [v_ 14 1,v_ 15 5,o_ 16 (w_ 6 2),.call (some 17) none (.t 14) [(.t 15),(.t 16)],o_ 18 (.un .not (.t 17))])
 (.cond (.t 18) (.seq (.reg [o_ 4 (b_ false)])
 .ret)
 .skip))))
 (.reg [j_ 19 9,v_ 9 19]))))
def mf136 : SF := ⟨20,[(.t 4)],
 (.seq (.reg [o_ 4 (b_ false)])
 (.seq (.seq (.reg [v_ 7 0,o_ 8 (n_ 7),o_ 9 (.mov (i_ 0))])
 (.blk 0 (.loop [1,7,8,9] L136_0)))
 (.seq (.reg [o_ 4 (b_ true)])
 .ret)))⟩
def mf137 : SF := ⟨20,[(.t 4)],
 (.seq (.reg [o_ 3 (.box (.t 1) 2),o_ 4 (b_ false)])
 (.seq (.reg [o_ 5 (a_ 3 0),y_ 6 5,o_ 7 (n_ 6),o_ 8 (.bin .leq (.t 7) (i_ 10)),v_ 9 8,q_ 10 9 true (a_ 3 1),q_ 11 9 true (l_ 10),d_ 12 9 true 61 [(.t 11),(i_ 0),(i_ 300)],o_ 13 (p_ 9 12),v_ 14 13,q_ 15 14 true (a_ 3 0),q_ 16 14 true (l_ 15),q_ 17 14 true (.mkfn (.func 139) [] [(.t 3)]),d_ 18 14 true 138 [(.t 16),(.t 17)],o_ 19 (p_ 14 18),v_ 4 19])
 .ret))⟩
def L138_0 : SC := (.seq (.reg [o_ 10 (.bin .lss (.t 9) (.t 8))])
 (.seq (.cond (.t 10) .skip
 (.exit 0))
 (.seq (.blk 1 (.seq (.reg [v_ 11 9,z_ 12 2 7 9,o_ 13 (w_ 12 2),o_ 6 (.alloc [(.int .i64 0),(.int .i64 0)]),v_ 5 11,s_ 6 13 2])
 (.seq (.reg [v_ 14 1,v_ 15 5,o_ 16 (w_ 6 2),.call (some 17) none (.t 14) [(.t 15),(.t 16)],o_ 18 (.un .not (.t 17))])
 (.cond (.t 18) (.seq (.reg [o_ 4 (b_ false)])
 .ret)
 .skip))))
 (.reg [j_ 19 9,v_ 9 19]))))
def mf138 : SF := ⟨20,[(.t 4)],
 (.seq (.reg [o_ 4 (b_ false)])
 (.seq (.seq (.reg [v_ 7 0,o_ 8 (n_ 7),o_ 9 (.mov (i_ 0))])
 (.blk 0 (.loop [1,7,8,9] L138_0)))
 (.seq (.reg [o_ 4 (b_ true)])
 .ret)))⟩
def mf139 : SF := ⟨25,[(.t 5)],
 (.seq (.reg [o_ 4 (.box (.t 1) 2),o_ 5 (b_ false)])
 (.seq (.draw [true] [o_ 6 (w_ 4 2),c_ 7 140 [(.t 6),(i_ 1440)],v_ 8 7,q_ 9 8 true (m_ 0),q_ 10 8 true (.bin .eql (.t 9) (i_ 0)),q_ 11 8 true (m_ 10),q_ 12 11 false (a_ 4 0),q_ 13 11 false (l_ 12),q_ 14 11 false (a_ 2 0),q_ 15 11 false (l_ 14),q_ 16 11 false (m_ 0),q_ 17 11 false (.bin .sub (.t 16) (i_ 1)),q_ 18 11 false (x_ 2 15 17),q_ 19 11 false (a_ 18 1),q_ 20 11 false (l_ 19),q_ 21 11 false (.bin .add (.t 20) (i_ 1)),q_ 22 11 false (.bin .gtr (.t 13) (.t 21)),q_ 23 8 true (r_ 11 22),o_ 24 (p_ 8 23),v_ 5 24] [[],[0],[1,0],[2,1,0],[3,2,1,0],[4,3,2,1,0],[5,4,3,2,1,0],[6,5,4,3,2,1,0],[5,4,3,2,1,0],[8,5,4,3,2,1,0],[5,4,3,2,1,0],[10,5,4,3,2,1,0],[9,8,5,4,3,2,1,0,11,10],[12,9,8,5,4,3,2,1,0,11,10],[13,12,9,8,5,4,3,2,1,0,11,10],[14,13,12,9,8,5,4,3,2,1,0,11,10],[7,6,5,4,3,2,1,0,15,14,13,12,9,8,11,10],[5,4,3,2,1,0,16,7,6,15,14,13,12,9,8,11,10],[2,1,0,17,5,4,3,16,7,6,15,14,13,12,9,8,11,10],[18,2,1,0,17,5,4,3,16,7,6,15,14,13,12,9,8,11,10]])
 .ret))⟩
def mf140 : SF := ⟨21,[(.t 4)],
 (.seq (.reg [o_ 2 (.box (.t 0) 2),o_ 4 (b_ false)])
 (.seq (.reg [o_ 5 (a_ 2 0),y_ 6 5,o_ 7 (.bin .geq (.t 6) (i_ 0)),v_ 8 7,q_ 9 8 true (a_ 2 0),q_ 10 8 true (l_ 9),q_ 11 8 true (a_ 2 1),q_ 12 8 true (l_ 11),q_ 13 8 true (.bin .leq (.t 10) (.t 12)),o_ 14 (p_ 8 13),v_ 15 14,q_ 16 15 true (a_ 2 1),q_ 17 15 true (l_ 16),q_ 18 15 true (m_ 1),q_ 19 15 true (.bin .leq (.t 17) (.t 18)),o_ 20 (p_ 15 19),v_ 4 20])
 .ret))⟩
def mf141 : SF := ⟨7,[(.t 4)],
 (.seq (.reg [o_ 3 (.box (.t 1) 2),o_ 4 (b_ false)])
 (.seq (.reg [o_ 5 (w_ 3 2),c_ 6 140 [(.t 5),(i_ 300)],v_ 4 6])
 .ret))⟩
def L142_0 : SC := (.seq (.reg [o_ 11 (.bin .lss (.t 10) (.t 9))])
 (.seq (.cond (.t 11) .skip
 (.exit 0))
 (.seq (.blk 1 (.seq (.reg [z_ 12 2 8 10,o_ 13 (w_ 12 2),o_ 6 (.alloc [(.int .i64 0),(.int .i64 0)]),s_ 6 13 2])
 (.seq (.reg [v_ 14 1,o_ 15 (a_ 6 0),y_ 16 15,o_ 17 (a_ 6 1),y_ 18 17,c_ 19 61 [(.t 14),(.t 16),(.t 18)]])
 (.cond (.t 19) (.seq (.reg [o_ 4 (b_ true)])
 .ret)
 .skip))))
 (.reg [j_ 20 10,v_ 10 20]))))
def mf142 : SF := ⟨21,[(.t 4)],
 (.seq (.reg [o_ 2 (.box (.t 0) 2),o_ 4 (b_ false)])
 (.seq (.seq (.reg [o_ 7 (a_ 2 0),y_ 8 7,o_ 9 (n_ 8),o_ 10 (.mov (i_ 0))])
 (.blk 0 (.loop [1,8,9,10] L142_0)))
 (.seq (.reg [o_ 4 (b_ false)])
 .ret)))⟩
def L143_0 : SC := (.seq (.seq (.reg [v_ 18 10,o_ 19 (a_ 4 1),y_ 20 19,y_ 21 6,z_ 22 2 20 21,o_ 23 (a_ 22 1),y_ 24 23,o_ 25 (.bin .leq (.t 18) (.t 24))])
 (.cond (.t 25) .skip
 (.exit 0)))
 (.seq (.blk 1 (.seq (.reg [v_ 28 9,v_ 29 3,v_ 30 10,o_ 31 (.bin .add (.t 29) (.t 30)),.call (some 32) none (.t 28) [(.t 31)],o_ 33 (.un .not (.t 32))])
 (.cond (.t 33) (.seq (.reg [v_ 34 10,v_ 8 34])
 .ret)
 .skip)))
 (.reg [v_ 26 10,j_ 27 26,v_ 10 27])))
def mf143 : SF := ⟨35,[(.t 8)],
 (.seq (.reg [o_ 4 (.box (.t 0) 2),o_ 5 (.box (.t 1) 1),o_ 6 (.box (.t 2) 1),o_ 8 (.mov (i_ 0))])
 (.seq (.reg [o_ 11 (.mkfn (.func 172) [] [(.t 4),(.t 6),(.t 5)]),v_ 9 11])
 (.seq (.seq (.reg [o_ 12 (a_ 4 1),y_ 13 12,y_ 14 6,z_ 15 2 13 14,o_ 16 (a_ 15 0),y_ 17 16,v_ 10 17])
 (.blk 0 (.loop [3,4,6,9,10] L143_0)))
 (.seq (.reg [o_ 8 (.mov (i_ (-1)))])
 .ret))))⟩
def L144_0 : SC := (.seq (.reg [o_ 10 (.bin .lss (.t 9) (.t 8))])
 (.seq (.cond (.t 10) .skip
 (.exit 0))
 (.seq (.blk 1 (.seq (.reg [z_ 11 7 7 9,o_ 12 (w_ 11 7),o_ 6 (.alloc [.nilS,(.bool false),(.int .i64 0),(.int .i64 0),(.int .i64 0),(.int .i64 0),(.int .i64 0)]),s_ 6 12 7])
 (.seq (.reg [v_ 13 1,o_ 14 (w_ 6 7),.call (some 15) none (.t 13) [(.t 14)],o_ 16 (.un .not (.t 15))])
 (.cond (.t 16) (.seq (.reg [o_ 4 (b_ false)])
 .ret)
 .skip))))
 (.reg [j_ 17 9,v_ 9 17]))))
def mf144 : SF := ⟨18,[(.t 4)],
 (.seq (.reg [o_ 4 (b_ false)])
 (.seq (.seq (.reg [v_ 7 0,o_ 8 (n_ 7),o_ 9 (.mov (i_ 0))])
 (.blk 0 (.loop [1,7,8,9] L144_0)))
 (.seq (.reg [o_ 4 (b_ true)])
 .ret)))⟩
def mf145 : SF := ⟨24,[(.t 3)],
 (.seq (.reg [o_ 2 (.box (.t 0) 7),o_ 3 (b_ false)])
 (.seq (.reg [o_ 4 (a_ 2 0),y_ 5 4,y_ 6 1,c_ 7 146 [(.t 5),(.t 6)],v_ 8 7,q_ 9 8 true (a_ 2 2),q_ 10 8 true (l_ 9),q_ 11 8 true (.bslice 1 [(.int .i64 0)] 1 [(0,1,(.t 10))]),d_ 12 8 true 147 [(.t 11)],o_ 13 (p_ 8 12),v_ 14 13,q_ 15 14 true (a_ 2 3),q_ 16 14 true (w_ 15 2),d_ 17 14 true 148 [(.t 16),(i_ 0),(i_ 20000)],o_ 18 (p_ 14 17),v_ 19 18,q_ 20 19 true (a_ 2 5),q_ 21 19 true (w_ 20 2),d_ 22 19 true 148 [(.t 21),(i_ 0),(i_ 20000)],o_ 23 (p_ 19 22),v_ 3 23])
 .ret))⟩
def mf146 : SF := ⟨13,[(.t 4)],
 (.seq (.reg [o_ 3 (.box (.t 1) 1),o_ 4 (b_ false)])
 (.seq (.reg [v_ 5 0,o_ 6 (n_ 5),o_ 7 (.bin .leq (.t 6) (i_ 12)),v_ 8 7,q_ 9 8 true (m_ 0),q_ 10 8 true (.mkfn (.func 175) [] [(.t 3)]),d_ 11 8 true 174 [(.t 9),(.t 10)],o_ 12 (p_ 8 11),v_ 4 12])
 .ret))⟩
def mf147 : SF := ⟨5,[(.t 2)],
 (.seq (.reg [o_ 2 (b_ false)])
 (.seq (.reg [v_ 3 0,c_ 4 176 [(.t 3),(f_ 177)],v_ 2 4])
 .ret))⟩
def mf148 : SF := ⟨24,[(.t 6)],
 (.seq (.reg [o_ 3 (.box (.t 0) 2),o_ 6 (b_ false)])
 (.seq (.reg [o_ 7 (a_ 3 0),y_ 8 7,v_ 9 1,o_ 10 (.bin .geq (.t 8) (.t 9)),v_ 11 10,q_ 12 11 true (a_ 3 0),q_ 13 11 true (l_ 12),q_ 14 11 true (a_ 3 1),q_ 15 11 true (l_ 14),q_ 16 11 true (.bin .leq (.t 13) (.t 15)),o_ 17 (p_ 11 16),v_ 18 17,q_ 19 18 true (a_ 3 1),q_ 20 18 true (l_ 19),q_ 21 18 true (m_ 2),q_ 22 18 true (.bin .leq (.t 20) (.t 21)),o_ 23 (p_ 18 22),v_ 6 23])
 .ret))⟩
def L149_0 : SC := (.seq (.reg [o_ 10 (.bin .lss (.t 9) (.t 8))])
 (.seq (.cond (.t 10) .skip
 (.exit 0))
 (.seq (.blk 1 (.seq (.reg [z_ 11 2 7 9,o_ 12 (w_ 11 2),o_ 6 (.alloc [(.int .i64 0),(.int .i64 0)]),s_ 6 12 2])
 (.seq (.reg [v_ 13 1,o_ 14 (w_ 6 2),.call (some 15) none (.t 13) [(.t 14)],o_ 16 (.un .not (.t 15))])
 (.cond (.t 16) (.seq (.reg [o_ 4 (b_ false)])
 .ret)
 .skip))))
 (.reg [j_ 17 9,v_ 9 17]))))
def mf149 : SF := ⟨18,[(.t 4)],
 (.seq (.reg [o_ 4 (b_ false)])
 (.seq (.seq (.reg [v_ 7 0,o_ 8 (n_ 7),o_ 9 (.mov (i_ 0))])
 (.blk 0 (.loop [1,7,8,9] L149_0)))
 (.seq (.reg [o_ 4 (b_ true)])
 .ret)))⟩
def mf150 : SF := ⟨12,[(.t 2)],
 (.seq (.reg [o_ 1 (.box (.t 0) 2),o_ 2 (b_ false)])
 (.seq (.reg [o_ 3 (a_ 1 0),y_ 4 3,o_ 5 (.bslice 1 [(.int .i64 0)] 1 [(0,1,(.t 4))]),c_ 6 147 [(.t 5)],v_ 7 6,q_ 8 7 true (a_ 1 1),q_ 9 7 true (l_ 8),d_ 10 7 true 151 [(.t 9),(i_ (-20000000)),(i_ 20000000)],o_ 11 (p_ 7 10),v_ 2 11])
 .ret))⟩
def mf151 : SF := ⟨15,[(.t 6)],
 (.seq (.reg [o_ 6 (b_ false)])
 (.seq (.reg [v_ 7 0,v_ 8 1,o_ 9 (.bin .geq (.t 7) (.t 8)),v_ 10 9,q_ 11 10 true (m_ 0),q_ 12 10 true (m_ 2),q_ 13 10 true (.bin .leq (.t 11) (.t 12)),o_ 14 (p_ 10 13),v_ 6 14])
 .ret))⟩
def L152_0 : SC := (.seq (.reg [o_ 10 (.bin .lss (.t 9) (.t 8))])
 (.seq (.cond (.t 10) .skip
 (.exit 0))
 (.seq (.blk 1 (.seq (.reg [z_ 11 2 7 9,o_ 12 (w_ 11 2),o_ 6 (.alloc [(.int .i64 0),(.int .i64 0)]),s_ 6 12 2])
 (.seq (.reg [v_ 13 1,o_ 14 (w_ 6 2),.call (some 15) none (.t 13) [(.t 14)],o_ 16 (.un .not (.t 15))])
 (.cond (.t 16) (.seq (.reg [o_ 4 (b_ false)])
 .ret)
 .skip))))
 (.reg [j_ 17 9,v_ 9 17]))))
def mf152 : SF := ⟨18,[(.t 4)],
 (.seq (.reg [o_ 4 (b_ false)])
 (.seq (.seq (.reg [v_ 7 0,o_ 8 (n_ 7),o_ 9 (.mov (i_ 0))])
 (.blk 0 (.loop [1,7,8,9] L152_0)))
 (.seq (.reg [o_ 4 (b_ true)])
 .ret)))⟩
def mf153 : SF := ⟨11,[(.t 2)],
 (.seq (.reg [o_ 1 (.box (.t 0) 2),o_ 2 (b_ false)])
 (.seq (.reg [o_ 3 (a_ 1 0),y_ 4 3,c_ 5 151 [(.t 4),(i_ (-1000)),(i_ 1000)],v_ 6 5,q_ 7 6 true (a_ 1 1),q_ 8 6 true (l_ 7),d_ 9 6 true 151 [(.t 8),(i_ 0),(i_ 20000)],o_ 10 (p_ 6 9),v_ 2 10])
 .ret))⟩
def L154_0 : SC := (.seq (.reg [o_ 14 (.bin .lss (.t 13) (.t 12))])
 (.seq (.cond (.t 14) .skip
 (.exit 2))
 (.seq (.blk 3 (.seq (.reg [v_ 15 13,z_ 16 2 11 13,o_ 17 (w_ 16 2),o_ 5 (.alloc [(.int .i64 0),(.int .i64 0)]),v_ 4 15,s_ 5 17 2])
 (.seq (.reg [v_ 18 4,o_ 19 (a_ 3 0),y_ 20 19,o_ 21 (.bin .neq (.t 18) (.t 20)),v_ 22 21,q_ 23 22 true (m_ 4),q_ 24 22 true (a_ 3 0),q_ 25 22 true (l_ 24),q_ 26 22 true (.bin .add (.t 25) (i_ 1)),q_ 27 22 true (a_ 1 0),q_ 28 22 true (a_ 27 4),q_ 29 22 true (l_ 28),q_ 30 22 true (n_ 29),q_ 31 22 true (.bin .rem (.t 26) (.t 30)),q_ 32 22 true (.bin .neq (.t 23) (.t 31)),o_ 33 (p_ 22 32),v_ 34 33,q_ 35 34 true (w_ 3 5),q_ 36 34 true (a_ 5 0),q_ 37 34 true (l_ 36),q_ 38 34 true (a_ 5 1),q_ 39 34 true (l_ 38),d_ 40 34 true 179 [(.t 35),(.t 37),(.t 39)],q_ 41 34 true (.bin .leq (.t 40) (i_ 0)),o_ 42 (p_ 34 41)])
 (.cond (.t 42) (.seq (.reg [.op none none (.store (.t 2) (.k (.bool false)) 1)])
 .ret)
 .skip))))
 (.reg [j_ 43 13,v_ 13 43]))))
def tW : SC := (.reg [o_ 3 (.alloc [(.int .i64 0),(.int .i64 0),(.int .i64 0),(.int .i64 0),(.int .i64 0)]),s_ 3 8 5])
def R154_1b : SC := (.blk 1 (.seq (.reg [o_ 9 (a_ 1 0),o_ 10 (a_ 9 4),y_ 11 10,o_ 12 (n_ 11),o_ 13 (.mov (i_ 0))])
 (.blk 2 (.loop [1,2,3,11,12,13] L154_0))))
def mf154 : SF := ⟨44,[(.c 2 none)],
 (.seq (.reg [o_ 1 (.box (.t 0) 10),o_ 2 (.alloc [(.bool false)])])
 (.seq (.seq (.reg [o_ 6 (w_ 1 10),c_ 7 178 [(.t 6)]])
 (.blk 0 (.rng (.t 7) #[8] (bI (cI 154) [1,0,1,0,0]) (bI (cI 154) [1,0,1,0,1]) tW R154_1b)))
 (.seq (.reg [.op none none (.store (.t 2) (.k (.bool true)) 1)])
 .ret)))⟩
def L155_0 : SC := (.seq (.reg [o_ 22 (.bin .lss (.t 21) (.t 20))])
 (.seq (.cond (.t 22) .skip
 (.exit 0))
 (.seq (.blk 1 (.reg [o_ 23 (a_ 8 3),y_ 24 23,o_ 25 (w_ 4 2),o_ 26 (.bslice 2 [(.int .i64 0),(.int .i64 0)] 1 [(0,2,(.t 25))]),o_ 27 (.app 2 [(.int .i64 0),(.int .i64 0)] 16 (.t 24) (.t 26)),o_ 28 (a_ 8 3),s_ 28 27 1]))
 (.reg [j_ 29 21,v_ 21 29]))))
def mf155 : SF := ⟨34,[],
 (.seq (.reg [o_ 6 (.box (.t 0) 7)])
 (.seq (.reg [o_ 9 (w_ 2 2),v_ 10 1,o_ 11 (.build [.nilS,(.int .i64 0),(.int .i64 0),.nilS,(.bool false)] [(1,2,(.t 9)),(4,1,(.t 10))]),o_ 8 (.alloc [.nilS,(.int .i64 0),(.int .i64 0),.nilS,(.bool false)]),s_ 8 11 5])
 (.seq (.reg [o_ 12 (a_ 8 0),y_ 13 12,o_ 14 (a_ 6 0),y_ 15 14,o_ 16 (.app 3 [(.int .i64 0),(.int .i64 0),(.int .i64 0)] 24 (.t 13) (.t 15)),o_ 17 (a_ 8 0),s_ 17 16 1])
 (.seq (.seq (.reg [o_ 18 (a_ 3 9),y_ 19 18,o_ 20 (n_ 19),o_ 21 (.mov (i_ 0))])
 (.blk 0 (.loop [4,5,8,20,21] L155_0)))
 (.reg [y_ 30 5,o_ 31 (w_ 8 5),o_ 32 (.bslice 5 [.nilS,(.int .i64 0),(.int .i64 0),.nilS,(.bool false)] 1 [(0,5,(.t 31))]),o_ 33 (.app 5 [.nilS,(.int .i64 0),(.int .i64 0),.nilS,(.bool false)] 72 (.t 30) (.t 32)),s_ 5 33 1])))))⟩
def L156_0 : SC := (.seq (.reg [o_ 15 (.bin .lss (.t 14) (.t 13))])
 (.seq (.cond (.t 15) .skip
 (.exit 0))
 (.seq (.blk 1 (.seq (.reg [z_ 16 3 12 14,o_ 17 (w_ 16 3),o_ 5 (.alloc [(.int .i64 0),(.int .i64 0),(.int .i64 0)]),s_ 5 17 3])
 (.reg [v_ 18 3,o_ 19 (a_ 5 0),y_ 20 19,o_ 21 (.look (false,[true]) (.int .i64 0) false (.t 18) (.t 20)),o_ 22 (a_ 5 1),o_ 23 (a_ 22 1),y_ 24 23,o_ 25 (.bin .add (.t 21) (.t 24)),.op none none (.mput (false,[true]) (.t 18) (.t 20) (.t 25))])))
 (.reg [j_ 26 14,v_ 14 26]))))
def L156_1 : SC := (.seq (.reg [o_ 33 (.bin .lss (.t 32) (.t 31))])
 (.seq (.cond (.t 33) .skip
 (.exit 2))
 (.seq (.blk 3 (.seq (.reg [v_ 34 32,z_ 35 2 30 32,o_ 36 (w_ 35 2),o_ 8 (.alloc [(.int .i64 0),(.int .i64 0)]),v_ 7 34,s_ 8 36 2])
 (.reg [v_ 37 6,v_ 38 3,v_ 39 7,o_ 40 (.look (false,[true]) (.int .i64 0) false (.t 38) (.t 39)),o_ 41 (a_ 8 1),y_ 42 41,o_ 43 (.bin .gtr (.t 40) (.t 42)),o_ 44 (.bslice 1 [(.bool false)] 1 [(0,1,(.t 43))]),o_ 45 (.app 1 [(.bool false)] 1 (.t 37) (.t 44)),v_ 6 45])))
 (.reg [j_ 46 32,v_ 32 46]))))
def mf156 : SF := ⟨48,[(.t 2)],
 (.seq (.reg [o_ 1 (.box (.t 0) 15),o_ 2 (.mov (.k .nilS))])
 (.seq (.reg [o_ 9 .mkmap,v_ 3 9])
 (.seq (.seq (.reg [o_ 10 (a_ 1 10),o_ 11 (a_ 10 0),y_ 12 11,o_ 13 (n_ 12),o_ 14 (.mov (i_ 0))])
 (.blk 0 (.loop [1,3,12,13,14] L156_0)))
 (.seq (.reg [o_ 6 (.mov (.k .nilS))])
 (.seq (.seq (.reg [o_ 27 (a_ 1 0),o_ 28 (a_ 27 0),o_ 29 (a_ 28 5),y_ 30 29,o_ 31 (n_ 30),o_ 32 (.mov (i_ 0))])
 (.blk 2 (.loop [3,6,30,31,32] L156_1)))
 (.seq (.reg [v_ 47 6,v_ 2 47])
 .ret))))))⟩
def mf157 : SF := ⟨14,[(.t 2)],
 (.seq (.reg [o_ 1 (.box (.t 0) 15),o_ 2 (.mov (.k .nilS))])
 (.seq (.reg [o_ 3 (a_ 1 10),o_ 4 (a_ 3 1),o_ 5 (a_ 4 1),y_ 6 5,o_ 7 (a_ 1 0),o_ 8 (a_ 7 0),o_ 9 (a_ 8 6),o_ 10 (a_ 9 1),y_ 11 10,o_ 12 (.bin .gtr (.t 6) (.t 11)),o_ 13 (.bslice 1 [(.bool false)] 1 [(0,1,(.t 12))]),v_ 2 13])
 .ret))⟩
def L158_0 : SC := (.seq (.reg [o_ 11 (.bin .lss (.t 10) (.t 9))])
 (.seq (.cond (.t 11) .skip
 (.exit 0))
 (.seq (.blk 1 (.seq (.reg [v_ 12 10,z_ 13 2 8 10,o_ 14 (w_ 13 2),o_ 5 (.alloc [(.int .i64 0),(.int .i64 0)]),v_ 4 12,s_ 5 14 2])
 (.draw [true] [v_ 15 3,o_ 16 (a_ 5 1),y_ 17 16,o_ 18 (a_ 1 0),o_ 19 (a_ 18 0),o_ 20 (a_ 19 9),y_ 21 20,v_ 22 4,z_ 23 2 21 22,o_ 24 (a_ 23 1),y_ 25 24,o_ 26 (.bin .gtr (.t 17) (.t 25)),o_ 27 (.bslice 1 [(.bool false)] 1 [(0,1,(.t 26))]),o_ 28 (.app 1 [(.bool false)] 1 (.t 15) (.t 27)),v_ 3 28] [[],[],[1],[],[3],[4,3],[5,4,3],[],[6,5,4,3,7],[8,6,5,4,3,7],[9,8,6,5,4,3,7],[2,1,10,9,8,6,5,4,3,7],[11,2,1,10,9,8,6,5,4,3,7],[0,12,11,2,1,10,9,8,6,5,4,3,7],[13,0,12,11,2,1,10,9,8,6,5,4,3,7]])))
 (.reg [j_ 29 10,v_ 10 29]))))
def mf158 : SF := ⟨31,[(.t 2)],
 (.seq (.reg [o_ 1 (.box (.t 0) 15),o_ 2 (.mov (.k .nilS))])
 (.seq (.reg [o_ 3 (.mov (.k .nilS))])
 (.seq (.seq (.reg [o_ 6 (a_ 1 10),o_ 7 (a_ 6 3),y_ 8 7,o_ 9 (n_ 8),o_ 10 (.mov (i_ 0))])
 (.blk 0 (.loop [1,3,8,9,10] L158_0)))
 (.seq (.reg [v_ 30 3,v_ 2 30])
 .ret))))⟩
def D159_0 : List MIx := [o_ 3 (.load (.t 1) (some 15)),.call (some 4) none (f_ 180) [(.t 3)],o_ 5 (.fld (.t 4) 0 (some 2)),o_ 6 (.fld (.t 5) 1 none),o_ 7 (.load (.t 1) (some 15)),.call (some 8) none (f_ 181) [(.t 7)],o_ 9 (.bin .gtr (.t 6) (.t 8)),o_ 10 (.bslice 1 [(.bool false)] 1 [(0,1,(.t 9))]),o_ 2 (m_ 10)]
def B159_0 : List (List Nat) := [[],[0],[1,0],[2,1,0],[],[4,1,0],[3,2,1,0,5,4],[6,3,2,1,0,5,4],[7,6,3,2,1,0,5,4]]
def mf159 : SF := ⟨11,[(.t 2)],
 (.seq (.reg [o_ 1 (.box (.t 0) 15),o_ 2 (.mov (.k .nilS))])
 (.seq (.draw [] D159_0 B159_0)
 .ret))⟩
def D160_0 : List MIx := [o_ 9 (l_ 3),o_ 10 (.load (.t 1) (some 15)),o_ 11 (.load (.t 4) (some 5)),.call (some 12) none (f_ 182) [(.t 10),(.t 11)],o_ 13 (.bin .lss (.t 12) (i_ 0)),o_ 14 (.bslice 1 [(.bool false)] 1 [(0,1,(.t 13))]),o_ 15 (.app 1 [(.bool false)] 1 (.t 9) (.t 14)),.op none none (.store (.t 3) (.t 15) 1)]
def B160_0 : List (List Nat) := [[],[],[],[1,2],[3,1,2],[4,3,1,2],[0,5,4,3,1,2],[6,0,5,4,3,1,2]]
def tV : SC := (.reg [o_ 4 (.alloc [(.int .i64 0),(.int .i64 0),(.int .i64 0),(.int .i64 0),(.int .i64 0)]),s_ 4 8 5])
def tU : SC := (.blk 1 (.draw [] D160_0 B160_0))
def mf160 : SF := ⟨17,[(.t 2)],
 (.seq (.reg [o_ 1 (.box (.t 0) 15),o_ 2 (.mov (.k .nilS))])
 (.seq (.reg [o_ 3 (.alloc [.nilS])])
 (.seq (.seq (.reg [o_ 5 (a_ 1 0),o_ 6 (w_ 5 10),c_ 7 178 [(.t 6)]])
 (.blk 0 (.rng (.t 7) #[8] (bI (cI 160) [1,1,0,1,0,0]) (bI (cI 160) [1,1,0,1,0,1]) tV tU)))
 (.seq (.reg [y_ 16 3,v_ 2 16])
 .ret))))⟩
def mf161 : SF := ⟨18,[(.t 2)],
 (.seq (.reg [o_ 1 (.box (.t 0) 15),o_ 2 (.mov (.k .nilS))])
 (.seq (.reg [o_ 3 (a_ 1 10),o_ 4 (a_ 3 4),y_ 5 4,v_ 6 5,q_ 7 6 true (a_ 1 10),q_ 8 6 true (a_ 7 1),q_ 9 6 true (a_ 8 0),q_ 10 6 true (l_ 9),q_ 11 6 true (a_ 1 0),q_ 12 6 true (a_ 11 0),q_ 13 6 true (a_ 12 8),q_ 14 6 true (l_ 13),q_ 15 6 true (.bin .lss (.t 10) (.t 14)),o_ 16 (p_ 6 15),o_ 17 (.bslice 1 [(.bool false)] 1 [(0,1,(.t 16))]),v_ 2 17])
 .ret))⟩
def L162_0 : SC := (.seq (.reg [o_ 9 (.bin .lss (.t 8) (.t 7))])
 (.seq (.cond (.t 9) .skip
 (.exit 0))
 (.seq (.blk 1 (.seq (.reg [v_ 10 8,v_ 5 10])
 (.seq (.reg [v_ 11 1,v_ 12 0,v_ 13 5,z_ 14 2 12 13,o_ 15 (w_ 14 2),.call (some 16) none (.t 11) [(.t 15)]])
 (.cond (.t 16) (.seq (.reg [v_ 17 5,v_ 4 17])
 .ret)
 .skip))))
 (.reg [j_ 18 8,v_ 8 18]))))
def mf162 : SF := ⟨19,[(.t 4)],
 (.seq (.reg [o_ 4 (.mov (i_ 0))])
 (.seq (.seq (.reg [v_ 6 0,o_ 7 (n_ 6),o_ 8 (.mov (i_ 0))])
 (.blk 0 (.loop [0,1,7,8] L162_0)))
 (.seq (.reg [o_ 4 (.mov (i_ (-1)))])
 .ret)))⟩
def mf168 : SF := ⟨7,[(.t 4)],
 (.seq (.reg [o_ 4 (b_ false)])
 (.seq (.reg [v_ 5 1,c_ 6 67 [(.t 5),(i_ 0),(i_ 1000000000)],v_ 4 6])
 .ret))⟩
def mf172 : SF := ⟨36,[(.t 5)],
 (.seq (.reg [o_ 5 (b_ false)])
 (.seq (.reg [o_ 7 (a_ 1 0),y_ 8 7,y_ 9 2,j_ 10 9,z_ 11 2 8 10,o_ 12 (w_ 11 2),o_ 6 (.alloc [.nilS,(.int .i64 0)]),s_ 6 12 2])
 (.seq (.draw [true] [o_ 13 (w_ 6 2),v_ 14 0,c_ 15 142 [(.t 13),(.t 14)],v_ 16 15,q_ 17 16 true (l_ 2),q_ 18 16 true (.bin .add (.t 17) (i_ 1)),q_ 19 16 true (a_ 1 1),q_ 20 16 true (l_ 19),q_ 21 16 true (n_ 20),q_ 22 16 true (.bin .eql (.t 18) (.t 21)),q_ 23 16 true (m_ 22),q_ 24 23 false (l_ 3),q_ 25 23 false (l_ 2),q_ 26 23 false (.bin .add (.t 25) (i_ 1)),q_ 27 23 false (x_ 1441 24 26),q_ 28 23 false (m_ 0),q_ 29 23 false (a_ 6 1),q_ 30 23 false (l_ 29),q_ 31 23 false (.bin .add (.t 28) (.t 30)),d_ 32 23 false 173 [(.t 27),(.t 31)],q_ 33 23 false (.bin .geq (.t 32) (i_ 0)),q_ 34 16 true (r_ 23 33),o_ 35 (p_ 16 34),v_ 5 35] [[],[],[0,1],[2,0,1],[3,2,0,1],[4,3,2,0,1],[3,2,0,1],[6,3,2,0,1],[7,6,3,2,0,1],[5,4,3,2,0,1,8,7,6],[9,5,4,3,2,0,1,8,7,6],[10,9,5,4,3,2,0,1,8,7,6],[10,9,5,4,3,2,0,1,8,7,6],[12,10,9,5,4,3,2,0,1,8,7,6],[11,10,9,5,4,3,2,0,1,8,7,6,13,12],[10,9,5,4,3,2,0,1,8,7,6],[10,9,5,4,3,2,0,1,8,7,6],[16,10,9,5,4,3,2,0,1,8,7,6],[15,10,9,5,4,3,2,0,1,8,7,6,17,16],[14,11,10,9,5,4,3,2,0,1,8,7,6,13,12,18,15,17,16],[19,14,11,10,9,5,4,3,2,0,1,8,7,6,13,12,18,15,17,16],[10,9,5,4,3,2,0,1,8,7,6,20,19,14,11,13,12,18,15,17,16],[3,2,0,1,21,10,9,5,4,8,7,6,20,19,14,11,13,12,18,15,17,16],[22,3,2,0,1,21,10,9,5,4,8,7,6,20,19,14,11,13,12,18,15,17,16]])
 .ret)))⟩
def L173_0 : SC := (.seq (.seq (.reg [v_ 8 5,o_ 9 (.bin .lss (.t 8) (i_ 1441))])
 (.cond (.t 9) .skip
 (.exit 0)))
 (.seq (.blk 1 (.seq (.reg [v_ 12 0,v_ 13 5,o_ 14 (.nilck (.t 12)),o_ 15 (.idxa 1441 1 (.t 14) (.t 13)),y_ 16 15])
 (.cond (.t 16) (.seq (.reg [v_ 17 5,v_ 4 17])
 .ret)
 .skip)))
 (.reg [v_ 10 5,j_ 11 10,v_ 5 11])))
def mf173 : SF := ⟨18,[(.t 4)],
 (.seq (.reg [o_ 4 (.mov (i_ 0))])
 (.seq (.seq (.reg [v_ 6 1,o_ 7 (.minmax false [(i_ 0),(.t 6)]),v_ 5 7])
 (.blk 0 (.loop [0,5] L173_0)))
 (.seq (.reg [o_ 4 (.mov (i_ (-1)))])
 .ret)))⟩
def L174_0 : SC := (.seq (.reg [o_ 10 (.bin .lss (.t 9) (.t 8))])
 (.seq (.cond (.t 10) .skip
 (.exit 0))
 (.seq (.blk 1 (.seq (.reg [z_ 11 3 7 9,o_ 12 (w_ 11 3),o_ 6 (.alloc [(.int .i64 0),(.int .i64 0),(.int .i64 0)]),s_ 6 12 3])
 (.seq (.reg [v_ 13 1,o_ 14 (w_ 6 3),.call (some 15) none (.t 13) [(.t 14)],o_ 16 (.un .not (.t 15))])
 (.cond (.t 16) (.seq (.reg [o_ 4 (b_ false)])
 .ret)
 .skip))))
 (.reg [j_ 17 9,v_ 9 17]))))
def mf174 : SF := ⟨18,[(.t 4)],
 (.seq (.reg [o_ 4 (b_ false)])
 (.seq (.seq (.reg [v_ 7 0,o_ 8 (n_ 7),o_ 9 (.mov (i_ 0))])
 (.blk 0 (.loop [1,7,8,9] L174_0)))
 (.seq (.reg [o_ 4 (b_ true)])
 .ret)))⟩
def mf175 : SF := ⟨14,[(.t 3)],
 (.seq (.reg [o_ 2 (.box (.t 0) 3),o_ 3 (b_ false)])
 (.seq (.reg [o_ 4 (a_ 2 0),y_ 5 4,y_ 6 1,o_ 7 (.bin .sub (.t 6) (i_ 1)),c_ 8 151 [(.t 5),(i_ 0),(.t 7)],v_ 9 8,q_ 10 9 true (a_ 2 1),q_ 11 9 true (w_ 10 2),d_ 12 9 true 148 [(.t 11),(i_ 0),(i_ 20000)],o_ 13 (p_ 9 12),v_ 3 13])
 .ret))⟩
def L176_0 : SC := (.seq (.reg [o_ 10 (.bin .lss (.t 9) (.t 8))])
 (.seq (.cond (.t 10) .skip
 (.exit 0))
 (.seq (.blk 1 (.seq (.reg [z_ 11 1 7 9,y_ 12 11,v_ 6 12])
 (.seq (.reg [v_ 13 1,v_ 14 6,.call (some 15) none (.t 13) [(.t 14)],o_ 16 (.un .not (.t 15))])
 (.cond (.t 16) (.seq (.reg [o_ 4 (b_ false)])
 .ret)
 .skip))))
 (.reg [j_ 17 9,v_ 9 17]))))
def mf176 : SF := ⟨18,[(.t 4)],
 (.seq (.reg [o_ 4 (b_ false)])
 (.seq (.seq (.reg [v_ 7 0,o_ 8 (n_ 7),o_ 9 (.mov (i_ 0))])
 (.blk 0 (.loop [1,7,8,9] L176_0)))
 (.seq (.reg [o_ 4 (b_ true)])
 .ret)))⟩
def mf177 : SF := ⟨5,[(.t 2)],
 (.seq (.reg [o_ 2 (b_ false)])
 (.seq (.reg [v_ 3 0,c_ 4 151 [(.t 3),(i_ 0),(i_ 20000)],v_ 2 4])
 .ret))⟩
def mf178 : SF := ⟨4,[(.t 2)],
 (.seq (.reg [o_ 1 (.box (.t 0) 10),o_ 2 (.mov (.k .nilF))])
 (.seq (.reg [o_ 3 (.mkfn (.func 188) [] [(.t 1)]),v_ 2 3])
 .ret))⟩
def mf179 : SF := ⟨22,[(.t 6)],
 (.seq (.reg [o_ 3 (.box (.t 0) 5),o_ 6 (.mov (i_ 0))])
 (.seq (.reg [o_ 7 (a_ 3 3),y_ 8 7,v_ 9 2,o_ 10 (a_ 3 2),y_ 11 10,o_ 12 (.bin .sub (.t 9) (.t 11)),o_ 13 (.bin .mul (.t 8) (.t 12)),o_ 14 (a_ 3 4),y_ 15 14,v_ 16 1,o_ 17 (a_ 3 1),y_ 18 17,o_ 19 (.bin .sub (.t 16) (.t 18)),o_ 20 (.bin .mul (.t 15) (.t 19)),o_ 21 (.bin .sub (.t 13) (.t 20)),v_ 6 21])
 .ret))⟩
def tT : SC := (.reg [o_ 4 (.alloc [(.int .i64 0),(.int .i64 0),(.int .i64 0),(.int .i64 0),(.int .i64 0)]),s_ 4 28 5])
def R180_0b : SC := (.blk 1 (.seq (.draw [true] [o_ 29 (a_ 4 2),y_ 30 29,o_ 31 (a_ 4 3),o_ 32 (a_ 31 0),y_ 33 32,o_ 34 (.bin .mul (.t 30) (.t 33)),o_ 35 (a_ 4 2),y_ 36 35,o_ 37 (a_ 4 3),o_ 38 (a_ 37 1),y_ 39 38,o_ 40 (.bin .mul (.t 36) (.t 39)),v_ 5 34,v_ 6 40] [[],[0],[],[2],[3,2],[1,0,4,3,2],[],[6],[],[8],[9,8],[7,6,10,9,8],[5,1,0,4,3,2],[11,7,6,10,9,8,12,5,1,0,4,3,2]])
 (.seq (.reg [o_ 41 (a_ 3 0),o_ 42 (a_ 41 0),y_ 43 42,o_ 44 (a_ 4 3),o_ 45 (a_ 44 0),y_ 46 45,o_ 47 (.bin .add (.t 43) (.t 46)),o_ 48 (a_ 3 0),o_ 49 (a_ 48 0),s_ 49 47 1])
 (.seq (.reg [o_ 50 (a_ 3 0),o_ 51 (a_ 50 1),y_ 52 51,o_ 53 (a_ 4 3),o_ 54 (a_ 53 1),y_ 55 54,o_ 56 (.bin .add (.t 52) (.t 55)),o_ 57 (a_ 3 0),o_ 58 (a_ 57 1),s_ 58 56 1])
 (.seq (.reg [o_ 59 (a_ 3 2),o_ 60 (a_ 59 0),y_ 61 60,v_ 62 5,v_ 63 6,o_ 64 (.minmax true [(.t 62),(.t 63)]),o_ 65 (.bin .add (.t 61) (.t 64)),o_ 66 (a_ 3 2),o_ 67 (a_ 66 0),s_ 67 65 1])
 (.reg [o_ 68 (a_ 3 2),o_ 69 (a_ 68 1),y_ 70 69,v_ 71 5,v_ 72 6,o_ 73 (.minmax false [(.t 71),(.t 72)]),o_ 74 (.bin .add (.t 70) (.t 73)),o_ 75 (a_ 3 2),o_ 76 (a_ 75 1),s_ 76 74 1]))))))
def mf180 : SF := ⟨78,[(.c 2 (some 4))],
 (.seq (.reg [o_ 1 (.box (.t 0) 15),o_ 2 (.alloc [(.int .i64 0),(.int .i64 0),(.int .i64 0),(.int .i64 0)])])
 (.seq (.reg [o_ 7 (a_ 1 0),o_ 8 (a_ 7 0),o_ 9 (a_ 8 0),y_ 10 9,o_ 11 (a_ 1 0),o_ 12 (a_ 11 0),o_ 13 (a_ 12 0),y_ 14 13,o_ 15 (.build [(.int .i64 0),(.int .i64 0)] [(0,1,(.t 10)),(1,1,(.t 14))]),o_ 16 (a_ 1 0),o_ 17 (a_ 16 0),o_ 18 (a_ 17 1),y_ 19 18,o_ 20 (a_ 1 0),o_ 21 (a_ 20 0),o_ 22 (a_ 21 1),y_ 23 22,o_ 24 (.build [(.int .i64 0),(.int .i64 0)] [(0,1,(.t 19)),(1,1,(.t 23))]),o_ 25 (.build [(.int .i64 0),(.int .i64 0),(.int .i64 0),(.int .i64 0)] [(0,2,(.t 15)),(2,2,(.t 24))]),o_ 3 (.alloc [(.int .i64 0),(.int .i64 0),(.int .i64 0),(.int .i64 0)]),s_ 3 25 4])
 (.seq (.seq (.reg [o_ 26 (w_ 1 15),c_ 27 189 [(.t 26)]])
 (.blk 0 (.rng (.t 27) #[28] (bI (cI 180) [1,1,0,1,0,0]) (bI (cI 180) [1,1,0,1,0,1]) tT R180_0b)))
 (.seq (.reg [o_ 77 (w_ 3 4),s_ 2 77 4])
 .ret))))⟩
def mf181 : SF := ⟨14,[(.t 2)],
 (.seq (.reg [o_ 1 (.box (.t 0) 15),o_ 2 (.mov (i_ 0))])
 (.seq (.seq (.reg [o_ 3 (a_ 1 10),o_ 4 (a_ 3 4),y_ 5 4])
 (.cond (.t 5) (.seq (.reg [o_ 6 (a_ 1 0),o_ 7 (a_ 6 0),o_ 8 (a_ 7 3),y_ 9 8,v_ 2 9])
 .ret)
 .skip))
 (.seq (.reg [o_ 10 (a_ 1 0),o_ 11 (a_ 10 0),o_ 12 (a_ 11 2),y_ 13 12,v_ 2 13])
 .ret)))⟩
def tS : SC := (.reg [o_ 6 (.alloc [(.int .i64 0),(.int .i64 0),(.int .i64 0),(.int .i64 0),(.int .i64 0)]),s_ 6 20 5])
def R182_0b : SC := (.blk 1 (.seq (.reg [o_ 21 (w_ 3 5),o_ 22 (a_ 6 2),y_ 23 22,c_ 24 190 [(.t 21),(.t 23)],v_ 7 24])
 (.reg [y_ 25 5,v_ 26 7,o_ 27 (a_ 6 3),o_ 28 (a_ 27 0),y_ 29 28,o_ 30 (.bin .mul (.t 26) (.t 29)),v_ 31 7,o_ 32 (a_ 6 3),o_ 33 (a_ 32 1),y_ 34 33,o_ 35 (.bin .mul (.t 31) (.t 34)),o_ 36 (.minmax true [(.t 30),(.t 35)]),o_ 37 (.bin .add (.t 25) (.t 36)),s_ 5 37 1])))
def mf182 : SF := ⟨39,[(.t 4)],
 (.seq (.reg [o_ 2 (.box (.t 0) 15),o_ 3 (.box (.t 1) 5),o_ 4 (.mov (i_ 0))])
 (.seq (.reg [o_ 8 (w_ 3 5),o_ 9 (a_ 2 0),o_ 10 (a_ 9 0),o_ 11 (a_ 10 0),y_ 12 11,o_ 13 (a_ 2 0),o_ 14 (a_ 13 0),o_ 15 (a_ 14 1),y_ 16 15,c_ 17 179 [(.t 8),(.t 12),(.t 16)],o_ 5 (.alloc [(.int .i64 0)]),s_ 5 17 1])
 (.seq (.seq (.reg [o_ 18 (w_ 2 15),c_ 19 189 [(.t 18)]])
 (.blk 0 (.rng (.t 19) #[20] (bI (cI 182) [1,1,0,1,0,0]) (bI (cI 182) [1,1,0,1,0,1]) tS R182_0b)))
 (.seq (.reg [y_ 38 5,v_ 4 38])
 .ret))))⟩
def L188_0 : SC := (.seq (.reg [o_ 11 (.bin .lss (.t 10) (.t 9))])
 (.seq (.cond (.t 11) .skip
 (.exit 0))
 (.seq (.blk 1 (.seq (.reg [v_ 12 10,z_ 13 2 8 10,o_ 14 (w_ 13 2),o_ 4 (.alloc [(.int .i64 0),(.int .i64 0)]),v_ 3 12,s_ 4 14 2])
 (.seq (.draw [true] [o_ 15 (a_ 1 0),o_ 16 (a_ 15 4),y_ 17 16,v_ 18 3,j_ 19 18,o_ 20 (a_ 1 0),o_ 21 (a_ 20 4),y_ 22 21,o_ 23 (n_ 22),o_ 24 (.bin .rem (.t 19) (.t 23)),z_ 25 2 17 24,o_ 26 (w_ 25 2),o_ 5 (.alloc [(.int .i64 0),(.int .i64 0)]),s_ 5 26 2] [[],[0],[1,0],[],[3],[],[5],[6,5],[7,6,5],[4,3,8,7,6,5],[2,1,0,9,4,3,8,7,6,5],[10,2,1,0,9,4,3,8,7,6,5],[],[12,11,10,2,1,0,9,4,3,8,7,6,5]])
 (.seq (.reg [v_ 27 0,v_ 28 3,o_ 29 (a_ 4 0),y_ 30 29,o_ 31 (a_ 4 1),y_ 32 31,o_ 33 (a_ 5 0),y_ 34 33,o_ 35 (a_ 4 0),y_ 36 35,o_ 37 (.bin .sub (.t 34) (.t 36)),o_ 38 (a_ 5 1),y_ 39 38,o_ 40 (a_ 4 1),y_ 41 40,o_ 42 (.bin .sub (.t 39) (.t 41)),o_ 43 (.build [(.int .i64 0),(.int .i64 0),(.int .i64 0),(.int .i64 0),(.int .i64 0)] [(0,1,(.t 28)),(1,1,(.t 30)),(2,1,(.t 32)),(3,1,(.t 37)),(4,1,(.t 42))]),.call (some 44) none (.t 27) [(.t 43)],o_ 45 (.un .not (.t 44))])
 (.cond (.t 45) .ret
 .skip)))))
 (.reg [j_ 46 10,v_ 10 46]))))
def mf188 : SF := ⟨47,[],
 (.seq (.reg [o_ 6 (a_ 1 0),o_ 7 (a_ 6 4),y_ 8 7,o_ 9 (n_ 8),o_ 10 (.mov (i_ 0))])
 (.blk 0 (.loop [0,1,8,9,10] L188_0)))⟩
def mf189 : SF := ⟨4,[(.t 2)],
 (.seq (.reg [o_ 1 (.box (.t 0) 15),o_ 2 (.mov (.k .nilF))])
 (.seq (.reg [o_ 3 (.mkfn (.func 195) [] [(.t 1)]),v_ 2 3])
 .ret))⟩
def mf190 : SF := ⟨12,[(.t 4)],
 (.seq (.reg [o_ 2 (.box (.t 0) 5),o_ 4 (.mov (i_ 0))])
 (.seq (.reg [o_ 5 (a_ 2 3),y_ 6 5,v_ 7 1,o_ 8 (.bin .mul (.t 6) (.t 7)),o_ 9 (a_ 2 4),y_ 10 9,o_ 11 (.bin .sub (.t 8) (.t 10)),v_ 4 11])
 .ret))⟩
def L195_0 : SC := (.seq (.reg [o_ 12 (.bin .lss (.t 11) (.t 10))])
 (.seq (.cond (.t 12) .skip
 (.exit 0))
 (.seq (.blk 1 (.seq (.reg [v_ 13 11,z_ 14 3 9 11,o_ 15 (w_ 14 3),o_ 4 (.alloc [(.int .i64 0),(.int .i64 0),(.int .i64 0)]),v_ 3 13,s_ 4 15 3])
 (.seq (.draw [true] [v_ 16 0,v_ 17 3,o_ 18 (a_ 1 0),o_ 19 (a_ 18 0),o_ 20 (a_ 19 5),y_ 21 20,o_ 22 (a_ 4 0),y_ 23 22,z_ 24 2 21 23,o_ 25 (a_ 24 0),y_ 26 25,o_ 27 (a_ 4 1),o_ 28 (w_ 27 2),o_ 29 (.build [(.int .i64 0),(.int .i64 0),(.int .i64 0),(.int .i64 0),(.int .i64 0)] [(0,1,(i_ 0)),(1,1,(.t 17)),(2,1,(.t 26)),(3,2,(.t 28))]),.call (some 30) none (.t 16) [(.t 29)],o_ 31 (.un .not (.t 30))] [[],[],[],[2],[3,2],[4,3,2],[],[6],[5,4,3,2,7,6],[8,5,4,3,2,7,6],[9,8,5,4,3,2,7,6],[],[11],[1,10,9,8,5,4,3,2,7,6,12,11],[0,13,1,10,9,8,5,4,3,2,7,6,12,11],[14,0,13,1,10,9,8,5,4,3,2,7,6,12,11]])
 (.cond (.t 31) .ret
 .skip))))
 (.reg [j_ 32 11,v_ 11 32]))))
def L195_1 : SC := (.seq (.reg [o_ 50 (.bin .lss (.t 49) (.t 48))])
 (.seq (.cond (.t 50) .skip
 (.exit 2))
 (.seq (.blk 3 (.seq (.reg [v_ 51 49,z_ 52 2 47 49,o_ 53 (w_ 52 2),o_ 6 (.alloc [(.int .i64 0),(.int .i64 0)]),v_ 5 51,s_ 6 53 2])
 (.seq (.draw [true] [v_ 54 0,v_ 55 5,o_ 56 (a_ 1 0),o_ 57 (a_ 56 0),o_ 58 (a_ 57 9),y_ 59 58,v_ 60 5,z_ 61 2 59 60,o_ 62 (a_ 61 0),y_ 63 62,o_ 64 (w_ 6 2),o_ 65 (.build [(.int .i64 0),(.int .i64 0),(.int .i64 0),(.int .i64 0),(.int .i64 0)] [(0,1,(i_ 2)),(1,1,(.t 55)),(2,1,(.t 63)),(3,2,(.t 64))]),.call (some 66) none (.t 54) [(.t 65)],o_ 67 (.un .not (.t 66))] [[],[],[],[2],[3,2],[4,3,2],[],[5,4,3,2,6],[7,5,4,3,2,6],[8,7,5,4,3,2,6],[],[1,9,8,7,5,4,3,2,6,10],[0,11,1,9,8,7,5,4,3,2,6,10],[12,0,11,1,9,8,7,5,4,3,2,6,10]])
 (.cond (.t 67) .ret
 .skip))))
 (.reg [j_ 68 49,v_ 49 68]))))
def mf195 : SF := ⟨69,[],
 (.seq (.seq (.reg [o_ 7 (a_ 1 10),o_ 8 (a_ 7 0),y_ 9 8,o_ 10 (n_ 9),o_ 11 (.mov (i_ 0))])
 (.blk 0 (.loop [0,1,9,10,11] L195_0)))
 (.seq (.seq (.reg [v_ 33 0,o_ 34 (a_ 1 0),o_ 35 (a_ 34 0),o_ 36 (a_ 35 6),o_ 37 (a_ 36 0),y_ 38 37,o_ 39 (a_ 1 10),o_ 40 (a_ 39 1),o_ 41 (w_ 40 2),o_ 42 (.build [(.int .i64 0),(.int .i64 0),(.int .i64 0),(.int .i64 0),(.int .i64 0)] [(0,1,(i_ 1)),(1,1,(i_ 0)),(2,1,(.t 38)),(3,2,(.t 41))]),.call (some 43) none (.t 33) [(.t 42)],o_ 44 (.un .not (.t 43))])
 (.cond (.t 44) .ret
 .skip))
 (.seq (.reg [o_ 45 (a_ 1 10),o_ 46 (a_ 45 3),y_ 47 46,o_ 48 (n_ 47),o_ 49 (.mov (i_ 0))])
 (.blk 2 (.loop [0,1,47,48,49] L195_1)))))⟩
def L229_0 : SC := (.seq (.seq (.reg [v_ 48 8,v_ 49 6,o_ 50 (.bin .mul (i_ 2) (.t 49)),o_ 51 (.bin .add (.t 50) (i_ 2)),o_ 52 (.bin .leq (.t 48) (.t 51)),v_ 53 52,q_ 54 53 true (m_ 8),q_ 55 53 true (m_ 4),q_ 56 53 true (.bin .lss (.t 54) (.t 55)),o_ 57 (p_ 53 56)])
 (.cond (.t 57) .skip
 (.exit 2)))
 (.seq (.blk 3 (.seq (.reg [v_ 60 0,v_ 61 8,v_ 62 7,c_ 63 231 [(.t 60),(.t 61),(.t 62)]])
 (.cond (.t 63) (.reg [v_ 64 8,v_ 7 64])
 .skip)))
 (.reg [v_ 58 8,j_ 59 58,v_ 8 59])))
def L229_1 : SC := (.blk 1 (.seq (.reg [v_ 44 6,v_ 7 44])
 (.seq (.seq (.reg [v_ 45 6,o_ 46 (.bin .mul (i_ 2) (.t 45)),j_ 47 46,v_ 8 47])
 (.blk 2 (.loop [0,4,5,6,7,8] L229_0)))
 (.seq (.seq (.reg [v_ 65 7,v_ 66 6,o_ 67 (.bin .eql (.t 65) (.t 66))])
 (.cond (.t 67) (.seq (.reg [v_ 68 5,v_ 2 68,o_ 3 (b_ true)])
 .ret)
 .skip))
 (.seq (.draw [true] [v_ 69 0,o_ 70 (.nilck (.t 69)),o_ 71 (a_ 70 1),y_ 72 71,v_ 73 6,v_ 74 0,o_ 75 (.nilck (.t 74)),o_ 76 (a_ 75 1),y_ 77 76,v_ 78 7,v_ 79 0,o_ 80 (.nilck (.t 79)),o_ 81 (a_ 80 1),y_ 82 81,v_ 83 7,z_ 84 1 82 83,y_ 85 84,v_ 86 0,o_ 87 (.nilck (.t 86)),o_ 88 (a_ 87 1),y_ 89 88,v_ 90 6,z_ 91 1 89 90,y_ 92 91,z_ 93 1 72 73,s_ 93 85 1,z_ 94 1 77 78,s_ 94 92 1] [[],[0],[1,0],[2,1,0],[],[],[5],[6,5],[7,6,5],[],[],[10],[11,10],[12,11,10],[],[13,12,11,10,14],[15,13,12,11,10,14],[],[17],[18,17],[19,18,17],[],[20,19,18,17,21],[22,20,19,18,17,21],[3,2,1,0,4,8,7,6,5,10,11,12,13,14,15,16,20,19,18,17,23,22,21],[24,3,2,1,0,4,8,7,6,5,10,11,12,13,14,15,16,20,19,18,17,23,22,21],[8,7,6,5,9,0,1,2,3,4,10,11,12,13,14,15,16,17,18,19,20,21,22,23,24,25],[26,8,7,6,5,9,0,1,2,3,4,10,11,12,13,14,15,16,17,18,19,20,21,22,23,24,25]])
 (.reg [v_ 95 7,v_ 6 95]))))))
def mf229 : SF := ⟨96,[(.t 2),(.t 3)],
 (.seq (.reg [o_ 2 (.mov (i_ 0)),o_ 3 (b_ false)])
 (.seq (.reg [v_ 9 0,o_ 10 (.nilck (.t 9)),o_ 11 (a_ 10 1),y_ 12 11,o_ 13 (n_ 12),o_ 14 (.bin .sub (.t 13) (i_ 1)),v_ 4 14])
 (.seq (.seq (.reg [v_ 15 4,o_ 16 (.bin .lss (.t 15) (i_ 0))])
 (.cond (.t 16) (.seq (.reg [o_ 2 (.mov (i_ 0)),o_ 3 (b_ false)])
 .ret)
 .skip))
 (.seq (.reg [v_ 17 0,o_ 18 (.nilck (.t 17)),o_ 19 (a_ 18 1),y_ 20 19,o_ 21 (.idxs 1 (.t 20) (i_ 0)),y_ 22 21,v_ 5 22])
 (.seq (.draw [true] [v_ 23 0,o_ 24 (.nilck (.t 23)),o_ 25 (a_ 24 1),y_ 26 25,v_ 27 0,o_ 28 (.nilck (.t 27)),o_ 29 (a_ 28 1),y_ 30 29,v_ 31 4,z_ 32 1 30 31,y_ 33 32,o_ 34 (.idxs 1 (.t 26) (i_ 0)),s_ 34 33 1] [[],[0],[1,0],[2,1,0],[],[4],[5,4],[6,5,4],[],[7,6,5,4,8],[9,7,6,5,4,8],[3,2,1,0,4,5,6,7,8,9,10],[11,3,2,1,0,4,5,6,7,8,9,10]])
 (.seq (.reg [v_ 35 0,v_ 36 0,o_ 37 (.nilck (.t 36)),o_ 38 (a_ 37 1),y_ 39 38,v_ 40 4,o_ 41 (.slc 1 (.t 39) none (some (.t 40)) none),o_ 42 (.nilck (.t 35)),o_ 43 (a_ 42 1),s_ 43 41 1])
 (.seq (.reg [o_ 6 (.mov (i_ 0))])
 (.blk 0 (.loop [0,4,5,6] L229_1)))))))))⟩
def L230_0 : SC := (.seq (.seq (.reg [v_ 21 4,o_ 22 (.bin .gtr (.t 21) (i_ 0)),v_ 23 22,q_ 24 23 true (m_ 0),q_ 25 23 true (m_ 4),q_ 26 23 true (m_ 4),q_ 27 23 true (.bin .sub (.t 26) (i_ 1)),q_ 28 23 true (.bin .quo (.t 27) (i_ 2)),d_ 29 23 true 231 [(.t 24),(.t 25),(.t 28)],o_ 30 (p_ 23 29)])
 (.cond (.t 30) .skip
 (.exit 0)))
 (.seq (.blk 1 (.draw [true] [v_ 34 0,o_ 35 (.nilck (.t 34)),o_ 36 (a_ 35 1),y_ 37 36,v_ 38 4,v_ 39 0,o_ 40 (.nilck (.t 39)),o_ 41 (a_ 40 1),y_ 42 41,v_ 43 4,o_ 44 (.bin .sub (.t 43) (i_ 1)),o_ 45 (.bin .quo (.t 44) (i_ 2)),v_ 46 0,o_ 47 (.nilck (.t 46)),o_ 48 (a_ 47 1),y_ 49 48,v_ 50 4,o_ 51 (.bin .sub (.t 50) (i_ 1)),o_ 52 (.bin .quo (.t 51) (i_ 2)),z_ 53 1 49 52,y_ 54 53,v_ 55 0,o_ 56 (.nilck (.t 55)),o_ 57 (a_ 56 1),y_ 58 57,v_ 59 4,z_ 60 1 58 59,y_ 61 60,z_ 62 1 37 38,s_ 62 54 1,z_ 63 1 42 45,s_ 63 61 1] [[],[0],[1,0],[2,1,0],[],[],[5],[6,5],[7,6,5],[],[9],[10,9],[],[12],[13,12],[14,13,12],[],[16],[17,16],[15,14,13,12,18,17,16],[19,15,14,13,12,18,17,16],[],[21],[22,21],[23,22,21],[],[24,23,22,21,25],[26,24,23,22,21,25],[3,2,1,0,4,8,7,6,5,12,13,14,15,16,17,18,19,20,24,23,22,21,27,26,25],[28,3,2,1,0,4,8,7,6,5,12,13,14,15,16,17,18,19,20,24,23,22,21,27,26,25],[8,7,6,5,11,10,9,0,1,2,3,4,12,13,14,15,16,17,18,19,20,21,22,23,24,25,26,27,28,29],[30,8,7,6,5,11,10,9,0,1,2,3,4,12,13,14,15,16,17,18,19,20,21,22,23,24,25,26,27,28,29]]))
 (.reg [v_ 31 4,o_ 32 (.bin .sub (.t 31) (i_ 1)),o_ 33 (.bin .quo (.t 32) (i_ 2)),v_ 4 33])))
def mf230 : SF := ⟨64,[],
 (.seq (.reg [v_ 5 0,v_ 6 0,o_ 7 (.nilck (.t 6)),o_ 8 (a_ 7 1),y_ 9 8,v_ 10 1,o_ 11 (.bslice 1 [(.int .i64 0)] 1 [(0,1,(.t 10))]),o_ 12 (.app 1 [(.int .i64 0)] 8 (.t 9) (.t 11)),o_ 13 (.nilck (.t 5)),o_ 14 (a_ 13 1),s_ 14 12 1])
 (.seq (.reg [v_ 15 0,o_ 16 (.nilck (.t 15)),o_ 17 (a_ 16 1),y_ 18 17,o_ 19 (n_ 18),o_ 20 (.bin .sub (.t 19) (i_ 1)),v_ 4 20])
 (.blk 0 (.loop [0,4] L230_0))))⟩
def mf231 : SF := ⟨54,[(.t 6)],
 (.seq (.reg [o_ 6 (b_ false)])
 (.seq (.draw [true] [v_ 11 0,o_ 12 (.nilck (.t 11)),o_ 13 (a_ 12 1),y_ 14 13,v_ 15 1,z_ 16 1 14 15,y_ 17 16,v_ 18 0,o_ 19 (.nilck (.t 18)),o_ 20 (a_ 19 1),y_ 21 20,v_ 22 2,z_ 23 1 21 22,y_ 24 23,v_ 7 17,v_ 8 24] [[],[0],[1,0],[2,1,0],[],[3,2,1,0,4],[5,3,2,1,0,4],[],[7],[8,7],[9,8,7],[],[10,9,8,7,11],[12,10,9,8,7,11],[6,5,3,2,1,0,4],[13,12,10,9,8,7,11,14,6,5,3,2,1,0,4]])
 (.seq (.draw [true] [v_ 25 0,o_ 26 (.nilck (.t 25)),o_ 27 (a_ 26 0),y_ 28 27,v_ 29 7,z_ 30 2 28 29,o_ 31 (a_ 30 1),y_ 32 31,v_ 33 0,o_ 34 (.nilck (.t 33)),o_ 35 (a_ 34 0),y_ 36 35,v_ 37 8,z_ 38 2 36 37,o_ 39 (a_ 38 1),y_ 40 39,v_ 9 32,v_ 10 40] [[],[0],[1,0],[2,1,0],[],[3,2,1,0,4],[5,3,2,1,0,4],[6,5,3,2,1,0,4],[],[8],[9,8],[10,9,8],[],[11,10,9,8,12],[13,11,10,9,8,12],[14,13,11,10,9,8,12],[7,6,5,3,2,1,0,4],[15,14,13,11,10,9,8,12,16,7,6,5,3,2,1,0,4]])
 (.seq (.reg [v_ 41 9,v_ 42 10,o_ 43 (.bin .lss (.t 41) (.t 42)),v_ 44 43,q_ 45 44 false (m_ 9),q_ 46 44 false (m_ 10),q_ 47 44 false (.bin .eql (.t 45) (.t 46)),q_ 48 44 false (m_ 47),q_ 49 48 true (m_ 7),q_ 50 48 true (m_ 8),q_ 51 48 true (.bin .lss (.t 49) (.t 50)),q_ 52 44 false (p_ 48 51),o_ 53 (r_ 44 52),v_ 6 53])
 .ret))))⟩
theorem mf3_ok : aV Tryz.prog 3 = some mf3.er := by kernel_rfl
theorem mf3_b : aE Tryz.prog 3 = true := by kernel_rfl
theorem mf3_g : mf3.body.good = true := by kernel_rfl
theorem mf6_ok : aV Tryz.prog 6 = some mf6.er := by kernel_rfl
theorem mf6_b : aE Tryz.prog 6 = true := by kernel_rfl
theorem mf6_g : mf6.body.good = true := by kernel_rfl
theorem aDS : L6_0.good = true := by kernel_rfl
theorem aDR : L6_1.good = true := by kernel_rfl
theorem aDQ : L6_2.good = true := by kernel_rfl
theorem aDP : L6_3.good = true := by kernel_rfl
theorem aDO : L6_4.good = true := by kernel_rfl
theorem mf7_ok : aV Tryz.prog 7 = some mf7.er := by kernel_rfl
theorem mf7_b : aE Tryz.prog 7 = true := by kernel_rfl
theorem mf7_g : mf7.body.good = true := by kernel_rfl
theorem aDN : L7_0.good = true := by kernel_rfl
theorem mf8_ok : aV Tryz.prog 8 = some mf8.er := by kernel_rfl
theorem mf8_b : aE Tryz.prog 8 = true := by kernel_rfl
theorem mf8_g : mf8.body.good = true := by kernel_rfl
theorem aDM : L8_0.good = true := by kernel_rfl
theorem mf9_ok : aV Tryz.prog 9 = some mf9.er := by kernel_rfl
theorem mf9_b : aE Tryz.prog 9 = true := by kernel_rfl
theorem mf9_g : mf9.body.good = true := by kernel_rfl
theorem aGT : aV Tryz.prog 10 = some mf10.er := by kernel_rfl
theorem mf10_b : aE Tryz.prog 10 = true := by kernel_rfl
theorem mf10_g : mf10.body.good = true := by kernel_rfl
theorem aGS : aV Tryz.prog 11 = some mf11.er := by kernel_rfl
theorem mf11_b : aE Tryz.prog 11 = true := by kernel_rfl
theorem mf11_g : mf11.body.good = true := by kernel_rfl
theorem aAz : L11_0.good = true := by kernel_rfl
theorem aGJ : aV Tryz.prog 12 = some mf12.er := by kernel_rfl
theorem mf12_b : aE Tryz.prog 12 = true := by kernel_rfl
theorem mf12_g : mf12.body.good = true := by kernel_rfl
theorem aGA : aV Tryz.prog 13 = some mf13.er := by kernel_rfl
theorem mf13_b : aE Tryz.prog 13 = true := by kernel_rfl
theorem mf13_g : mf13.body.good = true := by kernel_rfl
theorem aGf : aV Tryz.prog 14 = some mf14.er := by kernel_rfl
theorem mf14_b : aE Tryz.prog 14 = true := by kernel_rfl
theorem mf14_g : mf14.body.good = true := by kernel_rfl
theorem aFc : aV Tryz.prog 25 = some mf25.er := by kernel_rfl
theorem mf25_b : aE Tryz.prog 25 = true := by kernel_rfl
theorem mf25_g : mf25.body.good = true := by kernel_rfl
theorem aFb : aV Tryz.prog 26 = some mf26.er := by kernel_rfl
theorem mf26_b : aE Tryz.prog 26 = true := by kernel_rfl
theorem mf26_g : mf26.body.good = true := by kernel_rfl
theorem aFa : aV Tryz.prog 27 = some mf27.er := by kernel_rfl
theorem mf27_b : aE Tryz.prog 27 = true := by kernel_rfl
theorem mf27_g : mf27.body.good = true := by kernel_rfl
theorem aE9 : aV Tryz.prog 28 = some mf28.er := by kernel_rfl
theorem mf28_b : aE Tryz.prog 28 = true := by kernel_rfl
theorem mf28_g : mf28.body.good = true := by kernel_rfl
theorem aAy : L28_0.good = true := by kernel_rfl
theorem aE8 : aV Tryz.prog 29 = some mf29.er := by kernel_rfl
theorem mf29_b : aE Tryz.prog 29 = true := by kernel_rfl
theorem mf29_g : mf29.body.good = true := by kernel_rfl
theorem aE7 : aV Tryz.prog 30 = some mf30.er := by kernel_rfl
theorem mf30_b : aE Tryz.prog 30 = true := by kernel_rfl
theorem mf30_g : mf30.body.good = true := by kernel_rfl
theorem aE6 : aV Tryz.prog 31 = some mf31.er := by kernel_rfl
theorem mf31_b : aE Tryz.prog 31 = true := by kernel_rfl
theorem mf31_g : mf31.body.good = true := by kernel_rfl
theorem aE5 : aV Tryz.prog 32 = some mf32.er := by kernel_rfl
theorem mf32_b : aE Tryz.prog 32 = true := by kernel_rfl
theorem mf32_g : mf32.body.good = true := by kernel_rfl
theorem aE4 : aV Tryz.prog 33 = some mf33.er := by kernel_rfl
theorem mf33_b : aE Tryz.prog 33 = true := by kernel_rfl
theorem mf33_g : mf33.body.good = true := by kernel_rfl
theorem aHk : L33_0.good = true := by kernel_rfl
theorem aE3 : aV Tryz.prog 34 = some mf34.er := by kernel_rfl
theorem mf34_b : aE Tryz.prog 34 = true := by kernel_rfl
theorem mf34_g : mf34.body.good = true := by kernel_rfl
theorem aE2 : aV Tryz.prog 35 = some mf35.er := by kernel_rfl
theorem mf35_b : aE Tryz.prog 35 = true := by kernel_rfl
theorem mf35_g : mf35.body.good = true := by kernel_rfl
theorem aE1 : aV Tryz.prog 36 = some mf36.er := by kernel_rfl
theorem mf36_b : aE Tryz.prog 36 = true := by kernel_rfl
theorem mf36_g : mf36.body.good = true := by kernel_rfl
theorem aAx : L36_0.good = true := by kernel_rfl
theorem aE0 : aV Tryz.prog 37 = some mf37.er := by kernel_rfl
theorem mf37_b : aE Tryz.prog 37 = true := by kernel_rfl
theorem mf37_g : mf37.body.good = true := by kernel_rfl
theorem aAw : L37_0.good = true := by kernel_rfl
theorem aEZ : aV Tryz.prog 38 = some mf38.er := by kernel_rfl
theorem mf38_b : aE Tryz.prog 38 = true := by kernel_rfl
theorem mf38_g : mf38.body.good = true := by kernel_rfl
theorem aEY : aV Tryz.prog 39 = some mf39.er := by kernel_rfl
theorem mf39_b : aE Tryz.prog 39 = true := by kernel_rfl
theorem mf39_g : mf39.body.good = true := by kernel_rfl
theorem aAv : L39_0.good = true := by kernel_rfl
theorem aAu : L39_1.good = true := by kernel_rfl
theorem aEX : aV Tryz.prog 40 = some mf40.er := by kernel_rfl
theorem mf40_b : aE Tryz.prog 40 = true := by kernel_rfl
theorem mf40_g : mf40.body.good = true := by kernel_rfl
theorem aHj : L40_0.good = true := by kernel_rfl
theorem aEW : aV Tryz.prog 41 = some mf41.er := by kernel_rfl
theorem mf41_b : aE Tryz.prog 41 = true := by kernel_rfl
theorem mf41_g : mf41.body.good = true := by kernel_rfl
theorem aEV : aV Tryz.prog 42 = some mf42.er := by kernel_rfl
theorem mf42_b : aE Tryz.prog 42 = true := by kernel_rfl
theorem mf42_g : mf42.body.good = true := by kernel_rfl
theorem aAt : L42_0.good = true := by kernel_rfl
theorem aEU : aV Tryz.prog 43 = some mf43.er := by kernel_rfl
theorem mf43_b : aE Tryz.prog 43 = true := by kernel_rfl
theorem mf43_g : mf43.body.good = true := by kernel_rfl
theorem aET : aV Tryz.prog 44 = some mf44.er := by kernel_rfl
theorem mf44_b : aE Tryz.prog 44 = true := by kernel_rfl
theorem mf44_g : mf44.body.good = true := by kernel_rfl
theorem aES : aV Tryz.prog 45 = some mf45.er := by kernel_rfl
theorem mf45_b : aE Tryz.prog 45 = true := by kernel_rfl
theorem mf45_g : mf45.body.good = true := by kernel_rfl
theorem aAs : L45_0.good = true := by kernel_rfl
theorem aER : aV Tryz.prog 46 = some mf46.er := by kernel_rfl
theorem mf46_b : aE Tryz.prog 46 = true := by kernel_rfl
theorem mf46_g : mf46.body.good = true := by kernel_rfl
theorem aEQ : aV Tryz.prog 47 = some mf47.er := by kernel_rfl
theorem mf47_b : aE Tryz.prog 47 = true := by kernel_rfl
theorem mf47_g : mf47.body.good = true := by kernel_rfl
theorem aAr : L47_0.good = true := by kernel_rfl
theorem aHi : L47_1.good = true := by kernel_rfl
theorem aEP : aV Tryz.prog 61 = some mf61.er := by kernel_rfl
theorem mf61_b : aE Tryz.prog 61 = true := by kernel_rfl
theorem mf61_g : mf61.body.good = true := by kernel_rfl
theorem aEO : aV Tryz.prog 66 = some mf66.er := by kernel_rfl
theorem mf66_b : aE Tryz.prog 66 = true := by kernel_rfl
theorem mf66_g : mf66.body.good = true := by kernel_rfl
theorem aEN : aV Tryz.prog 67 = some mf67.er := by kernel_rfl
theorem mf67_b : aE Tryz.prog 67 = true := by kernel_rfl
theorem mf67_g : mf67.body.good = true := by kernel_rfl
theorem aEM : aV Tryz.prog 68 = some mf68.er := by kernel_rfl
theorem mf68_b : aE Tryz.prog 68 = true := by kernel_rfl
theorem mf68_g : mf68.body.good = true := by kernel_rfl
theorem aAq : L68_0.good = true := by kernel_rfl
theorem aEL : aV Tryz.prog 75 = some mf75.er := by kernel_rfl
theorem mf75_b : aE Tryz.prog 75 = true := by kernel_rfl
theorem mf75_g : mf75.body.good = true := by kernel_rfl
theorem aEK : aV Tryz.prog 76 = some mf76.er := by kernel_rfl
theorem mf76_b : aE Tryz.prog 76 = true := by kernel_rfl
theorem mf76_g : mf76.body.good = true := by kernel_rfl
theorem aEJ : aV Tryz.prog 77 = some mf77.er := by kernel_rfl
theorem mf77_b : aE Tryz.prog 77 = true := by kernel_rfl
theorem mf77_g : mf77.body.good = true := by kernel_rfl
theorem aHh : L77_0.good = true := by kernel_rfl
theorem aHg : L77_1.good = true := by kernel_rfl
theorem aEI : aV Tryz.prog 78 = some mf78.er := by kernel_rfl
theorem mf78_b : aE Tryz.prog 78 = true := by kernel_rfl
theorem mf78_g : mf78.body.good = true := by kernel_rfl
theorem aHf : L78_0.good = true := by kernel_rfl
theorem aEH : aV Tryz.prog 79 = some mf79.er := by kernel_rfl
theorem mf79_b : aE Tryz.prog 79 = true := by kernel_rfl
theorem mf79_g : mf79.body.good = true := by kernel_rfl
theorem aEG : aV Tryz.prog 80 = some mf80.er := by kernel_rfl
theorem mf80_b : aE Tryz.prog 80 = true := by kernel_rfl
theorem mf80_g : mf80.body.good = true := by kernel_rfl
theorem aEF : aV Tryz.prog 81 = some mf81.er := by kernel_rfl
theorem mf81_b : aE Tryz.prog 81 = true := by kernel_rfl
theorem mf81_g : mf81.body.good = true := by kernel_rfl
theorem aAp : L81_0.good = true := by kernel_rfl
theorem aEE : aV Tryz.prog 82 = some mf82.er := by kernel_rfl
theorem mf82_b : aE Tryz.prog 82 = true := by kernel_rfl
theorem mf82_g : mf82.body.good = true := by kernel_rfl
theorem aED : aV Tryz.prog 83 = some mf83.er := by kernel_rfl
theorem mf83_b : aE Tryz.prog 83 = true := by kernel_rfl
theorem mf83_g : mf83.body.good = true := by kernel_rfl
theorem aAo : L83_0.good = true := by kernel_rfl
theorem aAn : L83_1.good = true := by kernel_rfl
theorem aEC : aV Tryz.prog 84 = some mf84.er := by kernel_rfl
theorem mf84_b : aE Tryz.prog 84 = true := by kernel_rfl
theorem mf84_g : mf84.body.good = true := by kernel_rfl
theorem aEB : aV Tryz.prog 85 = some mf85.er := by kernel_rfl
theorem mf85_b : aE Tryz.prog 85 = true := by kernel_rfl
theorem mf85_g : mf85.body.good = true := by kernel_rfl
theorem aEA : aV Tryz.prog 86 = some mf86.er := by kernel_rfl
theorem mf86_b : aE Tryz.prog 86 = true := by kernel_rfl
theorem mf86_g : mf86.body.good = true := by kernel_rfl
theorem aAm : L86_0.good = true := by kernel_rfl
theorem aEz : aV Tryz.prog 87 = some mf87.er := by kernel_rfl
theorem mf87_b : aE Tryz.prog 87 = true := by kernel_rfl
theorem mf87_g : mf87.body.good = true := by kernel_rfl
theorem aEy : aV Tryz.prog 88 = some mf88.er := by kernel_rfl
theorem mf88_b : aE Tryz.prog 88 = true := by kernel_rfl
theorem mf88_g : mf88.body.good = true := by kernel_rfl
theorem aEx : aV Tryz.prog 89 = some mf89.er := by kernel_rfl
theorem mf89_b : aE Tryz.prog 89 = true := by kernel_rfl
theorem mf89_g : mf89.body.good = true := by kernel_rfl
theorem aC5 : aV Tryz.prog 123 = some mf123.er := by kernel_rfl
theorem aGR : aE Tryz.prog 123 = true := by kernel_rfl
theorem aGQ : mf123.body.good = true := by kernel_rfl
theorem aC4 : aV Tryz.prog 124 = some mf124.er := by kernel_rfl
theorem aGP : aE Tryz.prog 124 = true := by kernel_rfl
theorem aGO : mf124.body.good = true := by kernel_rfl
theorem wR : L124_0.good = true := by kernel_rfl
theorem aC3 : aV Tryz.prog 125 = some mf125.er := by kernel_rfl
theorem aGN : aE Tryz.prog 125 = true := by kernel_rfl
theorem aGM : mf125.body.good = true := by kernel_rfl
theorem aC2 : aV Tryz.prog 126 = some mf126.er := by kernel_rfl
theorem aGL : aE Tryz.prog 126 = true := by kernel_rfl
theorem aGK : mf126.body.good = true := by kernel_rfl
theorem wQ : L126_0.good = true := by kernel_rfl
theorem aC1 : aV Tryz.prog 136 = some mf136.er := by kernel_rfl
theorem aGI : aE Tryz.prog 136 = true := by kernel_rfl
theorem aGH : mf136.body.good = true := by kernel_rfl
theorem wP : L136_0.good = true := by kernel_rfl
theorem aC0 : aV Tryz.prog 137 = some mf137.er := by kernel_rfl
theorem aGG : aE Tryz.prog 137 = true := by kernel_rfl
theorem aGF : mf137.body.good = true := by kernel_rfl
theorem aCZ : aV Tryz.prog 138 = some mf138.er := by kernel_rfl
theorem aGE : aE Tryz.prog 138 = true := by kernel_rfl
theorem aGD : mf138.body.good = true := by kernel_rfl
theorem wO : L138_0.good = true := by kernel_rfl
theorem aCY : aV Tryz.prog 139 = some mf139.er := by kernel_rfl
theorem aGC : aE Tryz.prog 139 = true := by kernel_rfl
theorem aGB : mf139.body.good = true := by kernel_rfl
theorem aCX : aV Tryz.prog 140 = some mf140.er := by kernel_rfl
theorem aGz : aE Tryz.prog 140 = true := by kernel_rfl
theorem aGy : mf140.body.good = true := by kernel_rfl
theorem aCW : aV Tryz.prog 141 = some mf141.er := by kernel_rfl
theorem aGx : aE Tryz.prog 141 = true := by kernel_rfl
theorem aGw : mf141.body.good = true := by kernel_rfl
theorem aCV : aV Tryz.prog 142 = some mf142.er := by kernel_rfl
theorem aGv : aE Tryz.prog 142 = true := by kernel_rfl
theorem aGu : mf142.body.good = true := by kernel_rfl
theorem wN : L142_0.good = true := by kernel_rfl
theorem aCU : aV Tryz.prog 143 = some mf143.er := by kernel_rfl
theorem aGt : aE Tryz.prog 143 = true := by kernel_rfl
theorem aGs : mf143.body.good = true := by kernel_rfl
theorem aDX : L143_0.good = true := by kernel_rfl
theorem aCT : aV Tryz.prog 144 = some mf144.er := by kernel_rfl
theorem aGr : aE Tryz.prog 144 = true := by kernel_rfl
theorem aGq : mf144.body.good = true := by kernel_rfl
theorem wM : L144_0.good = true := by kernel_rfl
theorem aCS : aV Tryz.prog 145 = some mf145.er := by kernel_rfl
theorem aGp : aE Tryz.prog 145 = true := by kernel_rfl
theorem aGo : mf145.body.good = true := by kernel_rfl
theorem aCR : aV Tryz.prog 146 = some mf146.er := by kernel_rfl
theorem aGn : aE Tryz.prog 146 = true := by kernel_rfl
theorem aGm : mf146.body.good = true := by kernel_rfl
theorem aCQ : aV Tryz.prog 147 = some mf147.er := by kernel_rfl
theorem aGl : aE Tryz.prog 147 = true := by kernel_rfl
theorem aGk : mf147.body.good = true := by kernel_rfl
theorem aCP : aV Tryz.prog 148 = some mf148.er := by kernel_rfl
theorem aGj : aE Tryz.prog 148 = true := by kernel_rfl
theorem aGi : mf148.body.good = true := by kernel_rfl
theorem aCO : aV Tryz.prog 149 = some mf149.er := by kernel_rfl
theorem aGh : aE Tryz.prog 149 = true := by kernel_rfl
theorem aGg : mf149.body.good = true := by kernel_rfl
theorem wL : L149_0.good = true := by kernel_rfl
theorem aCN : aV Tryz.prog 150 = some mf150.er := by kernel_rfl
theorem aGe : aE Tryz.prog 150 = true := by kernel_rfl
theorem aGd : mf150.body.good = true := by kernel_rfl
theorem aCM : aV Tryz.prog 151 = some mf151.er := by kernel_rfl
theorem aGc : aE Tryz.prog 151 = true := by kernel_rfl
theorem aGb : mf151.body.good = true := by kernel_rfl
theorem aCL : aV Tryz.prog 152 = some mf152.er := by kernel_rfl
theorem aGa : aE Tryz.prog 152 = true := by kernel_rfl
theorem aF9 : mf152.body.good = true := by kernel_rfl
theorem wK : L152_0.good = true := by kernel_rfl
theorem aCK : aV Tryz.prog 153 = some mf153.er := by kernel_rfl
theorem aF8 : aE Tryz.prog 153 = true := by kernel_rfl
theorem aF7 : mf153.body.good = true := by kernel_rfl
theorem aCJ : aV Tryz.prog 154 = some mf154.er := by kernel_rfl
theorem aF6 : aE Tryz.prog 154 = true := by kernel_rfl
theorem aF5 : mf154.body.good = true := by kernel_rfl
theorem wJ : L154_0.good = true := by kernel_rfl
theorem aBy : tW.good = true := by kernel_rfl
theorem aBx : R154_1b.good = true := by kernel_rfl
theorem aCI : aV Tryz.prog 155 = some mf155.er := by kernel_rfl
theorem aF4 : aE Tryz.prog 155 = true := by kernel_rfl
theorem aF3 : mf155.body.good = true := by kernel_rfl
theorem wI : L155_0.good = true := by kernel_rfl
theorem aCH : aV Tryz.prog 156 = some mf156.er := by kernel_rfl
theorem aF2 : aE Tryz.prog 156 = true := by kernel_rfl
theorem aF1 : mf156.body.good = true := by kernel_rfl
theorem wH : L156_0.good = true := by kernel_rfl
theorem wG : L156_1.good = true := by kernel_rfl
theorem aCG : aV Tryz.prog 157 = some mf157.er := by kernel_rfl
theorem aF0 : aE Tryz.prog 157 = true := by kernel_rfl
theorem aFZ : mf157.body.good = true := by kernel_rfl
theorem aCF : aV Tryz.prog 158 = some mf158.er := by kernel_rfl
theorem aFY : aE Tryz.prog 158 = true := by kernel_rfl
theorem aFX : mf158.body.good = true := by kernel_rfl
theorem wF : L158_0.good = true := by kernel_rfl
theorem aCE : aV Tryz.prog 159 = some mf159.er := by kernel_rfl
theorem aFW : aE Tryz.prog 159 = true := by kernel_rfl
theorem aFV : mf159.body.good = true := by kernel_rfl
theorem aCD : aV Tryz.prog 160 = some mf160.er := by kernel_rfl
theorem aFU : aE Tryz.prog 160 = true := by kernel_rfl
theorem aFT : mf160.body.good = true := by kernel_rfl
theorem aBw : tV.good = true := by kernel_rfl
theorem aBv : tU.good = true := by kernel_rfl
theorem aCC : aV Tryz.prog 161 = some mf161.er := by kernel_rfl
theorem aFS : aE Tryz.prog 161 = true := by kernel_rfl
theorem aFR : mf161.body.good = true := by kernel_rfl
theorem aCB : aV Tryz.prog 162 = some mf162.er := by kernel_rfl
theorem aFQ : aE Tryz.prog 162 = true := by kernel_rfl
theorem aFP : mf162.body.good = true := by kernel_rfl
theorem wE : L162_0.good = true := by kernel_rfl
theorem aCA : aV Tryz.prog 168 = some mf168.er := by kernel_rfl
theorem aFO : aE Tryz.prog 168 = true := by kernel_rfl
theorem aFN : mf168.body.good = true := by kernel_rfl
theorem aCz : aV Tryz.prog 172 = some mf172.er := by kernel_rfl
theorem aFM : aE Tryz.prog 172 = true := by kernel_rfl
theorem aFL : mf172.body.good = true := by kernel_rfl
theorem aCy : aV Tryz.prog 173 = some mf173.er := by kernel_rfl
theorem aFK : aE Tryz.prog 173 = true := by kernel_rfl
theorem aFJ : mf173.body.good = true := by kernel_rfl
theorem aDW : L173_0.good = true := by kernel_rfl
theorem aCx : aV Tryz.prog 174 = some mf174.er := by kernel_rfl
theorem aFI : aE Tryz.prog 174 = true := by kernel_rfl
theorem aFH : mf174.body.good = true := by kernel_rfl
theorem wD : L174_0.good = true := by kernel_rfl
theorem aCw : aV Tryz.prog 175 = some mf175.er := by kernel_rfl
theorem aFG : aE Tryz.prog 175 = true := by kernel_rfl
theorem aFF : mf175.body.good = true := by kernel_rfl
theorem aCv : aV Tryz.prog 176 = some mf176.er := by kernel_rfl
theorem aFE : aE Tryz.prog 176 = true := by kernel_rfl
theorem aFD : mf176.body.good = true := by kernel_rfl
theorem wC : L176_0.good = true := by kernel_rfl
theorem aCu : aV Tryz.prog 177 = some mf177.er := by kernel_rfl
theorem aFC : aE Tryz.prog 177 = true := by kernel_rfl
theorem aFB : mf177.body.good = true := by kernel_rfl
theorem aCt : aV Tryz.prog 178 = some mf178.er := by kernel_rfl
theorem aFA : aE Tryz.prog 178 = true := by kernel_rfl
theorem aFz : mf178.body.good = true := by kernel_rfl
theorem aCs : aV Tryz.prog 179 = some mf179.er := by kernel_rfl
theorem aFy : aE Tryz.prog 179 = true := by kernel_rfl
theorem aFx : mf179.body.good = true := by kernel_rfl
theorem aCr : aV Tryz.prog 180 = some mf180.er := by kernel_rfl
theorem aFw : aE Tryz.prog 180 = true := by kernel_rfl
theorem aFv : mf180.body.good = true := by kernel_rfl
theorem aBu : tT.good = true := by kernel_rfl
theorem aBt : R180_0b.good = true := by kernel_rfl
theorem aCq : aV Tryz.prog 181 = some mf181.er := by kernel_rfl
theorem aFu : aE Tryz.prog 181 = true := by kernel_rfl
theorem aFt : mf181.body.good = true := by kernel_rfl
theorem aCp : aV Tryz.prog 182 = some mf182.er := by kernel_rfl
theorem aFs : aE Tryz.prog 182 = true := by kernel_rfl
theorem aFr : mf182.body.good = true := by kernel_rfl
theorem aBs : tS.good = true := by kernel_rfl
theorem aBr : R182_0b.good = true := by kernel_rfl
theorem aCo : aV Tryz.prog 188 = some mf188.er := by kernel_rfl
theorem aFq : aE Tryz.prog 188 = true := by kernel_rfl
theorem aFp : mf188.body.good = true := by kernel_rfl
theorem wB : L188_0.good = true := by kernel_rfl
theorem aCn : aV Tryz.prog 189 = some mf189.er := by kernel_rfl
theorem aFo : aE Tryz.prog 189 = true := by kernel_rfl
theorem aFn : mf189.body.good = true := by kernel_rfl
theorem aCm : aV Tryz.prog 190 = some mf190.er := by kernel_rfl
theorem aFm : aE Tryz.prog 190 = true := by kernel_rfl
theorem aFl : mf190.body.good = true := by kernel_rfl
theorem aCl : aV Tryz.prog 195 = some mf195.er := by kernel_rfl
theorem aFk : aE Tryz.prog 195 = true := by kernel_rfl
theorem aFj : mf195.body.good = true := by kernel_rfl
theorem wA : L195_0.good = true := by kernel_rfl
theorem vZ : L195_1.good = true := by kernel_rfl
theorem aCk : aV Tryz.prog 229 = some mf229.er := by kernel_rfl
theorem aFi : aE Tryz.prog 229 = true := by kernel_rfl
theorem aFh : mf229.body.good = true := by kernel_rfl
theorem aDV : L229_0.good = true := by kernel_rfl
theorem aDU : L229_1.good = true := by kernel_rfl
theorem aCj : aV Tryz.prog 230 = some mf230.er := by kernel_rfl
theorem aFg : aE Tryz.prog 230 = true := by kernel_rfl
theorem aFf : mf230.body.good = true := by kernel_rfl
theorem aDT : L230_0.good = true := by kernel_rfl
theorem aCi : aV Tryz.prog 231 = some mf231.er := by kernel_rfl
theorem aFe : aE Tryz.prog 231 = true := by kernel_rfl
theorem aFd : mf231.body.good = true := by kernel_rfl
end
end Go.Proofs.Ab
