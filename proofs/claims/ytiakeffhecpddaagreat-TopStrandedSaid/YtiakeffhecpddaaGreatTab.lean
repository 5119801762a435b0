/- The own layer under the proofs of this seat, part Tab: what calls of the program come to on an abstract heap. No condition. -/
import Derived.Test.YtiakeffhecpddaaGreatG
import Derived.Test.YtiakeffhecpddaaGreatChecked
import Derived.KernelRfl
set_option linter.unusedSimpArgs false
set_option linter.unusedVariables false
namespace Go.Proofs.Ab
open Go
def bP:Code→List Nat→Code
 | .seq a b,i::r=>if i=0 then bP a r else bP b r
 | .cond _ a b,i::r=>if i=0 then bP a r else bP b r
 | .block _ a,_::r=>bP a r
 | .loop a,_::r=>bP a r
 | .scope a,_::r=>bP a r
 | .rangeFunc _ _ a b,i::r=>if i=0 then bP a r else bP b r
 | c,_=>c
noncomputable def cL (f:Nat):Code:=((Tryz.prog.funcs[f]?).bind (·.body)).getD .skip
theorem aH:Tryz.prog.follows .mixedOrders=true:=by kernel_rfl
noncomputable section
abbrev o_(n:Nat)(x:MOp):MIx:= .op (some n) none x
abbrev q_(n c:Nat)(b:Bool)(x:MOp):MIx:= .op (some n) (some (c,b)) x
abbrev m_(n:Nat):MOp:= .mov (.t n)
abbrev i_(n:Int):Opd:= .k (.int .i64 n)
abbrev f_(n:Nat):Opd:= .k (.fn (.func n) [] [])
abbrev l_(n:Nat):MOp:= .load (.t n) none
attribute [go_sem] o_ q_ m_ i_ f_ l_
abbrev a_(n k:Nat):MOp:= .addr (.t n) k
abbrev x_(e a b:Nat):MOp:= .idxs e (.t a) (.t b)
abbrev p_(a b:Nat):MOp:= .pick (.t a) (.t b) (.k (.bool false))
abbrev r_(a b:Nat):MOp:= .pick (.t a) (.k (.bool true)) (.t b)
abbrev b_(b:Bool):MOp:= .mov (.k (.bool b))
abbrev e_(n k:Nat):MOp:= .ext (.t n) k
abbrev w_(n k:Nat):MOp:= .load (.t n) (some k)
abbrev n_(n:Nat):MOp:= .len (.t n)
abbrev s_(a b k:Nat):MIx:= .op none none (.store (.t a) (.t b) k)
abbrev c_(n f:Nat)(l:List Opd):MIx:= .call (some n) none (.k (.fn (.func f) [] [])) l
abbrev d_(n c:Nat)(b:Bool)(f:Nat)(l:List Opd):MIx:= .call (some n) (some (c,b)) (.k (.fn (.func f) [] [])) l
abbrev v_(n k:Nat):MIx:= .op (some n) none (.mov (.t k))
abbrev y_(n k:Nat):MIx:= .op (some n) none (.load (.t k) none)
abbrev z_(n e a b:Nat):MIx:= .op (some n) none (.idxs e (.t a) (.t b))
abbrev j_(n k:Nat):MIx:= .op (some n) none (.bin .add (.t k) (.k (.int .i64 1)))
attribute [go_sem] a_ x_ p_ r_ b_ e_ w_ n_ s_ c_ d_ v_ y_ z_ j_
def L4_0:SC:=(.seq (.seq (.reg [v_ 53 8,o_ 54 (a_ 3 2),y_ 55 54,o_ 56 (n_ 55),o_ 57 (.bin .lss (.t 53) (.t 56))])
 (.cond (.t 57) .skip
 (.exit 0)))
 (.seq (.blk 1 (.seq (.reg [o_ 60 (a_ 3 2),y_ 61 60,v_ 62 8,z_ 63 5 61 62,o_ 64 (w_ 63 5),o_ 9 (.alloc [(.int .i64 0),(.int .i64 0),(.int .i64 0),(.int .i64 0),(.int .i64 0)]),s_ 9 64 5])
 (.seq (.reg [o_ 65 (a_ 9 4),.op none none (.store (.t 65) (i_ 0) 1)])
 (.reg [o_ 66 (a_ 7 2),y_ 67 66,o_ 68 (w_ 9 5),o_ 69 (.bslice 5 [(.int .i64 0),(.int .i64 0),(.int .i64 0),(.int .i64 0),(.int .i64 0)] 1 [(0,5,(.t 68))]),o_ 70 (.app 5 [(.int .i64 0),(.int .i64 0),(.int .i64 0),(.int .i64 0),(.int .i64 0)] 40 (.t 67) (.t 69)),o_ 71 (a_ 7 2),s_ 71 70 1]))))
 (.reg [v_ 58 8,j_ 59 58,v_ 8 59])))
def D4_0:List MIx:=[o_ 97 (m_ 1),o_ 98 (m_ 10),o_ 99 (.idxs 1 (.t 97) (.t 98)),o_ 100 (l_ 99),o_ 101 (m_ 1),o_ 102 (m_ 10),o_ 103 (.idxs 1 (.t 101) (.t 102)),o_ 104 (l_ 103),o_ 105 (.addr (.t 11) 3),.op none none (.store (.t 105) (.t 100) 1),o_ 106 (.addr (.t 11) 4),.op none none (.store (.t 106) (.t 104) 1)]
def B4_0:List (List Nat):=[[],[],[0,1],[2,0,1],[],[],[4,5],[6,4,5],[0,1,2,3],[8,0,1,2,3],[0,1,2,3,4,5,6,7,8,9],[10,0,1,2,3,4,5,6,7,8,9]]
def L4_1:SC:=(.seq (.seq (.reg [v_ 72 10,o_ 73 (a_ 3 3),y_ 74 73,o_ 75 (n_ 74),o_ 76 (.bin .lss (.t 72) (.t 75))])
 (.cond (.t 76) .skip
 (.exit 2)))
 (.seq (.blk 3 (.seq (.seq (.reg [v_ 79 1,v_ 80 10,z_ 81 1 79 80,y_ 82 81,o_ 83 (.bin .lss (.t 82) (i_ 0)),v_ 84 83,q_ 85 84 false (m_ 1),q_ 86 84 false (m_ 10),q_ 87 84 false (x_ 1 85 86),q_ 88 84 false (l_ 87),q_ 89 84 false (.bin .gtr (.t 88) (i_ 1000000)),o_ 90 (r_ 84 89)])
 (.cond (.t 90) (.seq (.reg [c_ 91 10 [],v_ 6 91])
 .ret)
 .skip))
 (.seq (.reg [o_ 92 (a_ 3 3),y_ 93 92,v_ 94 10,z_ 95 5 93 94,o_ 96 (w_ 95 5),o_ 11 (.alloc [(.int .i64 0),(.int .i64 0),(.int .i64 0),(.int .i64 0),(.int .i64 0)]),s_ 11 96 5])
 (.seq (.draw [] D4_0 B4_0)
 (.reg [o_ 107 (a_ 7 3),y_ 108 107,o_ 109 (w_ 11 5),o_ 110 (.bslice 5 [(.int .i64 0),(.int .i64 0),(.int .i64 0),(.int .i64 0),(.int .i64 0)] 1 [(0,5,(.t 109))]),o_ 111 (.app 5 [(.int .i64 0),(.int .i64 0),(.int .i64 0),(.int .i64 0),(.int .i64 0)] 40 (.t 108) (.t 110)),o_ 112 (a_ 7 3),s_ 112 111 1])))))
 (.reg [v_ 77 10,j_ 78 77,v_ 10 78])))
def L4_2:SC:=(.seq (.seq (.reg [v_ 129 16,v_ 130 12,v_ 131 2,z_ 132 1 130 131,y_ 133 132,o_ 134 (n_ 133),o_ 135 (.bin .lss (.t 129) (.t 134))])
 (.cond (.t 135) .skip
 (.exit 4)))
 (.seq (.blk 5 (.seq (.draw [true] [o_ 139 (w_ 7 5),o_ 140 (w_ 15 3),o_ 141 (a_ 7 4),y_ 142 141,v_ 143 2,z_ 144 1 142 143,y_ 145 144,v_ 146 16,z_ 147 1 145 146,y_ 148 147,v_ 149 12,v_ 150 2,z_ 151 1 149 150,y_ 152 151,v_ 153 16,z_ 154 1 152 153,y_ 155 154,c_ 156 19 [(.t 139),(.t 140),(.t 148),(.t 155)],v_ 138 156,o_ 157 (e_ 138 0),o_ 158 (e_ 138 1),o_ 159 (e_ 138 2),o_ 160 (e_ 138 3),o_ 17 (.alloc [.nilS,.nilS,.nilS]),s_ 17 157 3,v_ 18 158,v_ 19 159,v_ 20 160] [[],[],[],[2],[],[3,2,4],[5,3,2,4],[],[6,5,3,2,4,7],[8,6,5,3,2,4,7],[],[],[10,11],[12,10,11],[],[13,12,10,11,14],[15,13,12,10,11,14],[0,1,9,8,6,5,3,2,4,7,16,15,13,12,10,11,14],[17,0,1,9,8,6,5,3,2,4,7,16,15,13,12,10,11,14],[18,17,0,1,9,8,6,5,3,2,4,7,16,15,13,12,10,11,14],[18,17,0,1,9,8,6,5,3,2,4,7,16,15,13,12,10,11,14],[18,17,0,1,9,8,6,5,3,2,4,7,16,15,13,12,10,11,14],[18,17,0,1,9,8,6,5,3,2,4,7,16,15,13,12,10,11,14],[],[23,19,18,17,0,1,9,8,6,5,3,2,4,7,16,15,13,12,10,11,14],[20,18,17,0,1,9,8,6,5,3,2,4,7,16,15,13,12,10,11,14,24,23,19],[21,18,17,0,1,9,8,6,5,3,2,4,7,16,15,13,12,10,11,14,25,20,24,23,19],[22,18,17,0,1,9,8,6,5,3,2,4,7,16,15,13,12,10,11,14,26,21,25,20,24,23,19]])
 (.seq (.seq (.reg [v_ 161 20,o_ 162 (.bin .neq (.t 161) (i_ 0)),v_ 163 162,q_ 164 163 false (m_ 18),q_ 165 163 false (.bin .neq (.t 164) (i_ 1)),o_ 166 (r_ 163 165),v_ 167 166,q_ 168 167 false (w_ 7 5),q_ 169 167 false (w_ 17 3),d_ 170 167 false 20 [(.t 168),(.t 169)],q_ 171 167 false (.un .not (.t 170)),o_ 172 (r_ 167 171)])
 (.cond (.t 172) (.seq (.reg [o_ 6 (b_ false)])
 .ret)
 .skip))
 (.reg [o_ 173 (w_ 17 3),s_ 15 173 3]))))
 (.reg [v_ 136 16,j_ 137 136,v_ 16 137])))
def D4_1:List MIx:=[o_ 182 (.build [(.int .i64 0),(.int .i64 0)] [(0,1,(i_ 1000))]),o_ 183 (m_ 1),o_ 184 (m_ 22),o_ 185 (.idxs 1 (.t 183) (.t 184)),o_ 186 (l_ 185),o_ 187 (.bslice 1 [(.int .i64 0)] 1 [(0,1,(i_ 1))]),o_ 188 (.addr (.t 15) 2),o_ 189 (l_ 188),o_ 190 (m_ 22),o_ 191 (.idxs 1 (.t 189) (.t 190)),o_ 192 (l_ 191),o_ 193 (.addr (.t 7) 3),o_ 194 (l_ 193),o_ 195 (m_ 22),o_ 196 (.idxs 5 (.t 194) (.t 195)),o_ 197 (.addr (.t 196) 1),o_ 198 (l_ 197),o_ 199 (.bin .eql (.t 192) (.t 198)),o_ 200 (.bslice 1 [(.bool false)] 1 [(0,1,(.t 199))]),.call (some 201) none (f_ 21) [(.t 182),(.t 186),(.t 187),(.t 200)],o_ 181 (m_ 201),o_ 202 (.ext (.t 181) 0),o_ 203 (.ext (.t 181) 1),o_ 23 (.alloc [(.int .i64 0),(.int .i64 0),(.int .i64 0),(.int .i64 0)]),.op none none (.store (.t 23) (.t 202) 4),o_ 24 (m_ 203)]
def B4_1:List (List Nat):=[[],[],[],[1,2],[3,1,2],[],[],[6],[],[7,6,8],[9,7,6,8],[],[11],[],[12,11,13],[14,12,11,13],[15,14,12,11,13],[10,9,7,6,8,16,15,14,12,11,13],[17,10,9,7,6,8,16,15,14,12,11,13],[0,4,3,1,2,5,18,17,10,9,7,6,8,16,15,14,12,11,13],[19,0,4,3,1,2,5,18,17,10,9,7,6,8,16,15,14,12,11,13],[20,19,0,4,3,1,2,5,18,17,10,9,7,6,8,16,15,14,12,11,13],[20,19,0,4,3,1,2,5,18,17,10,9,7,6,8,16,15,14,12,11,13],[],[23,21,20,19,0,4,3,1,2,5,18,17,10,9,7,6,8,16,15,14,12,11,13],[22,20,19,0,4,3,1,2,5,18,17,10,9,7,6,8,16,15,14,12,11,13,24,23,21]]
def L4_3:SC:=(.seq (.seq (.reg [v_ 174 22,o_ 175 (a_ 15 2),y_ 176 175,o_ 177 (n_ 176),o_ 178 (.bin .lss (.t 174) (.t 177))])
 (.cond (.t 178) .skip
 (.exit 6)))
 (.seq (.blk 7 (.seq (.draw [] D4_1 B4_1)
 (.seq (.seq (.reg [v_ 204 24,o_ 205 (.bin .neq (.t 204) (i_ 0))])
 (.cond (.t 205) (.seq (.reg [o_ 6 (b_ false)])
 .ret)
 .skip))
 (.reg [v_ 206 21,o_ 207 (a_ 23 1),y_ 208 207,o_ 209 (.bin .add (.t 206) (.t 208)),v_ 21 209]))))
 (.reg [v_ 179 22,j_ 180 179,v_ 22 180])))
def mf4:SF:=⟨231,[(.t 6)],
 (.seq (.reg [o_ 3 (.box (.t 0) 5),o_ 6 (b_ false)])
 (.seq (.seq (.reg [o_ 27 (w_ 3 5),c_ 28 15 [(.t 27)],o_ 29 (.un .not (.t 28)),v_ 30 29,q_ 31 30 false (m_ 2),q_ 32 30 false (.bin .lss (.t 31) (i_ 0)),o_ 33 (r_ 30 32),v_ 34 33,q_ 35 34 false (m_ 2),q_ 36 34 false (a_ 3 4),q_ 37 34 false (l_ 36),q_ 38 34 false (n_ 37),q_ 39 34 false (.bin .geq (.t 35) (.t 38)),o_ 40 (r_ 34 39),v_ 41 40,q_ 42 41 false (m_ 1),q_ 43 41 false (n_ 42),q_ 44 41 false (a_ 3 3),q_ 45 41 false (l_ 44),q_ 46 41 false (n_ 45),q_ 47 41 false (.bin .neq (.t 43) (.t 46)),o_ 48 (r_ 41 47)])
 (.cond (.t 48) (.seq (.reg [c_ 49 10 [],v_ 6 49])
 .ret)
 .skip))
 (.seq (.reg [o_ 50 (w_ 3 5),o_ 7 (.alloc [.nilS,.nilS,.nilS,.nilS,.nilS]),s_ 7 50 5])
 (.seq (.reg [o_ 51 (a_ 7 2),.op none none (.store (.t 51) (.k .nilS) 1),o_ 52 (a_ 7 3),.op none none (.store (.t 52) (.k .nilS) 1)])
 (.seq (.seq (.reg [o_ 8 (.mov (i_ 0))])
 (.blk 0 (.loop [1,2,3,7,8] L4_0)))
 (.seq (.seq (.reg [o_ 10 (.mov (i_ 0))])
 (.blk 2 (.loop [1,2,3,7,10] L4_1)))
 (.seq (.reg [o_ 114 (w_ 7 5),c_ 115 16 [(.t 114)],v_ 113 115,o_ 116 (e_ 113 0),o_ 117 (e_ 113 1),o_ 118 (e_ 113 2),v_ 12 116,v_ 13 117,v_ 14 118])
 (.seq (.seq (.reg [v_ 119 14,o_ 120 (.bin .neq (.t 119) (i_ 0)),v_ 121 120,q_ 122 121 false (w_ 7 5),q_ 123 121 false (m_ 12),d_ 124 121 false 17 [(.t 122),(.t 123)],q_ 125 121 false (.un .not (.t 124)),o_ 126 (r_ 121 125)])
 (.cond (.t 126) (.seq (.reg [o_ 6 (b_ false)])
 .ret)
 .skip))
 (.seq (.reg [o_ 127 (w_ 7 5),c_ 128 18 [(.t 127)],o_ 15 (.alloc [.nilS,.nilS,.nilS]),s_ 15 128 3])
 (.seq (.seq (.reg [o_ 16 (.mov (i_ 0))])
 (.blk 4 (.loop [1,2,7,12,13,15,16] L4_2)))
 (.seq (.reg [o_ 21 (.mov (i_ 0))])
 (.seq (.seq (.reg [o_ 22 (.mov (i_ 0))])
 (.blk 6 (.loop [1,7,13,15,21,22] L4_3)))
 (.seq (.reg [o_ 211 (w_ 7 5),o_ 212 (w_ 15 3),c_ 213 22 [(.t 211),(.t 212)],v_ 210 213,o_ 214 (e_ 210 0),o_ 215 (e_ 210 1),v_ 25 214,v_ 26 215])
 (.seq (.reg [v_ 216 26,o_ 217 (.bin .eql (.t 216) (i_ 0)),v_ 218 217,q_ 219 218 true (m_ 25),q_ 220 218 true (m_ 21),q_ 221 218 true (.bin .eql (.t 219) (.t 220)),o_ 222 (p_ 218 221),v_ 223 222,q_ 224 223 true (m_ 21),q_ 225 223 true (m_ 13),q_ 226 223 true (.bin .leq (.t 224) (.t 225)),o_ 227 (p_ 223 226),v_ 228 227,d_ 229 228 true 10 [],o_ 230 (p_ 228 229),v_ 6 230])
 .ret))))))))))))))⟩
def mf10:SF:=⟨73,[(.t 0)],
 (.seq (.reg [o_ 0 (b_ false)])
 (.seq (.reg [c_ 10 31 [],c_ 11 32 [],c_ 12 11 [(.t 10),(.t 11)],v_ 9 12,o_ 13 (e_ 9 0),o_ 14 (e_ 9 1),v_ 1 13,v_ 2 14])
 (.seq (.reg [c_ 16 34 [],c_ 17 33 [(.t 16)],v_ 15 17,o_ 18 (e_ 15 0),o_ 19 (e_ 15 1),v_ 3 18,v_ 4 19])
 (.seq (.reg [o_ 21 (.bslice 1 [(.int .i64 0)] 3 [(0,1,(i_ 1)),(1,1,(i_ 1)),(2,1,(i_ 1))]),c_ 22 35 [(i_ 1000),(.t 21)],v_ 20 22,o_ 23 (e_ 20 0),o_ 24 (e_ 20 1),v_ 5 23,v_ 6 24])
 (.seq (.reg [o_ 26 (.build [(.int .i64 0),(.int .i64 0)] [(0,1,(i_ 100)),(1,1,(i_ 9))]),o_ 27 (.build [(.int .i64 0),(.int .i64 0)] [(0,1,(i_ 80)),(1,1,(i_ 2))]),o_ 28 (.bslice 2 [(.int .i64 0),(.int .i64 0)] 2 [(0,2,(.t 26)),(2,2,(.t 27))]),o_ 29 (.build [.nilS] [(0,1,(.t 28))]),c_ 30 12 [(.t 29),(i_ 3)],v_ 25 30,o_ 31 (e_ 25 0),o_ 32 (e_ 25 1),v_ 7 31,v_ 8 32])
 (.seq (.reg [v_ 33 2,o_ 34 (.bin .eql (.t 33) (i_ 0)),v_ 35 34,q_ 36 35 true (m_ 4),q_ 37 35 true (.bin .eql (.t 36) (i_ 0)),o_ 38 (p_ 35 37),v_ 39 38,q_ 40 39 true (m_ 6),q_ 41 39 true (.bin .eql (.t 40) (i_ 0)),o_ 42 (p_ 39 41),v_ 43 42,q_ 44 43 true (m_ 8),q_ 45 43 true (.bin .eql (.t 44) (i_ 0)),o_ 46 (p_ 43 45),v_ 47 46,q_ 48 47 true (m_ 1),q_ 49 47 true (.bin .eql (.t 48) (i_ 160)),o_ 50 (p_ 47 49),v_ 51 50,q_ 52 51 true (m_ 3),q_ 53 51 true (n_ 52),q_ 54 51 true (.bin .eql (.t 53) (i_ 2)),o_ 55 (p_ 51 54),v_ 56 55,q_ 57 56 true (m_ 3),q_ 58 56 true (.idxs 1 (.t 57) (i_ 0)),q_ 59 56 true (l_ 58),q_ 60 56 true (.build [(.int .i64 0),(.int .i64 0)] [(0,1,(i_ 480)),(1,1,(i_ 520))]),q_ 61 56 true (.bslice 2 [(.int .i64 0),(.int .i64 0)] 1 [(0,2,(.t 60))]),d_ 62 56 true 36 [(.t 59),(.t 61)],o_ 63 (p_ 56 62),v_ 64 63,q_ 65 64 true (m_ 5),q_ 66 64 true (.bslice 1 [(.int .i64 0)] 3 [(0,1,(i_ 333)),(1,1,(i_ 333)),(2,1,(i_ 334))]),d_ 67 64 true 37 [(.t 65),(.t 66)],o_ 68 (p_ 64 67),v_ 69 68,q_ 70 69 true (m_ 7),q_ 71 69 true (.bin .eql (.t 70) (i_ 100)),o_ 72 (p_ 69 71),v_ 0 72])
 .ret))))))⟩
def D11_0:List MIx:=[o_ 21 (.load (.t 2) (some 10)),o_ 22 (l_ 3),.call (some 23) none (f_ 39) [(.t 21),(.t 22),(i_ 0)],o_ 24 (.load (.t 2) (some 10)),o_ 25 (l_ 3),.call (some 26) none (f_ 39) [(.t 24),(.t 25),(i_ 20000)],o_ 7 (m_ 23),o_ 8 (m_ 26)]
def B11_0:List (List Nat):=[[],[],[0,1],[],[],[3,4,2,0,1],[2,0,1,5,3,4],[5,3,4,2,0,1,6]]
def L11_0:SC:=(.seq (.reg [o_ 30 (.bin .lss (.t 29) (.t 28))])
 (.seq (.cond (.t 30) .skip
 (.exit 0))
 (.seq (.blk 1 (.seq (.reg [v_ 31 29,o_ 10 (.alloc [(.int .i64 0)]),s_ 10 31 1])
 (.seq (.seq (.reg [v_ 32 7,y_ 33 10,z_ 34 1 32 33,y_ 35 34,v_ 36 35,q_ 37 36 true (m_ 8),q_ 38 36 true (l_ 10),q_ 39 36 true (x_ 1 37 38),q_ 40 36 true (l_ 39),o_ 41 (p_ 36 40)])
 (.cond (.t 41) (.seq (.reg [o_ 4 (.mov (i_ 0)),o_ 5 (.mov (i_ 5))])
 .ret)
 .skip))
 (.seq (.reg [v_ 42 7,y_ 43 10,z_ 44 1 42 43,y_ 45 44])
 (.cond (.t 45) (.reg [v_ 46 9,o_ 47 (.mkfn (.func 41) [] [(.t 2),(.t 3),(.t 10)]),c_ 48 40 [(i_ 0),(i_ 20000),(.t 47)],o_ 49 (.minmax false [(.t 46),(.t 48)]),v_ 9 49])
 .skip)))))
 (.reg [j_ 50 29,v_ 29 50]))))
def mf11:SF:=⟨64,[(.t 4),(.t 5)],
 (.seq (.reg [o_ 2 (.box (.t 0) 10),o_ 3 (.box (.t 1) 1),o_ 4 (.mov (i_ 0)),o_ 5 (.mov (i_ 0))])
 (.seq (.seq (.reg [o_ 14 (w_ 2 10),o_ 15 (.build [(.int .i64 0),(.int .i64 0)] []),y_ 16 3,c_ 17 38 [(.t 14),(.t 15),(.t 16)],v_ 6 17])
 (.seq (.reg [v_ 18 6,o_ 19 (.bin .neq (.t 18) (i_ 0))])
 (.cond (.t 19) (.seq (.reg [v_ 20 6,o_ 4 (.mov (i_ 0)),v_ 5 20])
 .ret)
 .skip)))
 (.seq (.draw [] D11_0 B11_0)
 (.seq (.reg [o_ 9 (.mov (i_ 0))])
 (.seq (.seq (.reg [v_ 27 7,o_ 28 (n_ 27),o_ 29 (.mov (i_ 0))])
 (.blk 0 (.loop [2,3,7,8,9,28,29] L11_0)))
 (.seq (.seq (.reg [o_ 52 (w_ 2 10),v_ 53 9,v_ 54 9,o_ 55 (.build [(.int .i64 0),(.int .i64 0)] [(0,1,(.t 53)),(1,1,(.t 54))]),y_ 56 3,c_ 57 42 [(.t 52),(.t 55),(.t 56)],v_ 51 57,o_ 58 (e_ 51 0),o_ 59 (e_ 51 1),o_ 60 (e_ 51 2),v_ 11 58,v_ 12 59,v_ 13 60])
 (.seq (.reg [v_ 61 11,o_ 62 (.bin .geq (.t 61) (i_ 0))])
 (.cond (.t 62) (.seq (.reg [o_ 4 (.mov (i_ 0)),o_ 5 (.mov (i_ 5))])
 .ret)
 .skip)))
 (.seq (.reg [v_ 63 9,v_ 4 63,o_ 5 (.mov (i_ 0))])
 .ret)))))))⟩
def mf12:SF:=⟨19,[(.t 4),(.t 5)],
 (.seq (.reg [o_ 2 (.box (.t 0) 1),o_ 4 (.mov (i_ 0)),o_ 5 (.mov (i_ 0))])
 (.seq (.seq (.reg [o_ 6 (w_ 2 1),c_ 7 43 [(.t 6)],o_ 8 (.un .not (.t 7)),v_ 9 8,q_ 10 9 false (m_ 1),d_ 11 9 false 44 [(.t 10),(i_ 0),(i_ 400)],q_ 12 9 false (.un .not (.t 11)),o_ 13 (r_ 9 12)])
 (.cond (.t 13) (.seq (.reg [o_ 4 (.mov (i_ 0)),o_ 5 (.mov (i_ 2))])
 .ret)
 .skip))
 (.seq (.reg [o_ 14 (a_ 2 0),y_ 15 14,v_ 16 1,c_ 17 46 [(.t 15),(.t 16)],c_ 18 45 [(.t 17)],v_ 4 18,o_ 5 (.mov (i_ 0))])
 .ret)))⟩
def L15_0:SC:=(.seq (.seq (.reg [v_ 4 3,o_ 5 (a_ 1 4),y_ 6 5,o_ 7 (n_ 6),o_ 8 (.bin .lss (.t 4) (.t 7))])
 (.cond (.t 8) .skip
 (.exit 0)))
 (.seq (.blk 1 (.seq (.reg [o_ 11 (a_ 1 4),y_ 12 11,v_ 13 3,z_ 14 1 12 13,y_ 15 14,o_ 16 (n_ 15),o_ 17 (.bin .gtr (.t 16) (i_ 3))])
 (.cond (.t 17) (.seq (.reg [o_ 2 (b_ false)])
 .ret)
 .skip)))
 (.reg [v_ 9 3,j_ 10 9,v_ 3 10])))
def mf15:SF:=⟨62,[(.t 2)],
 (.seq (.reg [o_ 1 (.box (.t 0) 5),o_ 2 (b_ false)])
 (.seq (.seq (.reg [o_ 3 (.mov (i_ 0))])
 (.blk 0 (.loop [1,3] L15_0)))
 (.seq (.reg [o_ 18 (a_ 1 0),y_ 19 18,o_ 20 (n_ 19),o_ 21 (.bin .leq (.t 20) (i_ 4)),v_ 22 21,q_ 23 22 true (a_ 1 1),q_ 24 22 true (l_ 23),q_ 25 22 true (n_ 24),q_ 26 22 true (.bin .leq (.t 25) (i_ 20)),o_ 27 (p_ 22 26),v_ 28 27,q_ 29 28 true (a_ 1 2),q_ 30 28 true (l_ 29),q_ 31 28 true (n_ 30),q_ 32 28 true (.bin .leq (.t 31) (i_ 2)),o_ 33 (p_ 28 32),v_ 34 33,q_ 35 34 true (a_ 1 3),q_ 36 34 true (l_ 35),q_ 37 34 true (n_ 36),q_ 38 34 true (.bin .leq (.t 37) (i_ 3)),o_ 39 (p_ 34 38),v_ 40 39,q_ 41 40 true (a_ 1 4),q_ 42 40 true (l_ 41),q_ 43 40 true (n_ 42),q_ 44 40 true (.bin .leq (.t 43) (i_ 6)),o_ 45 (p_ 40 44),v_ 46 45,q_ 47 46 true (a_ 1 2),q_ 48 46 true (l_ 47),q_ 49 46 true (n_ 48),q_ 50 46 true (.bin .lss (.t 49) (i_ 2)),q_ 51 46 true (m_ 50),q_ 52 51 false (a_ 1 3),q_ 53 51 false (l_ 52),q_ 54 51 false (n_ 53),q_ 55 51 false (.bin .lss (.t 54) (i_ 3)),q_ 56 46 true (r_ 51 55),o_ 57 (p_ 46 56),v_ 58 57,q_ 59 58 true (w_ 1 5),d_ 60 58 true 48 [(.t 59)],o_ 61 (p_ 58 60),v_ 2 61])
 .ret)))⟩
def aKt:List MIx:=[o_ 33 (l_ 6),o_ 34 (l_ 5),o_ 35 (m_ 9),o_ 36 (.load (.t 8) (some 3)),.call (some 37) none (f_ 55) [(.t 34),(i_ 0),(.t 35),(.t 36)],o_ 2 (m_ 33),o_ 3 (m_ 37),o_ 4 (.mov (i_ 0))]
def aKv:List (List Nat):=[[],[],[],[],[1,2,3],[0,4,1,2,3],[4,1,2,3,5,0],[6,4,1,2,3,5,0]]
def D16_0:List MIx:=[o_ 22 (l_ 5),.call (some 23) none (f_ 57) [(.t 22)],o_ 24 (.addr (.t 1) 4),o_ 25 (l_ 24),o_ 26 (.len (.t 25)),o_ 27 (.bin .shl (i_ 1) (.t 26)),o_ 28 (.bin .sub (.t 27) (i_ 1)),o_ 8 (.alloc [.nilS,.nilS,.nilS]),.op none none (.store (.t 8) (.t 23) 3),o_ 9 (m_ 28)]
def B16_0:List (List Nat):=[[],[0],[],[2],[3,2],[4,3,2],[5,4,3,2],[],[7,1,0],[6,5,4,3,2,8,7,1,0]]
def mf16:SF:=⟨38,[(.t 2),(.t 3),(.t 4)],
 (.seq (.reg [o_ 1 (.box (.t 0) 5),o_ 2 (.mov (.k .nilS)),o_ 3 (.mov (i_ 0)),o_ 4 (.mov (i_ 0))])
 (.seq (.seq (.reg [o_ 10 (w_ 1 5),c_ 11 49 [(.t 10)],o_ 12 (.un .not (.t 11))])
 (.cond (.t 12) (.seq (.reg [o_ 2 (.mov (.k .nilS)),o_ 3 (.mov (i_ 0)),o_ 4 (.mov (i_ 2))])
 .ret)
 .skip))
 (.seq (.reg [o_ 13 (w_ 1 5),o_ 14 .mkmap,o_ 15 (.build [.nilS,.nilS,.nilS,.nilS,.nilS,.nilM] [(0,5,(.t 13)),(5,1,(.t 14))]),o_ 16 (.box (.t 15) 6),o_ 5 (.alloc [.nilP]),s_ 5 16 1])
 (.seq (.reg [o_ 17 (a_ 1 4),y_ 18 17,o_ 19 (n_ 18),o_ 20 (.mksl 1 [.nilS] 24 (.t 19) (.t 19)),o_ 6 (.alloc [.nilS]),s_ 6 20 1])
 (.seq (.reg [o_ 7 (.alloc [.nilF])])
 (.seq (.reg [o_ 21 (.mkfn (.func 50) [] [(.t 1),(.t 5),(.t 6),(.t 7)]),s_ 7 21 1])
 (.seq (.draw [] D16_0 B16_0)
 (.seq (.reg [y_ 29 7,v_ 30 9,o_ 31 (w_ 8 3),.call (some 32) none (.t 29) [(i_ 0),(.t 30),(.t 31)]])
 (.seq (.draw [] aKt aKv)
 .ret)))))))))⟩
def D17_81:List MIx:=[o_ 13 (m_ 1),o_ 14 (m_ 5),o_ 15 (.idxs 1 (.t 13) (.t 14)),o_ 16 (l_ 15),o_ 17 (.len (.t 16)),o_ 18 (.load (.t 2) (some 5)),.call (some 19) none (f_ 58) [(.t 18)],o_ 20 (.bin .neq (.t 17) (.t 19))]
def B17_81:List (List Nat):=[[],[],[0,1],[2,0,1],[3,2,0,1],[],[5],[4,3,2,0,1,6,5]]
def L17_0:SC:=(.seq (.seq (.reg [v_ 21 6,v_ 22 1,v_ 23 5,z_ 24 1 22 23,y_ 25 24,o_ 26 (n_ 25),o_ 27 (.bin .lss (.t 21) (.t 26))])
 (.cond (.t 27) .skip
 (.exit 2)))
 (.seq (.blk 3 (.seq (.draw [true] [o_ 30 (w_ 2 5),v_ 31 1,v_ 32 5,z_ 33 1 31 32,y_ 34 33,v_ 35 6,z_ 36 1 34 35,y_ 37 36,c_ 38 59 [(.t 30),(.t 37)],o_ 39 (.un .not (.t 38))] [[],[],[],[1,2],[3,1,2],[],[4,3,1,2,5],[6,4,3,1,2,5],[0,7,6,4,3,1,2,5],[8,0,7,6,4,3,1,2,5]])
 (.cond (.t 39) (.seq (.reg [o_ 4 (b_ false)])
 .ret)
 .skip)))
 (.reg [v_ 28 6,j_ 29 28,v_ 6 29])))
def L17_1:SC:=(.seq (.seq (.reg [v_ 7 5,v_ 8 1,o_ 9 (n_ 8),o_ 10 (.bin .lss (.t 7) (.t 9))])
 (.cond (.t 10) .skip
 (.exit 0)))
 (.seq (.blk 1 (.seq (.seq (.draw [] D17_81 B17_81)
 (.cond (.t 20) (.seq (.reg [o_ 4 (b_ false)])
 .ret)
 .skip))
 (.seq (.reg [o_ 6 (.mov (i_ 0))])
 (.blk 2 (.loop [1,2,5,6] L17_0)))))
 (.reg [v_ 11 5,j_ 12 11,v_ 5 12])))
def mf17:SF:=⟨46,[(.t 4)],
 (.seq (.reg [o_ 2 (.box (.t 0) 5),o_ 4 (b_ false)])
 (.seq (.seq (.reg [o_ 5 (.mov (i_ 0))])
 (.blk 0 (.loop [1,2,5] L17_1)))
 (.seq (.reg [v_ 40 1,o_ 41 (n_ 40),o_ 42 (a_ 2 4),y_ 43 42,o_ 44 (n_ 43),o_ 45 (.bin .eql (.t 41) (.t 44)),v_ 4 45])
 .ret)))⟩
def D18_0:List MIx:=[o_ 13 (.addr (.t 3) 0),o_ 14 (l_ 13),o_ 15 (.addr (.t 1) 2),o_ 16 (l_ 15),o_ 17 (m_ 4),o_ 18 (.idxs 5 (.t 16) (.t 17)),o_ 19 (.addr (.t 18) 0),o_ 20 (l_ 19),o_ 21 (.bslice 1 [(.int .i64 0)] 1 [(0,1,(.t 20))]),o_ 22 (.app 1 [(.int .i64 0)] 8 (.t 14) (.t 21)),o_ 23 (.addr (.t 3) 1),o_ 24 (l_ 23),o_ 25 (.bslice 1 [(.int .i64 0)] 1 [(0,1,(i_ 0))]),o_ 26 (.app 1 [(.int .i64 0)] 8 (.t 24) (.t 25)),o_ 27 (.addr (.t 3) 0),.op none none (.store (.t 27) (.t 22) 1),o_ 28 (.addr (.t 3) 1),.op none none (.store (.t 28) (.t 26) 1)]
def B18_0:List (List Nat):=[[],[0],[],[2],[],[3,2,4],[5,3,2,4],[6,5,3,2,4],[7,6,5,3,2,4],[1,0,8,7,6,5,3,2,4],[],[10],[],[11,10,12,9,1,0,8,7,6,5,3,2,4],[0,1,2,3,4,5,6,7,8,9,10,11],[14,0,1,2,3,4,5,6,7,8,9,10,11,13,12],[0,1,2,3,4,5,6,7,8,9,10,11,12,13,14,15],[16,0,1,2,3,4,5,6,7,8,9,10,11,12,13,14,15]]
def L18_0:SC:=(.seq (.seq (.reg [v_ 6 4,o_ 7 (a_ 1 2),y_ 8 7,o_ 9 (n_ 8),o_ 10 (.bin .lss (.t 6) (.t 9))])
 (.cond (.t 10) .skip
 (.exit 0)))
 (.seq (.blk 1 (.draw [] D18_0 B18_0))
 (.reg [v_ 11 4,j_ 12 11,v_ 4 12])))
def D18_1:List MIx:=[o_ 36 (.addr (.t 3) 2),o_ 37 (l_ 36),o_ 38 (.addr (.t 1) 3),o_ 39 (l_ 38),o_ 40 (m_ 5),o_ 41 (.idxs 5 (.t 39) (.t 40)),o_ 42 (.addr (.t 41) 0),o_ 43 (l_ 42),o_ 44 (.bslice 1 [(.int .i64 0)] 1 [(0,1,(.t 43))]),o_ 45 (.app 1 [(.int .i64 0)] 8 (.t 37) (.t 44)),o_ 46 (.addr (.t 3) 2),.op none none (.store (.t 46) (.t 45) 1)]
def B18_1:List (List Nat):=[[],[0],[],[2],[],[3,2,4],[5,3,2,4],[6,5,3,2,4],[7,6,5,3,2,4],[1,0,8,7,6,5,3,2,4],[0,1,2,3,4,5,6,7,8,9],[10,0,1,2,3,4,5,6,7,8,9]]
def L18_1:SC:=(.seq (.seq (.reg [v_ 29 5,o_ 30 (a_ 1 3),y_ 31 30,o_ 32 (n_ 31),o_ 33 (.bin .lss (.t 29) (.t 32))])
 (.cond (.t 33) .skip
 (.exit 2)))
 (.seq (.blk 3 (.draw [] D18_1 B18_1))
 (.reg [v_ 34 5,j_ 35 34,v_ 5 35])))
def mf18:SF:=⟨48,[(.c 2 (some 3))],
 (.seq (.reg [o_ 1 (.box (.t 0) 5),o_ 2 (.alloc [.nilS,.nilS,.nilS])])
 (.seq (.reg [o_ 3 (.alloc [.nilS,.nilS,.nilS])])
 (.seq (.seq (.reg [o_ 4 (.mov (i_ 0))])
 (.blk 0 (.loop [1,2,3,4] L18_0)))
 (.seq (.seq (.reg [o_ 5 (.mov (i_ 0))])
 (.blk 2 (.loop [1,2,3,5] L18_1)))
 (.seq (.reg [o_ 47 (w_ 3 3),s_ 2 47 3])
 .ret)))))⟩
def D19_0:List MIx:=[o_ 52 (.load (.t 13) (some 3)),.call (some 53) none (f_ 64) [(.t 52)],o_ 54 (.addr (.t 14) 0),o_ 55 (l_ 54),o_ 56 (.addr (.t 14) 1),o_ 57 (l_ 56),.op none none (.store (.t 8) (.t 53) 3),o_ 9 (m_ 55),o_ 10 (m_ 57),o_ 11 (.mov (i_ 0))]
def B19_0:List (List Nat):=[[],[0],[],[2],[],[4],[1,0],[3,2,6,1,0],[5,4,7,3,2,6,1,0],[8,5,4,7,3,2,6,1,0]]
def mf19:SF:=⟨58,[(.c 8 (some 3)),(.t 9),(.t 10),(.t 11)],
 (.seq (.reg [o_ 4 (.box (.t 0) 5),o_ 5 (.box (.t 1) 3),o_ 8 (.alloc [.nilS,.nilS,.nilS]),o_ 9 (.mov (i_ 0)),o_ 10 (.mov (i_ 0)),o_ 11 (.mov (i_ 0))])
 (.seq (.reg [o_ 15 (w_ 4 5),o_ 16 (.build [.nilS,.nilS,.nilS,.nilS,.nilS,.nilM] [(0,5,(.t 15))]),o_ 17 (.box (.t 16) 6),v_ 12 17])
 (.seq (.seq (.reg [o_ 18 (w_ 4 5),c_ 19 49 [(.t 18)],o_ 20 (.un .not (.t 19)),v_ 21 20,q_ 22 21 false (m_ 12),q_ 23 21 false (w_ 5 3),d_ 24 21 false 60 [(.t 22),(.t 23)],q_ 25 21 false (.un .not (.t 24)),o_ 26 (r_ 21 25),v_ 27 26,q_ 28 27 false (m_ 2),q_ 29 27 false (a_ 4 0),q_ 30 27 false (l_ 29),q_ 31 27 false (n_ 30),q_ 32 27 false (.bin .shl (i_ 1) (.t 31)),q_ 33 27 false (.bin .sub (.t 32) (i_ 1)),d_ 34 27 false 61 [(.t 28),(i_ 0),(.t 33)],q_ 35 27 false (.un .not (.t 34)),o_ 36 (r_ 27 35),v_ 37 36,q_ 38 37 false (m_ 12),q_ 39 37 false (m_ 3),d_ 40 37 false 62 [(.t 38),(.t 39)],q_ 41 37 false (.un .not (.t 40)),o_ 42 (r_ 37 41)])
 (.cond (.t 42) (.seq (.reg [o_ 43 (.build [.nilS,.nilS,.nilS] []),s_ 8 43 3,o_ 9 (.mov (i_ 0)),o_ 10 (.mov (i_ 0)),o_ 11 (.mov (i_ 2))])
 .ret)
 .skip))
 (.seq (.reg [v_ 45 12,o_ 46 (w_ 5 3),v_ 47 2,v_ 48 3,c_ 49 63 [(.t 45),(.t 46),(.t 47),(.t 48)],v_ 44 49,o_ 50 (e_ 44 0),o_ 51 (e_ 44 1),o_ 13 (.alloc [.nilS,.nilS,.nilS]),o_ 14 (.alloc [(.int .i64 0),(.int .i64 0)]),s_ 13 50 3,s_ 14 51 2])
 (.seq (.draw [] D19_0 B19_0)
 .ret)))))⟩
def L20_0:SC:=(.seq (.seq (.reg [v_ 32 5,o_ 33 (a_ 3 0),y_ 34 33,o_ 35 (n_ 34),o_ 36 (.bin .lss (.t 32) (.t 35))])
 (.cond (.t 36) .skip
 (.exit 0)))
 (.seq (.blk 1 (.seq (.draw [true] [o_ 39 (a_ 3 0),y_ 40 39,v_ 41 5,z_ 42 1 40 41,y_ 43 42,o_ 44 (a_ 2 0),y_ 45 44,o_ 46 (n_ 45),o_ 47 (.bin .sub (.t 46) (i_ 1)),c_ 48 65 [(.t 43),(i_ 0),(.t 47)],o_ 49 (.un .not (.t 48)),v_ 50 49,q_ 51 50 false (a_ 3 1),q_ 52 50 false (l_ 51),q_ 53 50 false (m_ 5),q_ 54 50 false (x_ 1 52 53),q_ 55 50 false (l_ 54),d_ 56 50 false 65 [(.t 55),(i_ 0),(i_ 5)],q_ 57 50 false (.un .not (.t 56)),o_ 58 (r_ 50 57)] [[],[0],[],[1,0,2],[3,1,0,2],[],[5],[6,5],[7,6,5],[4,3,1,0,2,8,7,6,5],[9,4,3,1,0,2,8,7,6,5],[10,9,4,3,1,0,2,8,7,6,5],[11,10,9,4,3,1,0,2,8,7,6,5],[12,11,10,9,4,3,1,0,2,8,7,6,5],[11,10,9,4,3,1,0,2,8,7,6,5],[13,12,11,10,9,4,3,1,0,2,8,7,6,5,14],[15,13,12,11,10,9,4,3,1,0,2,8,7,6,5,14],[16,15,13,12,11,10,9,4,3,1,0,2,8,7,6,5,14],[17,16,15,13,12,11,10,9,4,3,1,0,2,8,7,6,5,14],[11,10,9,4,3,1,0,2,8,7,6,5,18,17,16,15,13,12,14]])
 (.cond (.t 58) (.seq (.reg [o_ 4 (b_ false)])
 .ret)
 .skip)))
 (.reg [v_ 37 5,j_ 38 37,v_ 5 38])))
def L20_1:SC:=(.seq (.seq (.reg [v_ 59 6,o_ 60 (a_ 3 2),y_ 61 60,o_ 62 (n_ 61),o_ 63 (.bin .lss (.t 59) (.t 62))])
 (.cond (.t 63) .skip
 (.exit 2)))
 (.seq (.blk 3 (.seq (.draw [true] [o_ 66 (a_ 3 2),y_ 67 66,v_ 68 6,z_ 69 1 67 68,y_ 70 69,o_ 71 (a_ 2 0),y_ 72 71,o_ 73 (n_ 72),o_ 74 (.bin .sub (.t 73) (i_ 1)),c_ 75 65 [(.t 70),(i_ 0),(.t 74)],o_ 76 (.un .not (.t 75))] [[],[0],[],[1,0,2],[3,1,0,2],[],[5],[6,5],[7,6,5],[4,3,1,0,2,8,7,6,5],[9,4,3,1,0,2,8,7,6,5]])
 (.cond (.t 76) (.seq (.reg [o_ 4 (b_ false)])
 .ret)
 .skip)))
 (.reg [v_ 64 6,j_ 65 64,v_ 6 65])))
def mf20:SF:=⟨77,[(.t 4)],
 (.seq (.reg [o_ 2 (.box (.t 0) 5),o_ 3 (.box (.t 1) 3),o_ 4 (b_ false)])
 (.seq (.seq (.reg [o_ 7 (a_ 3 0),y_ 8 7,o_ 9 (n_ 8),o_ 10 (a_ 2 2),y_ 11 10,o_ 12 (n_ 11),o_ 13 (.bin .neq (.t 9) (.t 12)),v_ 14 13,q_ 15 14 false (a_ 3 1),q_ 16 14 false (l_ 15),q_ 17 14 false (n_ 16),q_ 18 14 false (a_ 2 2),q_ 19 14 false (l_ 18),q_ 20 14 false (n_ 19),q_ 21 14 false (.bin .neq (.t 17) (.t 20)),o_ 22 (r_ 14 21),v_ 23 22,q_ 24 23 false (a_ 3 2),q_ 25 23 false (l_ 24),q_ 26 23 false (n_ 25),q_ 27 23 false (a_ 2 3),q_ 28 23 false (l_ 27),q_ 29 23 false (n_ 28),q_ 30 23 false (.bin .neq (.t 26) (.t 29)),o_ 31 (r_ 23 30)])
 (.cond (.t 31) (.seq (.reg [o_ 4 (b_ false)])
 .ret)
 .skip))
 (.seq (.seq (.reg [o_ 5 (.mov (i_ 0))])
 (.blk 0 (.loop [2,3,5] L20_0)))
 (.seq (.seq (.reg [o_ 6 (.mov (i_ 0))])
 (.blk 2 (.loop [2,3,6] L20_1)))
 (.seq (.reg [o_ 4 (b_ true)])
 .ret)))))⟩
def L21_0:SC:=(.seq (.reg [o_ 60 (.bin .lss (.t 59) (.t 58))])
 (.seq (.cond (.t 60) .skip
 (.exit 0))
 (.seq (.blk 1 (.seq (.reg [v_ 61 59,z_ 62 1 57 59,y_ 63 62,v_ 12 61,v_ 13 63])
 (.seq (.seq (.reg [v_ 64 3,v_ 65 12,z_ 66 1 64 65,y_ 67 66])
 (.cond (.t 67) (.seq (.reg [o_ 68 (a_ 11 0),y_ 69 68,v_ 70 13,o_ 71 (.bin .add (.t 69) (.t 70)),o_ 72 (a_ 11 0),s_ 72 71 1])
 (.exit 1))
 .skip))
 (.seq (.draw [true] [v_ 73 13,o_ 74 (a_ 4 0),y_ 75 74,o_ 76 (.bin .mul (.t 73) (.t 75)),o_ 77 (.bin .quo (.t 76) (i_ 1000)),v_ 78 13,o_ 79 (a_ 4 1),y_ 80 79,o_ 81 (.bin .mul (.t 78) (.t 80)),o_ 82 (.bin .quo (.t 81) (i_ 1000)),v_ 14 77,v_ 15 82] [[],[],[1],[0,2,1],[3,0,2,1],[],[],[6],[5,7,6],[8,5,7,6],[4,3,0,2,1],[9,8,5,7,6,10,4,3,0,2,1]])
 (.seq (.reg [o_ 83 (a_ 11 1),y_ 84 83,v_ 85 14,o_ 86 (.bin .add (.t 84) (.t 85)),o_ 87 (a_ 11 1),s_ 87 86 1])
 (.seq (.reg [o_ 88 (a_ 11 2),y_ 89 88,v_ 90 15,o_ 91 (.bin .add (.t 89) (.t 90)),o_ 92 (a_ 11 2),s_ 92 91 1])
 (.reg [o_ 93 (a_ 11 3),y_ 94 93,v_ 95 13,v_ 96 14,o_ 97 (.bin .sub (.t 95) (.t 96)),v_ 98 15,o_ 99 (.bin .sub (.t 97) (.t 98)),o_ 100 (.bin .add (.t 94) (.t 99)),o_ 101 (a_ 11 3),s_ 101 100 1])))))))
 (.reg [j_ 102 59,v_ 59 102]))))
def mf21:SF:=⟨104,[(.c 8 (some 4)),(.t 9)],
 (.seq (.reg [o_ 4 (.box (.t 0) 2),o_ 8 (.alloc [(.int .i64 0),(.int .i64 0),(.int .i64 0),(.int .i64 0)]),o_ 9 (.mov (i_ 0))])
 (.seq (.seq (.reg [v_ 16 1,v_ 17 2,c_ 18 66 [(.t 16),(.t 17)],v_ 10 18])
 (.seq (.reg [v_ 19 10,o_ 20 (.bin .eql (.t 19) (i_ 3))])
 (.cond (.t 20) (.seq (.reg [o_ 21 (.build [(.int .i64 0),(.int .i64 0),(.int .i64 0),(.int .i64 0)] []),v_ 22 10,s_ 8 21 4,v_ 9 22])
 .ret)
 .skip)))
 (.seq (.seq (.reg [v_ 23 1,v_ 24 2,c_ 25 66 [(.t 23),(.t 24)],o_ 26 (.bin .neq (.t 25) (i_ 0)),v_ 27 26,q_ 28 27 false (a_ 4 0),q_ 29 27 false (l_ 28),d_ 30 27 false 67 [(.t 29),(i_ 0),(i_ 1000)],q_ 31 27 false (.un .not (.t 30)),o_ 32 (r_ 27 31),v_ 33 32,q_ 34 33 false (a_ 4 1),q_ 35 33 false (l_ 34),d_ 36 33 false 67 [(.t 35),(i_ 0),(i_ 1000)],q_ 37 33 false (.un .not (.t 36)),o_ 38 (r_ 33 37),v_ 39 38,q_ 40 39 false (a_ 4 0),q_ 41 39 false (l_ 40),q_ 42 39 false (a_ 4 1),q_ 43 39 false (l_ 42),q_ 44 39 false (.bin .add (.t 41) (.t 43)),q_ 45 39 false (.bin .gtr (.t 44) (i_ 1000)),o_ 46 (r_ 39 45),v_ 47 46,q_ 48 47 false (m_ 3),q_ 49 47 false (n_ 48),q_ 50 47 false (m_ 2),q_ 51 47 false (n_ 50),q_ 52 47 false (.bin .neq (.t 49) (.t 51)),o_ 53 (r_ 47 52)])
 (.cond (.t 53) (.seq (.reg [o_ 54 (.build [(.int .i64 0),(.int .i64 0),(.int .i64 0),(.int .i64 0)] []),s_ 8 54 4,o_ 9 (.mov (i_ 2))])
 .ret)
 .skip))
 (.seq (.reg [o_ 11 (.alloc [(.int .i64 0),(.int .i64 0),(.int .i64 0),(.int .i64 0)])])
 (.seq (.seq (.reg [v_ 55 1,v_ 56 2,c_ 57 68 [(.t 55),(.t 56)],o_ 58 (n_ 57),o_ 59 (.mov (i_ 0))])
 (.blk 0 (.loop [3,4,8,11,57,58,59] L21_0)))
 (.seq (.reg [o_ 103 (w_ 11 4),s_ 8 103 4,o_ 9 (.mov (i_ 0))])
 .ret))))))⟩
def mf22:SF:=⟨22,[(.t 4),(.t 5)],
 (.seq (.reg [o_ 2 (.box (.t 0) 5),o_ 3 (.box (.t 1) 3),o_ 4 (.mov (i_ 0)),o_ 5 (.mov (i_ 0))])
 (.seq (.reg [o_ 7 (w_ 2 5),o_ 8 (.build [.nilS,.nilS,.nilS,.nilS,.nilS,.nilM] [(0,5,(.t 7))]),o_ 9 (.box (.t 8) 6),v_ 6 9])
 (.seq (.seq (.reg [o_ 10 (w_ 2 5),c_ 11 49 [(.t 10)],o_ 12 (.un .not (.t 11)),v_ 13 12,q_ 14 13 false (m_ 6),q_ 15 13 false (w_ 3 3),d_ 16 13 false 60 [(.t 14),(.t 15)],q_ 17 13 false (.un .not (.t 16)),o_ 18 (r_ 13 17)])
 (.cond (.t 18) (.seq (.reg [o_ 4 (.mov (i_ 0)),o_ 5 (.mov (i_ 2))])
 .ret)
 .skip))
 (.seq (.reg [v_ 19 6,o_ 20 (w_ 3 3),c_ 21 69 [(.t 19),(.t 20)],v_ 4 21,o_ 5 (.mov (i_ 0))])
 .ret))))⟩
def mf31:SF:=⟨16,[(.c 0 (some 10))],
 (.seq (.reg [o_ 0 (.alloc [(.int .i64 0),(.int .i64 0),(.int .i64 0),(.int .i64 0),.nilS,.nilS,(.int .i64 0),(.int .i64 0),(.int .i64 0),.nilS])])
 (.seq (.reg [o_ 2 (.build [(.int .i64 0),(.int .i64 0)] [(0,1,(i_ 100)),(1,1,(i_ 50))]),o_ 1 (.alloc [(.int .i64 0),(.int .i64 0)]),s_ 1 2 2])
 (.seq (.reg [o_ 3 (.build [(.int .i64 0),(.int .i64 0)] [(0,1,(i_ 120)),(1,1,(i_ 200))]),o_ 4 (w_ 1 2),o_ 5 (w_ 1 2),o_ 6 (.bslice 2 [(.int .i64 0),(.int .i64 0)] 2 [(0,2,(.t 4)),(2,2,(.t 5))]),o_ 7 (.build [(.int .i64 0),(.int .i64 0)] [(0,1,(i_ 90)),(1,1,(i_ 200))]),o_ 8 (.build [(.int .i64 0),(.int .i64 0)] [(0,1,(i_ 200)),(1,1,(i_ 300))]),o_ 9 (.bslice 2 [(.int .i64 0),(.int .i64 0)] 2 [(0,2,(.t 7)),(2,2,(.t 8))]),o_ 10 (.build [(.int .i64 0),(.int .i64 0)] [(0,1,(i_ 1000)),(1,1,(i_ 95000))]),o_ 11 (.build [(.int .i64 0),(.int .i64 0)] [(0,1,(i_ 2000)),(1,1,(i_ 190000))]),o_ 12 (.build [(.int .i64 0),(.int .i64 0)] [(0,1,(i_ 2000)),(1,1,(i_ 230000))]),o_ 13 (.build [(.int .i64 0),(.int .i64 0)] [(0,1,(i_ 1000)),(1,1,(i_ 115000))]),o_ 14 (.bslice 2 [(.int .i64 0),(.int .i64 0)] 4 [(0,2,(.t 10)),(2,2,(.t 11)),(4,2,(.t 12)),(6,2,(.t 13))]),o_ 15 (.build [(.int .i64 0),(.int .i64 0),(.int .i64 0),(.int .i64 0),.nilS,.nilS,(.int .i64 0),(.int .i64 0),(.int .i64 0),.nilS] [(0,1,(i_ 1000)),(1,1,(i_ 100000)),(2,1,(i_ 2000)),(3,1,(i_ 1900)),(8,1,(i_ 40)),(6,2,(.t 3)),(9,1,(.t 6)),(5,1,(.t 9)),(4,1,(.t 14))]),s_ 0 15 10])
 .ret)))⟩
def mf32:SF:=⟨17,[(.t 0)],
 (.seq (.reg [o_ 0 (.mov (.k .nilS))])
 (.seq (.reg [o_ 2 (.build [(.int .i64 0),(.int .i64 0)] [(0,1,(i_ 70)),(1,1,(i_ 90))]),o_ 3 (.build [(.int .i64 0),(.int .i64 0),(.int .i64 0)] [(0,1,(i_ 0)),(1,2,(.t 2))]),o_ 4 (.build [(.int .i64 0),(.int .i64 0)] [(0,1,(i_ 100)),(1,1,(i_ 140))]),o_ 5 (.build [(.int .i64 0),(.int .i64 0),(.int .i64 0)] [(0,1,(i_ 1)),(1,2,(.t 4))]),o_ 6 (.bslice 3 [(.int .i64 0),(.int .i64 0),(.int .i64 0)] 2 [(0,3,(.t 3)),(3,3,(.t 5))]),v_ 1 6])
 (.seq (.reg [v_ 7 1,o_ 8 (.build [(.int .i64 0),(.int .i64 0)] [(0,1,(i_ 30)),(1,1,(i_ 40))]),o_ 9 (.build [(.int .i64 0),(.int .i64 0)] [(1,1,(i_ 5))]),o_ 10 (.build [.nilS,(.bool false),(.int .i64 0),(.int .i64 0),(.int .i64 0),(.int .i64 0),(.int .i64 0)] [(0,1,(.t 7)),(3,2,(.t 8)),(5,2,(.t 9))]),v_ 11 1,o_ 12 (.slc 3 (.t 11) none (some (i_ 1)) none),o_ 13 (.build [(.int .i64 0),(.int .i64 0)] [(0,1,(i_ 60)),(1,1,(i_ 80))]),o_ 14 (.build [(.int .i64 0),(.int .i64 0)] [(1,1,(i_ 5))]),o_ 15 (.build [.nilS,(.bool false),(.int .i64 0),(.int .i64 0),(.int .i64 0),(.int .i64 0),(.int .i64 0)] [(0,1,(.t 12)),(3,2,(.t 13)),(5,2,(.t 14))]),o_ 16 (.bslice 7 [.nilS,(.bool false),(.int .i64 0),(.int .i64 0),(.int .i64 0),(.int .i64 0),(.int .i64 0)] 2 [(0,7,(.t 10)),(7,7,(.t 15))]),v_ 0 16])
 .ret)))⟩
def L33_0:SC:=(.seq (.reg [o_ 14 (.bin .lss (.t 13) (.t 12))])
 (.seq (.cond (.t 14) .skip
 (.exit 0))
 (.seq (.blk 1 (.seq (.reg [z_ 15 1441 11 13,o_ 16 (w_ 15 1441),o_ 6 (.alloc (List.replicate 1441 (.bool false))),s_ 6 16 1441])
 (.reg [v_ 17 4,o_ 18 (.slca 1441 1 (.t 6) none none none),c_ 19 78 [(.t 18)],o_ 20 (.bslice 1 [.nilS] 1 [(0,1,(.t 19))]),o_ 21 (.app 1 [.nilS] 24 (.t 17) (.t 20)),v_ 4 21])))
 (.reg [j_ 22 13,v_ 13 22]))))
def mf33:SF:=⟨24,[(.t 2),(.t 3)],
 (.seq (.reg [o_ 1 (.box (.t 0) 2),o_ 2 (.mov (.k .nilS)),o_ 3 (.mov (i_ 0))])
 (.seq (.seq (.reg [o_ 7 (w_ 1 2),c_ 8 76 [(.t 7)],o_ 9 (.un .not (.t 8))])
 (.cond (.t 9) (.seq (.reg [o_ 2 (.mov (.k .nilS)),o_ 3 (.mov (i_ 2))])
 .ret)
 .skip))
 (.seq (.reg [o_ 4 (.mov (.k .nilS))])
 (.seq (.seq (.reg [o_ 10 (w_ 1 2),c_ 11 77 [(.t 10)],o_ 12 (n_ 11),o_ 13 (.mov (i_ 0))])
 (.blk 0 (.loop [4,11,12,13] L33_0)))
 (.seq (.reg [v_ 23 4,v_ 2 23,o_ 3 (.mov (i_ 0))])
 .ret)))))⟩
def mf34:SF:=⟨17,[(.c 0 (some 2))],
 (.seq (.reg [o_ 0 (.alloc [.nilS,.nilS])])
 (.seq (.reg [o_ 1 (.build [(.int .i64 0),(.int .i64 0)] [(0,1,(i_ 480)),(1,1,(i_ 600))]),o_ 2 (.bslice 2 [(.int .i64 0),(.int .i64 0)] 1 [(0,2,(.t 1))]),o_ 3 (.build [.nilS,(.int .i64 0)] [(0,1,(.t 2))]),o_ 4 (.build [(.int .i64 0),(.int .i64 0)] [(0,1,(i_ 500)),(1,1,(i_ 560))]),o_ 5 (.build [(.int .i64 0),(.int .i64 0)] [(0,1,(i_ 640)),(1,1,(i_ 700))]),o_ 6 (.bslice 2 [(.int .i64 0),(.int .i64 0)] 2 [(0,2,(.t 4)),(2,2,(.t 5))]),o_ 7 (.build [.nilS,(.int .i64 0)] [(0,1,(.t 6)),(1,1,(i_ 10))]),o_ 8 (.build [(.int .i64 0),(.int .i64 0)] [(0,1,(i_ 520)),(1,1,(i_ 580))]),o_ 9 (.build [(.int .i64 0),(.int .i64 0)] [(0,1,(i_ 690)),(1,1,(i_ 760))]),o_ 10 (.bslice 2 [(.int .i64 0),(.int .i64 0)] 2 [(0,2,(.t 8)),(2,2,(.t 9))]),o_ 11 (.build [.nilS,(.int .i64 0)] [(0,1,(.t 10))]),o_ 12 (.bslice 2 [.nilS,(.int .i64 0)] 3 [(0,2,(.t 3)),(2,2,(.t 7)),(4,2,(.t 11))]),o_ 13 (.build [(.int .i64 0),(.int .i64 0)] [(0,1,(i_ 30)),(1,1,(i_ 40))]),o_ 14 (.build [(.int .i64 0),(.int .i64 0)] [(0,1,(i_ 20)),(1,1,(i_ 50))]),o_ 15 (.bslice 2 [(.int .i64 0),(.int .i64 0)] 2 [(0,2,(.t 13)),(2,2,(.t 14))]),o_ 16 (.build [.nilS,.nilS] [(0,1,(.t 12)),(1,1,(.t 15))]),s_ 0 16 2])
 .ret))⟩
def mf35:SF:=⟨16,[(.t 4),(.t 5)],
 (.seq (.reg [o_ 4 (.mov (.k .nilS)),o_ 5 (.mov (i_ 0))])
 (.seq (.seq (.reg [v_ 7 0,v_ 8 1,c_ 9 66 [(.t 7),(.t 8)],v_ 6 9])
 (.seq (.reg [v_ 10 6,o_ 11 (.bin .neq (.t 10) (i_ 0))])
 (.cond (.t 11) (.seq (.reg [v_ 12 6,o_ 4 (.mov (.k .nilS)),v_ 5 12])
 .ret)
 .skip)))
 (.seq (.reg [v_ 13 0,v_ 14 1,c_ 15 68 [(.t 13),(.t 14)],v_ 4 15,o_ 5 (.mov (i_ 0))])
 .ret)))⟩
def L36_0:SC:=(.seq (.seq (.reg [v_ 11 5,v_ 12 0,o_ 13 (n_ 12),o_ 14 (.bin .lss (.t 11) (.t 13))])
 (.cond (.t 14) .skip
 (.exit 0)))
 (.seq (.blk 1 (.seq (.draw [true] [v_ 17 0,v_ 18 5,z_ 19 2 17 18,o_ 20 (w_ 19 2),v_ 21 1,v_ 22 5,z_ 23 2 21 22,o_ 24 (w_ 23 2),o_ 25 (.eqag [true,true] true (.t 20) (.t 24))] [[],[],[0,1],[2,0,1],[],[],[4,5],[6,4,5],[3,2,0,1,7,6,4,5]])
 (.cond (.t 25) (.seq (.reg [o_ 4 (b_ false)])
 .ret)
 .skip)))
 (.reg [v_ 15 5,j_ 16 15,v_ 5 16])))
def mf36:SF:=⟨26,[(.t 4)],
 (.seq (.reg [o_ 4 (b_ false)])
 (.seq (.seq (.reg [v_ 6 0,o_ 7 (n_ 6),v_ 8 1,o_ 9 (n_ 8),o_ 10 (.bin .neq (.t 7) (.t 9))])
 (.cond (.t 10) (.seq (.reg [o_ 4 (b_ false)])
 .ret)
 .skip))
 (.seq (.seq (.reg [o_ 5 (.mov (i_ 0))])
 (.blk 0 (.loop [0,1,5] L36_0)))
 (.seq (.reg [o_ 4 (b_ true)])
 .ret))))⟩
def L37_0:SC:=(.seq (.seq (.reg [v_ 11 5,v_ 12 0,o_ 13 (n_ 12),o_ 14 (.bin .lss (.t 11) (.t 13))])
 (.cond (.t 14) .skip
 (.exit 0)))
 (.seq (.blk 1 (.seq (.draw [true] [v_ 17 0,v_ 18 5,z_ 19 1 17 18,y_ 20 19,v_ 21 1,v_ 22 5,z_ 23 1 21 22,y_ 24 23,o_ 25 (.bin .neq (.t 20) (.t 24))] [[],[],[0,1],[2,0,1],[],[],[4,5],[6,4,5],[3,2,0,1,7,6,4,5]])
 (.cond (.t 25) (.seq (.reg [o_ 4 (b_ false)])
 .ret)
 .skip)))
 (.reg [v_ 15 5,j_ 16 15,v_ 5 16])))
def mf37:SF:=⟨26,[(.t 4)],
 (.seq (.reg [o_ 4 (b_ false)])
 (.seq (.seq (.reg [v_ 6 0,o_ 7 (n_ 6),v_ 8 1,o_ 9 (n_ 8),o_ 10 (.bin .neq (.t 7) (.t 9))])
 (.cond (.t 10) (.seq (.reg [o_ 4 (b_ false)])
 .ret)
 .skip))
 (.seq (.seq (.reg [o_ 5 (.mov (i_ 0))])
 (.blk 0 (.loop [0,1,5] L37_0)))
 (.seq (.reg [o_ 4 (b_ true)])
 .ret))))⟩
def mf38:SF:=⟨22,[(.t 6)],
 (.seq (.reg [o_ 3 (.box (.t 0) 10),o_ 4 (.box (.t 1) 2),o_ 6 (.mov (i_ 0))])
 (.seq (.seq (.reg [o_ 8 (w_ 4 2),v_ 9 2,o_ 10 (a_ 3 5),y_ 11 10,o_ 12 (n_ 11),c_ 13 79 [(.t 8),(.t 9),(.t 12)],v_ 7 13])
 (.seq (.reg [v_ 14 7,o_ 15 (.bin .eql (.t 14) (i_ 3)),v_ 16 15,q_ 17 16 false (w_ 3 10),q_ 18 16 false (.build [(.int .i64 0),(.int .i64 0),(.int .i64 0),(.int .i64 0),.nilS,.nilS,(.int .i64 0),(.int .i64 0),(.int .i64 0),.nilS] [(0,10,(.t 17))]),d_ 19 16 false 80 [(.t 18)],o_ 20 (r_ 16 19)])
 (.cond (.t 20) (.seq (.reg [v_ 21 7,v_ 6 21])
 .ret)
 .skip)))
 (.seq (.reg [o_ 6 (.mov (i_ 2))])
 .ret)))⟩
def L39_0:SC:=(.seq (.reg [o_ 29 (.bin .lss (.t 28) (i_ 6))])
 (.seq (.cond (.t 29) .skip
 (.exit 2))
 (.seq (.blk 3 (.seq (.reg [o_ 30 (.idx 6 1 false (.t 27) (.t 28)),v_ 11 30])
 (.reg [v_ 31 7,v_ 32 11,.call (some 33) none (.t 32) [],o_ 34 (.app 1 [(.bool false)] 1 (.t 31) (.t 33)),v_ 7 34])))
 (.reg [j_ 35 28,v_ 28 35]))))
def L39_1:SC:=(.seq (.reg [o_ 20 (.bin .lss (.t 19) (.t 18))])
 (.seq (.cond (.t 20) .skip
 (.exit 0))
 (.seq (.blk 1 (.seq (.reg [z_ 21 5 17 19,o_ 22 (w_ 21 5),o_ 9 (.alloc [.nilS,(.int .i64 0),(.int .i64 0),.nilS,(.bool false)]),s_ 9 22 5])
 (.seq (.reg [o_ 23 (w_ 3 10),o_ 24 (.build [(.int .i64 0),(.int .i64 0),(.int .i64 0),(.int .i64 0),.nilS,.nilS,(.int .i64 0),(.int .i64 0),(.int .i64 0),.nilS] [(0,10,(.t 23))]),o_ 25 (w_ 9 5),o_ 26 (.build [(.int .i64 0),(.int .i64 0),(.int .i64 0),(.int .i64 0),.nilS,.nilS,(.int .i64 0),(.int .i64 0),(.int .i64 0),.nilS,.nilS,(.int .i64 0),(.int .i64 0),.nilS,(.bool false)] [(0,10,(.t 24)),(10,5,(.t 25))]),c_ 27 82 [(.t 26)],o_ 28 (.mov (i_ 0))])
 (.blk 2 (.loop [3,7,17,18,19,27,28] L39_0)))))
 (.reg [j_ 36 19,v_ 19 36]))))
def mf39:SF:=⟨38,[(.t 6)],
 (.seq (.reg [o_ 3 (.box (.t 0) 10),o_ 6 (.mov (.k .nilS))])
 (.seq (.reg [o_ 7 (.mov (.k .nilS))])
 (.seq (.seq (.reg [o_ 12 (w_ 3 10),v_ 13 2,v_ 14 2,o_ 15 (.build [(.int .i64 0),(.int .i64 0)] [(0,1,(.t 13)),(1,1,(.t 14))]),v_ 16 1,c_ 17 81 [(.t 12),(.t 15),(.t 16)],o_ 18 (n_ 17),o_ 19 (.mov (i_ 0))])
 (.blk 0 (.loop [3,7,17,18,19] L39_1)))
 (.seq (.reg [v_ 37 7,v_ 6 37])
 .ret))))⟩
def L40_0:SC:=(.seq (.seq (.reg [v_ 12 0,v_ 13 1,o_ 14 (.bin .lss (.t 12) (.t 13))])
 (.cond (.t 14) .skip
 (.exit 0)))
 (.blk 1 (.seq (.reg [v_ 15 0,v_ 16 1,v_ 17 0,o_ 18 (.bin .sub (.t 16) (.t 17)),o_ 19 (.bin .quo (.t 18) (i_ 2)),o_ 20 (.bin .add (.t 15) (.t 19)),v_ 8 20])
 (.seq (.reg [v_ 21 2,v_ 22 8,.call (some 23) none (.t 21) [(.t 22)],v_ 24 7,o_ 25 (.eqb false (.t 23) (.t 24))])
 (.cond (.t 25) (.reg [v_ 26 8,v_ 1 26])
 (.reg [v_ 27 8,j_ 28 27,v_ 0 28]))))))
def mf40:SF:=⟨30,[(.t 6)],
 (.seq (.reg [o_ 6 (.mov (i_ 0))])
 (.seq (.reg [v_ 9 2,v_ 10 1,.call (some 11) none (.t 9) [(.t 10)],v_ 7 11])
 (.seq (.blk 0 (.loop [0,1,2,7] L40_0))
 (.seq (.reg [v_ 29 0,v_ 6 29])
 .ret))))⟩
def D41_0:List MIx:=[o_ 6 (.load (.t 1) (some 10)),o_ 7 (l_ 2),o_ 8 (m_ 0),.call (some 9) none (f_ 39) [(.t 6),(.t 7),(.t 8)],o_ 10 (l_ 3),o_ 11 (.idxs 1 (.t 9) (.t 10)),o_ 12 (l_ 11),o_ 5 (m_ 12)]
def B41_0:List (List Nat):=[[],[],[],[0,1,2],[],[3,0,1,2,4],[5,3,0,1,2,4],[6,5,3,0,1,2,4]]
def mf41:SF:=⟨13,[(.t 5)],
 (.seq (.reg [o_ 5 (b_ false)])
 (.seq (.draw [] D41_0 B41_0)
 .ret))⟩
def L42_0:SC:=(.seq (.reg [o_ 19 (.bin .lss (.t 18) (.t 17))])
 (.seq (.cond (.t 19) .skip
 (.exit 0))
 (.seq (.blk 1 (.seq (.reg [v_ 20 18,z_ 21 5 16 18,o_ 22 (w_ 21 5),o_ 10 (.alloc [.nilS,(.int .i64 0),(.int .i64 0),.nilS,(.bool false)]),v_ 9 20,s_ 10 22 5])
 (.seq (.reg [o_ 24 (w_ 3 10),o_ 25 (.build [(.int .i64 0),(.int .i64 0),(.int .i64 0),(.int .i64 0),.nilS,.nilS,(.int .i64 0),(.int .i64 0),(.int .i64 0),.nilS] [(0,10,(.t 24))]),o_ 26 (w_ 10 5),o_ 27 (.build [(.int .i64 0),(.int .i64 0),(.int .i64 0),(.int .i64 0),.nilS,.nilS,(.int .i64 0),(.int .i64 0),(.int .i64 0),.nilS,.nilS,(.int .i64 0),(.int .i64 0),.nilS,(.bool false)] [(0,10,(.t 25)),(10,5,(.t 26))]),c_ 28 83 [(.t 27)],v_ 23 28,o_ 29 (e_ 23 0),o_ 30 (e_ 23 1),v_ 11 29,v_ 12 30])
 (.seq (.reg [v_ 31 11,o_ 32 (.bin .neq (.t 31) (i_ 1))])
 (.cond (.t 32) (.seq (.reg [v_ 33 9,v_ 34 11,v_ 35 12,v_ 6 33,v_ 7 34,v_ 8 35])
 .ret)
 .skip)))))
 (.reg [j_ 36 18,v_ 18 36]))))
def mf42:SF:=⟨37,[(.t 6),(.t 7),(.t 8)],
 (.seq (.reg [o_ 3 (.box (.t 0) 10),o_ 4 (.box (.t 1) 2),o_ 6 (.mov (i_ 0)),o_ 7 (.mov (i_ 0)),o_ 8 (.mov (i_ 0))])
 (.seq (.seq (.reg [o_ 13 (w_ 3 10),o_ 14 (w_ 4 2),v_ 15 2,c_ 16 81 [(.t 13),(.t 14),(.t 15)],o_ 17 (n_ 16),o_ 18 (.mov (i_ 0))])
 (.blk 0 (.loop [3,16,17,18] L42_0)))
 (.seq (.reg [o_ 6 (.mov (i_ (-1))),o_ 7 (.mov (i_ 1)),o_ 8 (.mov (i_ 0))])
 .ret)))⟩
def mf43:SF:=⟨13,[(.t 2)],
 (.seq (.reg [o_ 1 (.box (.t 0) 1),o_ 2 (b_ false)])
 (.seq (.reg [o_ 3 (a_ 1 0),y_ 4 3,o_ 5 (n_ 4),o_ 6 (.bin .leq (.t 5) (i_ 30)),v_ 7 6,q_ 8 7 true (a_ 1 0),q_ 9 7 true (l_ 8),d_ 10 7 true 84 [(.t 9),(f_ 85)],q_ 11 7 true (.un .not (.t 10)),o_ 12 (p_ 7 11),v_ 2 12])
 .ret))⟩
def mf44:SF:=⟨15,[(.t 6)],
 (.seq (.reg [o_ 6 (b_ false)])
 (.seq (.reg [v_ 7 0,v_ 8 1,o_ 9 (.bin .geq (.t 7) (.t 8)),v_ 10 9,q_ 11 10 true (m_ 0),q_ 12 10 true (m_ 2),q_ 13 10 true (.bin .leq (.t 11) (.t 12)),o_ 14 (p_ 10 13),v_ 6 14])
 .ret))⟩
def L45_0:SC:=(.seq (.reg [o_ 9 (.bin .lss (.t 8) (.t 7))])
 (.seq (.cond (.t 9) .skip
 (.exit 0))
 (.seq (.blk 1 (.seq (.reg [z_ 10 2 6 8,o_ 11 (w_ 10 2),o_ 5 (.alloc [(.int .i64 0),(.int .i64 0)]),s_ 5 11 2])
 (.reg [v_ 12 3,o_ 13 (a_ 5 0),y_ 14 13,o_ 15 (.bin .add (.t 12) (.t 14)),v_ 3 15])))
 (.reg [j_ 16 8,v_ 8 16]))))
def mf45:SF:=⟨18,[(.t 2)],
 (.seq (.reg [o_ 2 (.mov (i_ 0))])
 (.seq (.reg [o_ 3 (.mov (i_ 0))])
 (.seq (.seq (.reg [v_ 6 0,o_ 7 (n_ 6),o_ 8 (.mov (i_ 0))])
 (.blk 0 (.loop [3,6,7,8] L45_0)))
 (.seq (.reg [v_ 17 3,v_ 2 17])
 .ret))))⟩
def mf46:SF:=⟨8,[(.t 4)],
 (.seq (.reg [o_ 3 (.box (.t 1) 1),o_ 4 (.mov (.k .nilS))])
 (.seq (.reg [v_ 5 0,o_ 6 (.mkfn (.func 87) [] [(.t 3)]),c_ 7 86 [(.t 5),(.t 6)],v_ 4 7])
 .ret))⟩
def D48_92:List MIx:=[o_ 267 (.load (.t 1) (some 5)),o_ 268 (.load (.t 1) (some 5)),.call (some 269) none (f_ 18) [(.t 268)],o_ 270 (.fld (.t 269) 0 none),.call (some 271) none (f_ 90) [(.t 267),(.t 270)],o_ 272 (.un .not (.t 271)),o_ 2 (m_ 272)]
def B48_92:List (List Nat):=[[],[],[1],[2,1],[0,3,2,1],[4,0,3,2,1],[5,4,0,3,2,1]]
def L48_0:SC:=(.seq (.seq (.reg [v_ 55 4,v_ 56 3,o_ 57 (.bin .lss (.t 55) (.t 56))])
 (.cond (.t 57) .skip
 (.exit 0)))
 (.seq (.blk 1 (.seq (.reg [o_ 60 (a_ 1 0),y_ 61 60,v_ 62 4,z_ 63 2 61 62,o_ 64 (a_ 63 0),y_ 65 64,c_ 66 65 [(.t 65),(i_ 0),(i_ 2)],o_ 67 (.un .not (.t 66))])
 (.cond (.t 67) (.seq (.reg [o_ 2 (b_ false)])
 .ret)
 .skip)))
 (.reg [v_ 58 4,j_ 59 58,v_ 4 59])))
def L48_1:SC:=(.seq (.seq (.reg [v_ 101 7,v_ 102 5,o_ 103 (.bin .lss (.t 101) (.t 102))])
 (.cond (.t 103) .skip
 (.exit 4)))
 (.seq (.blk 5 (.seq (.reg [o_ 106 (a_ 1 1),y_ 107 106,v_ 108 7,z_ 109 2 107 108,o_ 110 (w_ 109 2),o_ 8 (.alloc [(.int .i64 0),(.int .i64 0)]),s_ 8 110 2])
 (.seq (.reg [o_ 111 (a_ 8 0),y_ 112 111,o_ 113 (a_ 6 0),y_ 114 113,o_ 115 (.bin .eql (.t 112) (.t 114)),v_ 116 115,q_ 117 116 true (a_ 8 1),q_ 118 116 true (l_ 117),q_ 119 116 true (a_ 6 1),q_ 120 116 true (l_ 119),q_ 121 116 true (.bin .eql (.t 118) (.t 120)),o_ 122 (p_ 116 121),v_ 123 122,q_ 124 123 false (a_ 8 0),q_ 125 123 false (l_ 124),q_ 126 123 false (a_ 6 1),q_ 127 123 false (l_ 126),q_ 128 123 false (.bin .eql (.t 125) (.t 127)),q_ 129 123 false (m_ 128),q_ 130 129 true (a_ 8 1),q_ 131 129 true (l_ 130),q_ 132 129 true (a_ 6 0),q_ 133 129 true (l_ 132),q_ 134 129 true (.bin .eql (.t 131) (.t 133)),q_ 135 123 false (p_ 129 134),o_ 136 (r_ 123 135)])
 (.cond (.t 136) (.seq (.reg [o_ 2 (b_ false)])
 .ret)
 .skip))))
 (.reg [v_ 104 7,j_ 105 104,v_ 7 105])))
def L48_2:SC:=(.seq (.seq (.reg [v_ 68 5,o_ 69 (a_ 1 1),y_ 70 69,o_ 71 (n_ 70),o_ 72 (.bin .lss (.t 68) (.t 71))])
 (.cond (.t 72) .skip
 (.exit 2)))
 (.seq (.blk 3 (.seq (.reg [o_ 75 (a_ 1 1),y_ 76 75,v_ 77 5,z_ 78 2 76 77,o_ 79 (w_ 78 2),o_ 6 (.alloc [(.int .i64 0),(.int .i64 0)]),s_ 6 79 2])
 (.seq (.seq (.reg [o_ 80 (a_ 6 0),y_ 81 80,v_ 82 3,o_ 83 (.bin .sub (.t 82) (i_ 1)),c_ 84 65 [(.t 81),(i_ 0),(.t 83)],o_ 85 (.un .not (.t 84)),v_ 86 85,q_ 87 86 false (a_ 6 1),q_ 88 86 false (l_ 87),q_ 89 86 false (m_ 3),q_ 90 86 false (.bin .sub (.t 89) (i_ 1)),d_ 91 86 false 65 [(.t 88),(i_ 0),(.t 90)],q_ 92 86 false (.un .not (.t 91)),o_ 93 (r_ 86 92),v_ 94 93,q_ 95 94 false (a_ 6 0),q_ 96 94 false (l_ 95),q_ 97 94 false (a_ 6 1),q_ 98 94 false (l_ 97),q_ 99 94 false (.bin .eql (.t 96) (.t 98)),o_ 100 (r_ 94 99)])
 (.cond (.t 100) (.seq (.reg [o_ 2 (b_ false)])
 .ret)
 .skip))
 (.seq (.reg [o_ 7 (.mov (i_ 0))])
 (.blk 4 (.loop [1,3,5,6,7] L48_1))))))
 (.reg [v_ 73 5,j_ 74 73,v_ 5 74])))
def L48_3:SC:=(.seq (.seq (.reg [v_ 137 9,o_ 138 (a_ 1 2),y_ 139 138,o_ 140 (n_ 139),o_ 141 (.bin .lss (.t 137) (.t 140))])
 (.cond (.t 141) .skip
 (.exit 6)))
 (.seq (.blk 7 (.seq (.reg [o_ 144 (a_ 1 2),y_ 145 144,v_ 146 9,z_ 147 5 145 146,o_ 148 (w_ 147 5),o_ 10 (.alloc [(.int .i64 0),(.int .i64 0),(.int .i64 0),(.int .i64 0),(.int .i64 0)]),s_ 10 148 5])
 (.seq (.reg [o_ 149 (a_ 10 0),y_ 150 149,v_ 151 3,o_ 152 (.bin .sub (.t 151) (i_ 1)),c_ 153 65 [(.t 150),(i_ 0),(.t 152)],o_ 154 (.un .not (.t 153)),v_ 155 154,q_ 156 155 false (a_ 10 1),q_ 157 155 false (l_ 156),q_ 158 155 false (m_ 3),q_ 159 155 false (.bin .sub (.t 158) (i_ 1)),d_ 160 155 false 65 [(.t 157),(i_ 0),(.t 159)],q_ 161 155 false (.un .not (.t 160)),o_ 162 (r_ 155 161),v_ 163 162,q_ 164 163 false (a_ 10 2),q_ 165 163 false (l_ 164),d_ 166 163 false 65 [(.t 165),(i_ 0),(i_ 20)],q_ 167 163 false (.un .not (.t 166)),o_ 168 (r_ 163 167),v_ 169 168,q_ 170 169 false (a_ 10 3),q_ 171 169 false (l_ 170),d_ 172 169 false 65 [(.t 171),(i_ 0),(i_ 20)],q_ 173 169 false (.un .not (.t 172)),o_ 174 (r_ 169 173),v_ 175 174,q_ 176 175 false (a_ 10 4),q_ 177 175 false (l_ 176),d_ 178 175 false 65 [(.t 177),(i_ 0),(i_ 1000000)],q_ 179 175 false (.un .not (.t 178)),o_ 180 (r_ 175 179)])
 (.cond (.t 180) (.seq (.reg [o_ 2 (b_ false)])
 .ret)
 .skip))))
 (.reg [v_ 142 9,j_ 143 142,v_ 9 143])))
def L48_4:SC:=(.seq (.seq (.reg [v_ 181 11,o_ 182 (a_ 1 3),y_ 183 182,o_ 184 (n_ 183),o_ 185 (.bin .lss (.t 181) (.t 184))])
 (.cond (.t 185) .skip
 (.exit 8)))
 (.seq (.blk 9 (.seq (.reg [o_ 188 (a_ 1 3),y_ 189 188,v_ 190 11,z_ 191 5 189 190,o_ 192 (w_ 191 5),o_ 12 (.alloc [(.int .i64 0),(.int .i64 0),(.int .i64 0),(.int .i64 0),(.int .i64 0)]),s_ 12 192 5])
 (.seq (.reg [o_ 193 (a_ 12 0),y_ 194 193,v_ 195 3,o_ 196 (.bin .sub (.t 195) (i_ 1)),c_ 197 65 [(.t 194),(i_ 0),(.t 196)],o_ 198 (.un .not (.t 197)),v_ 199 198,q_ 200 199 false (a_ 12 1),q_ 201 199 false (l_ 200),q_ 202 199 false (m_ 3),q_ 203 199 false (.bin .sub (.t 202) (i_ 1)),d_ 204 199 false 65 [(.t 201),(i_ 0),(.t 203)],q_ 205 199 false (.un .not (.t 204)),o_ 206 (r_ 199 205),v_ 207 206,q_ 208 207 false (a_ 12 2),q_ 209 207 false (l_ 208),d_ 210 207 false 65 [(.t 209),(i_ 1),(i_ 20)],q_ 211 207 false (.un .not (.t 210)),o_ 212 (r_ 207 211),v_ 213 212,q_ 214 213 false (a_ 12 3),q_ 215 213 false (l_ 214),d_ 216 213 false 65 [(.t 215),(i_ 0),(i_ 1000000)],q_ 217 213 false (.un .not (.t 216)),o_ 218 (r_ 213 217),v_ 219 218,q_ 220 219 false (a_ 12 4),q_ 221 219 false (l_ 220),d_ 222 219 false 65 [(.t 221),(i_ 0),(i_ 1000000)],q_ 223 219 false (.un .not (.t 222)),o_ 224 (r_ 219 223)])
 (.cond (.t 224) (.seq (.reg [o_ 2 (b_ false)])
 .ret)
 .skip))))
 (.reg [v_ 186 11,j_ 187 186,v_ 11 187])))
def L48_5:SC:=(.seq (.seq (.reg [v_ 244 14,o_ 245 (a_ 1 4),y_ 246 245,v_ 247 13,z_ 248 1 246 247,y_ 249 248,o_ 250 (n_ 249),o_ 251 (.bin .lss (.t 244) (.t 250))])
 (.cond (.t 251) .skip
 (.exit 12)))
 (.seq (.blk 13 (.seq (.draw [true] [o_ 254 (a_ 1 4),y_ 255 254,v_ 256 13,z_ 257 1 255 256,y_ 258 257,v_ 259 14,z_ 260 1 258 259,y_ 261 260,v_ 262 3,o_ 263 (.bin .shl (i_ 1) (.t 262)),o_ 264 (.bin .sub (.t 263) (i_ 1)),c_ 265 65 [(.t 261),(i_ 0),(.t 264)],o_ 266 (.un .not (.t 265))] [[],[0],[],[1,0,2],[3,1,0,2],[],[4,3,1,0,2,5],[6,4,3,1,0,2,5],[],[8],[9,8],[7,6,4,3,1,0,2,5,10,9,8],[11,7,6,4,3,1,0,2,5,10,9,8]])
 (.cond (.t 266) (.seq (.reg [o_ 2 (b_ false)])
 .ret)
 .skip)))
 (.reg [v_ 252 14,j_ 253 252,v_ 14 253])))
def L48_6:SC:=(.seq (.seq (.reg [v_ 225 13,o_ 226 (a_ 1 4),y_ 227 226,o_ 228 (n_ 227),o_ 229 (.bin .lss (.t 225) (.t 228))])
 (.cond (.t 229) .skip
 (.exit 10)))
 (.seq (.blk 11 (.seq (.seq (.draw [true] [o_ 232 (a_ 1 4),y_ 233 232,v_ 234 13,z_ 235 1 233 234,y_ 236 235,o_ 237 (n_ 236),o_ 238 (a_ 1 4),y_ 239 238,o_ 240 (.idxs 1 (.t 239) (i_ 0)),y_ 241 240,o_ 242 (n_ 241),o_ 243 (.bin .neq (.t 237) (.t 242))] [[],[0],[],[1,0,2],[3,1,0,2],[4,3,1,0,2],[],[6],[7,6],[8,7,6],[9,8,7,6],[5,4,3,1,0,2,10,9,8,7,6]])
 (.cond (.t 243) (.seq (.reg [o_ 2 (b_ false)])
 .ret)
 .skip))
 (.seq (.reg [o_ 14 (.mov (i_ 0))])
 (.blk 12 (.loop [1,3,13,14] L48_5)))))
 (.reg [v_ 230 13,j_ 231 230,v_ 13 231])))
def mf48:SF:=⟨273,[(.t 2)],
 (.seq (.reg [o_ 1 (.box (.t 0) 5),o_ 2 (b_ false)])
 (.seq (.reg [o_ 15 (a_ 1 0),y_ 16 15,o_ 17 (n_ 16),v_ 3 17])
 (.seq (.seq (.reg [v_ 18 3,c_ 19 65 [(.t 18),(i_ 1),(i_ 5)],o_ 20 (.un .not (.t 19)),v_ 21 20,q_ 22 21 false (a_ 1 1),q_ 23 21 false (l_ 22),q_ 24 21 false (n_ 23),q_ 25 21 false (.bin .gtr (.t 24) (i_ 20)),o_ 26 (r_ 21 25),v_ 27 26,q_ 28 27 false (a_ 1 2),q_ 29 27 false (l_ 28),q_ 30 27 false (n_ 29),q_ 31 27 false (.bin .gtr (.t 30) (i_ 2)),o_ 32 (r_ 27 31),v_ 33 32,q_ 34 33 false (a_ 1 3),q_ 35 33 false (l_ 34),q_ 36 33 false (n_ 35),q_ 37 33 false (.bin .gtr (.t 36) (i_ 4)),o_ 38 (r_ 33 37),v_ 39 38,q_ 40 39 false (a_ 1 4),q_ 41 39 false (l_ 40),q_ 42 39 false (n_ 41),d_ 43 39 false 65 [(.t 42),(i_ 1),(i_ 6)],q_ 44 39 false (.un .not (.t 43)),o_ 45 (r_ 39 44),v_ 46 45,q_ 47 46 false (a_ 1 4),q_ 48 46 false (l_ 47),q_ 49 46 false (.idxs 1 (.t 48) (i_ 0)),q_ 50 46 false (l_ 49),q_ 51 46 false (n_ 50),d_ 52 46 false 65 [(.t 51),(i_ 1),(i_ 5)],q_ 53 46 false (.un .not (.t 52)),o_ 54 (r_ 46 53)])
 (.cond (.t 54) (.seq (.reg [o_ 2 (b_ false)])
 .ret)
 .skip))
 (.seq (.seq (.reg [o_ 4 (.mov (i_ 0))])
 (.blk 0 (.loop [1,3,4] L48_0)))
 (.seq (.seq (.reg [o_ 5 (.mov (i_ 0))])
 (.blk 2 (.loop [1,3,5] L48_2)))
 (.seq (.seq (.reg [o_ 9 (.mov (i_ 0))])
 (.blk 6 (.loop [1,3,9] L48_3)))
 (.seq (.seq (.reg [o_ 11 (.mov (i_ 0))])
 (.blk 8 (.loop [1,3,11] L48_4)))
 (.seq (.seq (.reg [o_ 13 (.mov (i_ 0))])
 (.blk 10 (.loop [1,3,13] L48_6)))
 (.seq (.draw [] D48_92 B48_92)
 .ret)))))))))⟩
def mf49:SF:=⟨76,[(.t 2)],
 (.seq (.reg [o_ 1 (.box (.t 0) 5),o_ 2 (b_ false)])
 (.seq (.reg [o_ 10 (a_ 1 0),y_ 11 10,o_ 12 (n_ 11),o_ 3 (.alloc [(.int .i64 0)]),s_ 3 12 1])
 (.seq (.reg [o_ 13 (.mkfn (.func 91) [] [(.t 3)]),o_ 4 (.alloc [.nilF]),s_ 4 13 1])
 (.seq (.reg [y_ 14 3,o_ 15 (.mksl 1 [(.int .i64 0)] 8 (.t 14) (.t 14)),o_ 5 (.alloc [.nilS]),s_ 5 15 1])
 (.seq (.reg [o_ 16 (a_ 1 2),y_ 17 16,o_ 18 (.mkfn (.func 93) [] [(.t 4),(.t 5)]),c_ 19 92 [(.t 17),(.t 18)],v_ 6 19])
 (.seq (.reg [o_ 20 (a_ 1 3),y_ 21 20,o_ 22 (.mkfn (.func 95) [] [(.t 4)]),c_ 23 94 [(.t 21),(.t 22)],v_ 7 23])
 (.seq (.reg [o_ 24 (a_ 1 1),y_ 25 24,o_ 26 (.mkfn (.func 97) [] [(.t 4),(.t 1)]),c_ 27 96 [(.t 25),(.t 26)],v_ 8 27])
 (.seq (.reg [o_ 28 (a_ 1 4),y_ 29 28,o_ 30 (.mkfn (.func 101) [] [(.t 1),(.t 3)]),c_ 31 100 [(.t 29),(.t 30)],v_ 9 31])
 (.seq (.reg [y_ 32 3,c_ 33 61 [(.t 32),(i_ 1),(i_ 5)],v_ 34 33,q_ 35 34 true (a_ 1 1),q_ 36 34 true (l_ 35),q_ 37 34 true (n_ 36),q_ 38 34 true (.bin .leq (.t 37) (i_ 20)),o_ 39 (p_ 34 38),v_ 40 39,q_ 41 40 true (a_ 1 2),q_ 42 40 true (l_ 41),q_ 43 40 true (n_ 42),q_ 44 40 true (.bin .leq (.t 43) (i_ 2)),o_ 45 (p_ 40 44),v_ 46 45,q_ 47 46 true (a_ 1 3),q_ 48 46 true (l_ 47),q_ 49 46 true (n_ 48),q_ 50 46 true (.bin .leq (.t 49) (i_ 4)),o_ 51 (p_ 46 50),v_ 52 51,q_ 53 52 true (a_ 1 4),q_ 54 52 true (l_ 53),q_ 55 52 true (n_ 54),d_ 56 52 true 61 [(.t 55),(i_ 1),(i_ 6)],o_ 57 (p_ 52 56),v_ 58 57,q_ 59 58 true (m_ 6),o_ 60 (p_ 58 59),v_ 61 60,q_ 62 61 true (m_ 7),o_ 63 (p_ 61 62),v_ 64 63,q_ 65 64 true (m_ 8),o_ 66 (p_ 64 65),v_ 67 66,q_ 68 67 true (m_ 9),o_ 69 (p_ 67 68),v_ 70 69,q_ 71 70 true (a_ 1 0),q_ 72 70 true (l_ 71),q_ 73 70 true (.mkfn (.func 105) [] [(.t 5)]),d_ 74 70 true 104 [(.t 72),(.t 73)],o_ 75 (p_ 70 74),v_ 2 75])
 .ret)))))))))⟩
def D50_80:List MIx:=[o_ 37 (l_ 4),o_ 38 (.load (.t 9) (some 3)),o_ 39 (.addr (.t 3) 4),o_ 40 (l_ 39),o_ 41 (l_ 11),.call (some 42) none (f_ 54) [(.t 41)],o_ 43 (.idxs 1 (.t 40) (.t 42)),o_ 44 (l_ 43),o_ 45 (l_ 7),o_ 46 (.idxs 1 (.t 44) (.t 45)),o_ 47 (l_ 46),.call (some 48) none (f_ 53) [(.t 37),(.t 38),(.t 47)]]
def B50_80:List (List Nat):=[[],[],[],[2],[],[4],[3,2,5,4],[6,3,2,5,4],[],[7,6,3,2,5,4,8],[9,7,6,3,2,5,4,8],[0,1,10,9,7,6,3,2,5,4,8]]
def D50_90:List MIx:=[o_ 51 (l_ 4),o_ 52 (l_ 7),o_ 53 (.bin .add (.t 52) (i_ 1)),o_ 54 (l_ 11),o_ 55 (.load (.t 14) (some 3)),.call (some 56) none (f_ 55) [(.t 51),(.t 53),(.t 54),(.t 55)],o_ 57 (l_ 12),o_ 58 (.bin .gtr (.t 56) (.t 57))]
def B50_90:List (List Nat):=[[],[],[1],[],[],[0,2,1,3,4],[],[5,0,2,1,3,4,6]]
def D50_0:List MIx:=[o_ 70 (l_ 5),o_ 71 (m_ 15),o_ 72 (l_ 5),o_ 73 (m_ 15),o_ 74 (.idxs 1 (.t 72) (.t 73)),o_ 75 (l_ 74),o_ 76 (m_ 13),.call (some 77) none (f_ 56) [(.t 76)],o_ 78 (.bslice 1 [.nilS] 1 [(0,1,(.t 77))]),o_ 79 (.app 1 [.nilS] 24 (.t 75) (.t 78)),o_ 80 (.idxs 1 (.t 70) (.t 71)),.op none none (.store (.t 80) (.t 79) 1)]
def B50_0:List (List Nat):=[[],[],[],[],[2,3],[4,2,3],[],[6],[7,6],[5,4,2,3,8,7,6],[0,1,2,3,4,5,6,7,8,9],[10,0,1,2,3,4,5,6,7,8,9]]
def L50_0:SC:=(.seq (.reg [o_ 63 (.bin .lss (.t 62) (.t 61))])
 (.seq (.cond (.t 63) .skip
 (.exit 4))
 (.seq (.blk 5 (.seq (.reg [v_ 64 62,v_ 15 64])
 (.seq (.reg [y_ 65 11,v_ 66 15,o_ 67 (.bin .shr (.t 65) (.t 66)),o_ 68 (.bin .and (.t 67) (i_ 1)),o_ 69 (.bin .eql (.t 68) (i_ 1))])
 (.cond (.t 69) (.draw [] D50_0 B50_0)
 .skip))))
 (.reg [j_ 81 62,v_ 62 81]))))
def R50_1a:SC:=(.seq (.reg [v_ 13 49])
 (.reg [o_ 14 (.alloc [.nilS,.nilS,.nilS]),s_ 14 50 3]))
def R50_1b:SC:=(.blk 3 (.seq (.seq (.draw [] D50_90 B50_90)
 (.cond (.t 58) (.exit 3)
 .skip))
 (.seq (.seq (.reg [o_ 59 (a_ 3 4),y_ 60 59,o_ 61 (n_ 60),o_ 62 (.mov (i_ 0))])
 (.blk 4 (.loop [3,4,5,6,7,9,11,13,14,26,27,28,61,62] L50_0)))
 (.seq (.reg [y_ 82 6,y_ 83 7,j_ 84 83,y_ 85 11,o_ 86 (w_ 14 3),.call (some 87) none (.t 82) [(.t 84),(.t 85),(.t 86)]])
 (.exit 2)))))
def L50_2:SC:=(.seq (.reg [o_ 29 (.bin .lss (.t 28) (.t 27))])
 (.seq (.cond (.t 29) .skip
 (.exit 0))
 (.seq (.blk 1 (.seq (.reg [z_ 30 1 26 28,y_ 31 30,o_ 11 (.alloc [(.int .i64 0)]),s_ 11 31 1])
 (.seq (.reg [y_ 32 4,y_ 33 7,y_ 34 11,o_ 35 (w_ 9 3),c_ 36 52 [(.t 32),(.t 33),(.t 34),(.t 35)],o_ 12 (.alloc [(.int .i64 0)]),s_ 12 36 1])
 (.seq (.draw [] D50_80 B50_80)
 (.blk 2 (.rng (.t 48) #[49,50] (bP (cL 50) [1,1,1,0,0,1,1,0,0,1,1,1,0,0]) (bP (cL 50) [1,1,1,0,0,1,1,0,0,1,1,1,0,1]) R50_1a R50_1b))))))
 (.reg [j_ 88 28,v_ 28 88]))))
def mf50:SF:=⟨89,[],
 (.seq (.reg [o_ 7 (.box (.t 0) 1),o_ 9 (.box (.t 2) 3)])
 (.seq (.seq (.draw [true] [y_ 16 7,o_ 17 (a_ 3 4),y_ 18 17,o_ 19 (.idxs 1 (.t 18) (i_ 0)),y_ 20 19,o_ 21 (n_ 20),o_ 22 (.bin .eql (.t 16) (.t 21))] [[],[],[1],[2,1],[3,2,1],[4,3,2,1],[0,5,4,3,2,1]])
 (.cond (.t 22) .ret
 .skip))
 (.seq (.reg [y_ 23 4,v_ 24 1,y_ 25 7,c_ 26 51 [(.t 23),(.t 24),(.t 25)],o_ 27 (n_ 26),o_ 28 (.mov (i_ 0))])
 (.blk 0 (.loop [3,4,5,6,7,9,26,27,28] L50_2)))))⟩
def L51_0:SC:=(.seq (.reg [o_ 34 (.bin .lss (.t 33) (.t 32))])
 (.seq (.cond (.t 34) .skip
 (.exit 2))
 (.seq (.blk 3 (.seq (.reg [v_ 35 33,v_ 11 35])
 (.seq (.draw [true] [v_ 36 8,v_ 37 11,o_ 38 (.bin .shr (.t 36) (.t 37)),o_ 39 (.bin .and (.t 38) (i_ 1)),o_ 40 (.bin .eql (.t 39) (i_ 1)),v_ 41 40,q_ 42 41 true (m_ 0),q_ 43 41 true (.nilck (.t 42)),q_ 44 41 true (a_ 43 0),q_ 45 41 true (a_ 44 4),q_ 46 41 true (l_ 45),q_ 47 41 true (m_ 11),q_ 48 41 true (x_ 1 46 47),q_ 49 41 true (l_ 48),q_ 50 41 true (m_ 2),q_ 51 41 true (x_ 1 49 50),q_ 52 41 true (l_ 51),q_ 53 41 true (m_ 0),q_ 54 41 true (.nilck (.t 53)),q_ 55 41 true (a_ 54 0),q_ 56 41 true (a_ 55 4),q_ 57 41 true (l_ 56),q_ 58 41 true (m_ 9),q_ 59 41 true (x_ 1 57 58),q_ 60 41 true (l_ 59),q_ 61 41 true (m_ 2),q_ 62 41 true (x_ 1 60 61),q_ 63 41 true (l_ 62),q_ 64 41 true (.bin .eql (.t 52) (.t 63)),o_ 65 (p_ 41 64)] [[],[],[0,1],[2,0,1],[3,2,0,1],[4,3,2,0,1],[5,4,3,2,0,1],[6,5,4,3,2,0,1],[7,6,5,4,3,2,0,1],[8,7,6,5,4,3,2,0,1],[9,8,7,6,5,4,3,2,0,1],[5,4,3,2,0,1],[10,9,8,7,6,5,4,3,2,0,1,11],[12,10,9,8,7,6,5,4,3,2,0,1,11],[5,4,3,2,0,1],[13,12,10,9,8,7,6,5,4,3,2,0,1,11,14],[15,13,12,10,9,8,7,6,5,4,3,2,0,1,11,14],[5,4,3,2,0,1],[17,5,4,3,2,0,1],[18,17,5,4,3,2,0,1],[19,18,17,5,4,3,2,0,1],[20,19,18,17,5,4,3,2,0,1],[5,4,3,2,0,1],[21,20,19,18,17,5,4,3,2,0,1,22],[23,21,20,19,18,17,5,4,3,2,0,1,22],[5,4,3,2,0,1],[24,23,21,20,19,18,17,5,4,3,2,0,1,22,25],[26,24,23,21,20,19,18,17,5,4,3,2,0,1,22,25],[16,15,13,12,10,9,8,7,6,5,4,3,2,0,1,11,14,27,26,24,23,21,20,19,18,17,22,25],[5,4,3,2,0,1,28,16,15,13,12,10,9,8,7,6,11,14,27,26,24,23,21,20,19,18,17,22,25]])
 (.cond (.t 65) (.reg [v_ 66 10,v_ 67 11,o_ 68 (.bin .shl (i_ 1) (.t 67)),o_ 69 (.bin .or (.t 66) (.t 68)),v_ 10 69])
 .skip))))
 (.reg [j_ 70 33,v_ 33 70]))))
def L51_1:SC:=(.seq (.reg [o_ 20 (.bin .lss (.t 19) (.t 18))])
 (.seq (.cond (.t 20) .skip
 (.exit 0))
 (.seq (.blk 1 (.seq (.reg [v_ 21 19,v_ 9 21])
 (.seq (.seq (.reg [v_ 22 8,v_ 23 9,o_ 24 (.bin .shr (.t 22) (.t 23)),o_ 25 (.bin .and (.t 24) (i_ 1)),o_ 26 (.bin .eql (.t 25) (i_ 0))])
 (.cond (.t 26) (.exit 1)
 .skip))
 (.seq (.reg [o_ 10 (.mov (i_ 0))])
 (.seq (.seq (.reg [v_ 27 0,o_ 28 (.nilck (.t 27)),o_ 29 (a_ 28 0),o_ 30 (a_ 29 4),y_ 31 30,o_ 32 (n_ 31),o_ 33 (.mov (i_ 0))])
 (.blk 2 (.loop [0,2,7,8,9,10,18,19,32,33] L51_0)))
 (.seq (.reg [v_ 71 8,v_ 72 10,o_ 73 (.bin .andNot (.t 71) (.t 72)),v_ 8 73])
 (.reg [v_ 74 7,v_ 75 10,o_ 76 (.bslice 1 [(.int .i64 0)] 1 [(0,1,(.t 75))]),o_ 77 (.app 1 [(.int .i64 0)] 8 (.t 74) (.t 76)),v_ 7 77])))))))
 (.reg [j_ 78 19,v_ 19 78]))))
def mf51:SF:=⟨80,[(.t 6)],
 (.seq (.reg [o_ 6 (.mov (.k .nilS))])
 (.scope (.seq (.reg [o_ 7 (.mov (.k .nilS))])
 (.seq (.reg [v_ 12 1,v_ 8 12])
 (.seq (.lab 0)
 (.seq (.seq (.reg [v_ 13 0,o_ 14 (.nilck (.t 13)),o_ 15 (a_ 14 0),o_ 16 (a_ 15 4),y_ 17 16,o_ 18 (n_ 17),o_ 19 (.mov (i_ 0))])
 (.blk 0 (.loop [0,2,7,8,18,19] L51_1)))
 (.seq (.reg [v_ 79 7,v_ 6 79])
 .ret)))))))⟩
def D52_81:List MIx:=[o_ 32 (l_ 4),o_ 33 (.load (.t 7) (some 3)),o_ 34 (l_ 4),o_ 35 (.nilck (.t 34)),o_ 36 (.addr (.t 35) 0),o_ 37 (.addr (.t 36) 4),o_ 38 (l_ 37),o_ 39 (l_ 6),.call (some 40) none (f_ 54) [(.t 39)],o_ 41 (.idxs 1 (.t 38) (.t 40)),o_ 42 (l_ 41),o_ 43 (l_ 5),o_ 44 (.idxs 1 (.t 42) (.t 43)),o_ 45 (l_ 44),.call (some 46) none (f_ 53) [(.t 32),(.t 33),(.t 45)]]
def B52_81:List (List Nat):=[[],[],[],[2],[3,2],[4,3,2],[5,4,3,2],[],[7],[6,5,4,3,2,8,7],[9,6,5,4,3,2,8,7],[],[10,9,6,5,4,3,2,8,7,11],[12,10,9,6,5,4,3,2,8,7,11],[0,1,13,12,10,9,6,5,4,3,2,8,7,11]]
def aDz:SC:=(.reg [o_ 14 (.alloc [.nilS,.nilS,.nilS]),s_ 14 48 3])
def R52_0b:SC:=(.blk 1 (.seq (.reg [y_ 49 4,y_ 50 5,j_ 51 50,y_ 52 6,o_ 53 (w_ 14 3),c_ 54 55 [(.t 49),(.t 51),(.t 52),(.t 53)],v_ 15 54])
 (.seq (.reg [y_ 55 12,o_ 56 (.bin .lss (.t 55) (i_ 0)),v_ 57 56,q_ 58 57 false (m_ 15),q_ 59 57 false (l_ 12),q_ 60 57 false (.bin .lss (.t 58) (.t 59)),o_ 61 (r_ 57 60)])
 (.cond (.t 61) (.reg [v_ 62 15,s_ 12 62 1])
 .skip))))
def mf52:SF:=⟨70,[(.t 8)],
 (.seq (.reg [o_ 4 (.box (.t 0) 1),o_ 5 (.box (.t 1) 1),o_ 6 (.box (.t 2) 1),o_ 7 (.box (.t 3) 3),o_ 8 (.mov (i_ 0))])
 (.seq (.reg [y_ 16 4,y_ 17 5,y_ 18 6,o_ 19 (w_ 7 3),c_ 20 106 [(.t 16),(.t 17),(.t 18),(.t 19)],o_ 9 (.alloc [(.int .i64 0),(.int .i64 0),(.int .i64 0),(.int .i64 0),(.int .i64 0),(.int .i64 0),(.int .i64 0),(.int .i64 0),(.int .i64 0),(.int .i64 0)]),s_ 9 20 10])
 (.seq (.seq (.draw [true] [y_ 22 4,o_ 23 (.nilck (.t 22)),o_ 24 (a_ 23 5),y_ 25 24,o_ 26 (w_ 9 10),o_ 27 (.look (true,[true,true,true,true,true,true,true,true,true,true]) (.int .i64 0) true (.t 25) (.t 26)),v_ 21 27,o_ 28 (e_ 21 0),o_ 29 (e_ 21 1),v_ 10 28,v_ 11 29] [[],[0],[1,0],[2,1,0],[],[3,2,1,0,4],[5,3,2,1,0,4],[6,5,3,2,1,0,4],[6,5,3,2,1,0,4],[7,6,5,3,2,1,0,4],[8,6,5,3,2,1,0,4,9,7]])
 (.seq (.reg [v_ 30 11])
 (.cond (.t 30) (.seq (.reg [v_ 31 10,v_ 8 31])
 .ret)
 .skip)))
 (.seq (.reg [o_ 12 (.alloc [(.int .i64 0)]),.op none none (.store (.t 12) (i_ (-1)) 1)])
 (.seq (.seq (.draw [] D52_81 B52_81)
 (.blk 0 (.rng (.t 46) #[47,48] (bP (cL 52) [1,1,1,1,0,1,0,0]) (bP (cL 52) [1,1,1,1,0,1,0,1]) aDz R52_0b)))
 (.seq (.draw [true] [y_ 63 4,o_ 64 (.nilck (.t 63)),o_ 65 (a_ 64 5),y_ 66 65,o_ 67 (w_ 9 10),y_ 68 12,.op none none (.mput (true,[true,true,true,true,true,true,true,true,true,true]) (.t 66) (.t 67) (.t 68))] [[],[0],[1,0],[2,1,0],[],[],[3,2,1,0,4,5]])
 (.seq (.reg [y_ 69 12,v_ 8 69])
 .ret)))))))⟩
def mf53:SF:=⟨8,[(.t 6)],
 (.seq (.reg [o_ 3 (.box (.t 0) 1),o_ 4 (.box (.t 1) 3),o_ 5 (.box (.t 2) 1),o_ 6 (.mov (.k .nilF))])
 (.seq (.reg [o_ 7 (.mkfn (.func 107) [] [(.t 3),(.t 4),(.t 5)]),v_ 6 7])
 .ret))⟩
def L54_0:SC:=(.seq (.seq (.reg [v_ 4 0,v_ 5 3,o_ 6 (.bin .shr (.t 4) (.t 5)),o_ 7 (.bin .and (.t 6) (i_ 1)),o_ 8 (.bin .eql (.t 7) (i_ 0))])
 (.cond (.t 8) .skip
 (.exit 0)))
 (.blk 1 (.reg [v_ 9 3,j_ 10 9,v_ 3 10])))
def mf54:SF:=⟨12,[(.t 2)],
 (.seq (.reg [o_ 2 (.mov (i_ 0))])
 (.seq (.reg [o_ 3 (.mov (i_ 0))])
 (.seq (.blk 0 (.loop [0,3] L54_0))
 (.seq (.reg [v_ 11 3,v_ 2 11])
 .ret))))⟩
def L55_0:SC:=(.seq (.reg [o_ 31 (.bin .lss (.t 30) (.t 29))])
 (.seq (.cond (.t 31) .skip
 (.exit 0))
 (.seq (.blk 1 (.seq (.reg [z_ 32 1 28 30,y_ 33 32,v_ 11 33])
 (.reg [v_ 34 9,v_ 35 0,v_ 36 1,v_ 37 11,o_ 38 (w_ 7 3),c_ 39 52 [(.t 35),(.t 36),(.t 37),(.t 38)],o_ 40 (.minmax false [(.t 34),(.t 39)]),v_ 9 40])))
 (.reg [j_ 41 30,v_ 30 41]))))
def mf55:SF:=⟨43,[(.t 8)],
 (.seq (.reg [o_ 7 (.box (.t 3) 3),o_ 8 (.mov (i_ 0))])
 (.seq (.seq (.reg [v_ 12 1,v_ 13 0,o_ 14 (.nilck (.t 13)),o_ 15 (a_ 14 0),o_ 16 (a_ 15 4),y_ 17 16,o_ 18 (.idxs 1 (.t 17) (i_ 0)),y_ 19 18,o_ 20 (n_ 19),o_ 21 (.bin .eql (.t 12) (.t 20))])
 (.cond (.t 21) (.seq (.reg [v_ 22 0,o_ 23 (w_ 7 3),c_ 24 69 [(.t 22),(.t 23)],v_ 8 24])
 .ret)
 .skip))
 (.seq (.reg [o_ 9 (.mov (i_ 0))])
 (.seq (.seq (.reg [v_ 25 0,v_ 26 2,v_ 27 1,c_ 28 51 [(.t 25),(.t 26),(.t 27)],o_ 29 (n_ 28),o_ 30 (.mov (i_ 0))])
 (.blk 0 (.loop [0,1,7,9,28,29,30] L55_0)))
 (.seq (.reg [v_ 42 9,v_ 8 42])
 .ret)))))⟩
def L56_0:SC:=(.seq (.reg [o_ 10 (.bin .lss (.t 9) (.t 8))])
 (.seq (.cond (.t 10) .skip
 (.exit 0))
 (.seq (.blk 1 (.seq (.reg [v_ 11 9,v_ 4 11])
 (.reg [v_ 12 3,v_ 13 4,v_ 14 3,v_ 15 4,z_ 16 2 14 15,o_ 17 (a_ 16 1),y_ 18 17,c_ 19 111 [(.t 18)],z_ 20 2 12 13,o_ 21 (a_ 20 1),s_ 21 19 1])))
 (.reg [j_ 22 9,v_ 9 22]))))
def mf56:SF:=⟨24,[(.t 2)],
 (.seq (.reg [o_ 2 (.mov (.k .nilS))])
 (.seq (.reg [v_ 5 0,c_ 6 110 [(.t 5)],v_ 3 6])
 (.seq (.seq (.reg [v_ 7 3,o_ 8 (n_ 7),o_ 9 (.mov (i_ 0))])
 (.blk 0 (.loop [3,8,9] L56_0)))
 (.seq (.reg [v_ 23 3,v_ 2 23])
 .ret))))⟩
def L57_0:SC:=(.seq (.reg [o_ 23 (.bin .lss (.t 22) (.t 21))])
 (.seq (.cond (.t 23) .skip
 (.exit 0))
 (.seq (.blk 1 (.seq (.reg [z_ 24 5 20 22,o_ 25 (w_ 24 5),o_ 5 (.alloc [(.int .i64 0),(.int .i64 0),(.int .i64 0),(.int .i64 0),(.int .i64 0)]),s_ 5 25 5])
 (.reg [o_ 26 (a_ 3 0),y_ 27 26,o_ 28 (a_ 5 0),y_ 29 28,o_ 30 (.bslice 1 [(.int .i64 0)] 1 [(0,1,(.t 29))]),o_ 31 (.app 1 [(.int .i64 0)] 8 (.t 27) (.t 30)),o_ 32 (a_ 3 0),s_ 32 31 1])))
 (.reg [j_ 33 22,v_ 22 33]))))
def L57_1:SC:=(.seq (.reg [o_ 41 (.bin .lss (.t 40) (.t 39))])
 (.seq (.cond (.t 41) .skip
 (.exit 2))
 (.seq (.blk 3 (.seq (.reg [z_ 42 5 38 40,o_ 43 (w_ 42 5),o_ 7 (.alloc [(.int .i64 0),(.int .i64 0),(.int .i64 0),(.int .i64 0),(.int .i64 0)]),s_ 7 43 5])
 (.reg [o_ 44 (a_ 3 2),y_ 45 44,o_ 46 (a_ 7 0),y_ 47 46,o_ 48 (.bslice 1 [(.int .i64 0)] 1 [(0,1,(.t 47))]),o_ 49 (.app 1 [(.int .i64 0)] 8 (.t 45) (.t 48)),o_ 50 (a_ 3 2),s_ 50 49 1])))
 (.reg [j_ 51 40,v_ 40 51]))))
def mf57:SF:=⟨53,[(.c 2 (some 3))],
 (.seq (.reg [o_ 2 (.alloc [.nilS,.nilS,.nilS])])
 (.seq (.reg [v_ 8 0,o_ 9 (.nilck (.t 8)),o_ 10 (a_ 9 0),o_ 11 (a_ 10 2),y_ 12 11,o_ 13 (n_ 12),o_ 14 (.mksl 1 [(.int .i64 0)] 8 (.t 13) (.t 13)),o_ 15 (.build [.nilS,.nilS,.nilS] [(1,1,(.t 14))]),o_ 3 (.alloc [.nilS,.nilS,.nilS]),s_ 3 15 3])
 (.seq (.seq (.reg [v_ 16 0,o_ 17 (.nilck (.t 16)),o_ 18 (a_ 17 0),o_ 19 (a_ 18 2),y_ 20 19,o_ 21 (n_ 20),o_ 22 (.mov (i_ 0))])
 (.blk 0 (.loop [0,2,3,20,21,22] L57_0)))
 (.seq (.seq (.reg [v_ 34 0,o_ 35 (.nilck (.t 34)),o_ 36 (a_ 35 0),o_ 37 (a_ 36 3),y_ 38 37,o_ 39 (n_ 38),o_ 40 (.mov (i_ 0))])
 (.blk 2 (.loop [2,3,38,39,40] L57_1)))
 (.seq (.reg [o_ 52 (w_ 3 3),s_ 2 52 3])
 .ret)))))⟩
def mf58:SF:=⟨8,[(.t 2)],
 (.seq (.reg [o_ 1 (.box (.t 0) 5),o_ 2 (.mov (i_ 0))])
 (.seq (.reg [o_ 3 (a_ 1 4),y_ 4 3,o_ 5 (.idxs 1 (.t 4) (i_ 0)),y_ 6 5,o_ 7 (n_ 6),v_ 2 7])
 .ret))⟩
def L59_0:SC:=(.seq (.seq (.reg [v_ 37 7,o_ 38 (a_ 6 1),y_ 39 38,o_ 40 (n_ 39),o_ 41 (.bin .lss (.t 37) (.t 40))])
 (.cond (.t 41) .skip
 (.exit 2)))
 (.seq (.blk 3 (.seq (.draw [true] [o_ 44 (a_ 6 1),y_ 45 44,v_ 46 7,z_ 47 1 45 46,y_ 48 47,o_ 49 (a_ 2 3),y_ 50 49,o_ 51 (n_ 50),o_ 52 (.bin .sub (.t 51) (i_ 1)),c_ 53 65 [(.t 48),(i_ 0),(.t 52)],o_ 54 (.un .not (.t 53)),v_ 55 54,q_ 56 55 false (m_ 7),q_ 57 55 false (.bin .gtr (.t 56) (i_ 0)),q_ 58 55 false (m_ 57),q_ 59 58 true (a_ 6 1),q_ 60 58 true (l_ 59),q_ 61 58 true (m_ 7),q_ 62 58 true (x_ 1 60 61),q_ 63 58 true (l_ 62),q_ 64 58 true (a_ 6 1),q_ 65 58 true (l_ 64),q_ 66 58 true (m_ 7),q_ 67 58 true (.bin .sub (.t 66) (i_ 1)),q_ 68 58 true (x_ 1 65 67),q_ 69 58 true (l_ 68),q_ 70 58 true (.bin .leq (.t 63) (.t 69)),q_ 71 55 false (p_ 58 70),o_ 72 (r_ 55 71)] [[],[0],[],[1,0,2],[3,1,0,2],[],[5],[6,5],[7,6,5],[4,3,1,0,2,8,7,6,5],[9,4,3,1,0,2,8,7,6,5],[10,9,4,3,1,0,2,8,7,6,5],[11,10,9,4,3,1,0,2,8,7,6,5],[12,11,10,9,4,3,1,0,2,8,7,6,5],[13,12,11,10,9,4,3,1,0,2,8,7,6,5],[14,13,12,11,10,9,4,3,1,0,2,8,7,6,5],[15,14,13,12,11,10,9,4,3,1,0,2,8,7,6,5],[14,13,12,11,10,9,4,3,1,0,2,8,7,6,5],[16,15,14,13,12,11,10,9,4,3,1,0,2,8,7,6,5,17],[18,16,15,14,13,12,11,10,9,4,3,1,0,2,8,7,6,5,17],[14,13,12,11,10,9,4,3,1,0,2,8,7,6,5],[20,14,13,12,11,10,9,4,3,1,0,2,8,7,6,5],[14,13,12,11,10,9,4,3,1,0,2,8,7,6,5],[22,14,13,12,11,10,9,4,3,1,0,2,8,7,6,5],[21,20,14,13,12,11,10,9,4,3,1,0,2,8,7,6,5,23,22],[24,21,20,14,13,12,11,10,9,4,3,1,0,2,8,7,6,5,23,22],[19,18,16,15,14,13,12,11,10,9,4,3,1,0,2,8,7,6,5,17,25,24,21,20,23,22],[14,13,12,11,10,9,4,3,1,0,2,8,7,6,5,26,19,18,16,15,17,25,24,21,20,23,22],[11,10,9,4,3,1,0,2,8,7,6,5,27,14,13,12,26,19,18,16,15,17,25,24,21,20,23,22]])
 (.cond (.t 72) (.seq (.reg [o_ 4 (b_ false)])
 .ret)
 .skip)))
 (.reg [v_ 42 7,j_ 43 42,v_ 7 43])))
def L59_1:SC:=(.seq (.seq (.reg [v_ 8 5,v_ 9 1,o_ 10 (n_ 9),o_ 11 (.bin .lss (.t 8) (.t 10))])
 (.cond (.t 11) .skip
 (.exit 0)))
 (.seq (.blk 1 (.seq (.reg [v_ 14 1,v_ 15 5,z_ 16 2 14 15,o_ 17 (w_ 16 2),o_ 6 (.alloc [(.int .i64 0),.nilS]),s_ 6 17 2])
 (.seq (.seq (.reg [o_ 18 (a_ 6 0),y_ 19 18,o_ 20 (a_ 2 0),y_ 21 20,o_ 22 (n_ 21),o_ 23 (.bin .sub (.t 22) (i_ 1)),c_ 24 65 [(.t 19),(i_ (-1)),(.t 23)],o_ 25 (.un .not (.t 24)),v_ 26 25,q_ 27 26 false (a_ 6 0),q_ 28 26 false (l_ 27),q_ 29 26 false (.bin .lss (.t 28) (i_ 0)),q_ 30 26 false (m_ 29),q_ 31 30 true (a_ 6 1),q_ 32 30 true (l_ 31),q_ 33 30 true (n_ 32),q_ 34 30 true (.bin .gtr (.t 33) (i_ 0)),q_ 35 26 false (p_ 30 34),o_ 36 (r_ 26 35)])
 (.cond (.t 36) (.seq (.reg [o_ 4 (b_ false)])
 .ret)
 .skip))
 (.seq (.reg [o_ 7 (.mov (i_ 0))])
 (.blk 2 (.loop [1,2,5,6,7] L59_0))))))
 (.reg [v_ 12 5,j_ 13 12,v_ 5 13])))
def mf59:SF:=⟨79,[(.t 4)],
 (.seq (.reg [o_ 2 (.box (.t 0) 5),o_ 4 (b_ false)])
 (.seq (.seq (.reg [o_ 5 (.mov (i_ 0))])
 (.blk 0 (.loop [1,2,5] L59_1)))
 (.seq (.reg [v_ 73 1,o_ 74 (n_ 73),o_ 75 (a_ 2 2),y_ 76 75,o_ 77 (n_ 76),o_ 78 (.bin .eql (.t 74) (.t 77)),v_ 4 78])
 .ret)))⟩
def mf60:SF:=⟨58,[(.t 4)],
 (.seq (.reg [o_ 2 (.box (.t 0) 1),o_ 3 (.box (.t 1) 3),o_ 4 (b_ false)])
 (.seq (.reg [o_ 6 (.mkfn (.func 112) [] [(.t 2)]),v_ 5 6])
 (.seq (.draw [true] [o_ 7 (a_ 3 0),y_ 8 7,o_ 9 (n_ 8),y_ 10 2,o_ 11 (.nilck (.t 10)),o_ 12 (a_ 11 0),o_ 13 (a_ 12 2),y_ 14 13,o_ 15 (n_ 14),o_ 16 (.bin .eql (.t 9) (.t 15)),v_ 17 16,q_ 18 17 true (a_ 3 1),q_ 19 17 true (l_ 18),q_ 20 17 true (n_ 19),q_ 21 17 true (l_ 2),q_ 22 17 true (.nilck (.t 21)),q_ 23 17 true (a_ 22 0),q_ 24 17 true (a_ 23 2),q_ 25 17 true (l_ 24),q_ 26 17 true (n_ 25),q_ 27 17 true (.bin .eql (.t 20) (.t 26)),o_ 28 (p_ 17 27),v_ 29 28,q_ 30 29 true (a_ 3 2),q_ 31 29 true (l_ 30),q_ 32 29 true (n_ 31),q_ 33 29 true (l_ 2),q_ 34 29 true (.nilck (.t 33)),q_ 35 29 true (a_ 34 0),q_ 36 29 true (a_ 35 3),q_ 37 29 true (l_ 36),q_ 38 29 true (n_ 37),q_ 39 29 true (.bin .eql (.t 32) (.t 38)),o_ 40 (p_ 29 39),v_ 41 40,q_ 42 41 true (a_ 3 0),q_ 43 41 true (l_ 42),q_ 44 41 true (m_ 5),d_ 45 41 true 102 [(.t 43),(.t 44)],o_ 46 (p_ 41 45),v_ 47 46,q_ 48 47 true (a_ 3 2),q_ 49 47 true (l_ 48),q_ 50 47 true (m_ 5),d_ 51 47 true 102 [(.t 49),(.t 50)],o_ 52 (p_ 47 51),v_ 53 52,q_ 54 53 true (a_ 3 1),q_ 55 53 true (l_ 54),d_ 56 53 true 102 [(.t 55),(f_ 113)],o_ 57 (p_ 53 56),v_ 4 57] [[],[0],[1,0],[],[3],[4,3],[5,4,3],[6,5,4,3],[7,6,5,4,3],[2,1,0,8,7,6,5,4,3],[9,2,1,0,8,7,6,5,4,3],[10,9,2,1,0,8,7,6,5,4,3],[11,10,9,2,1,0,8,7,6,5,4,3],[12,11,10,9,2,1,0,8,7,6,5,4,3],[10,9,2,1,0,8,7,6,5,4,3],[14,10,9,2,1,0,8,7,6,5,4,3],[15,14,10,9,2,1,0,8,7,6,5,4,3],[16,15,14,10,9,2,1,0,8,7,6,5,4,3],[17,16,15,14,10,9,2,1,0,8,7,6,5,4,3],[18,17,16,15,14,10,9,2,1,0,8,7,6,5,4,3],[13,12,11,10,9,2,1,0,8,7,6,5,4,3,19,18,17,16,15,14],[10,9,2,1,0,8,7,6,5,4,3,20,13,12,11,19,18,17,16,15,14],[21,10,9,2,1,0,8,7,6,5,4,3,20,13,12,11,19,18,17,16,15,14],[22,21,10,9,2,1,0,8,7,6,5,4,3,20,13,12,11,19,18,17,16,15,14],[23,22,21,10,9,2,1,0,8,7,6,5,4,3,20,13,12,11,19,18,17,16,15,14],[24,23,22,21,10,9,2,1,0,8,7,6,5,4,3,20,13,12,11,19,18,17,16,15,14],[22,21,10,9,2,1,0,8,7,6,5,4,3,20,13,12,11,19,18,17,16,15,14],[26,22,21,10,9,2,1,0,8,7,6,5,4,3,20,13,12,11,19,18,17,16,15,14],[27,26,22,21,10,9,2,1,0,8,7,6,5,4,3,20,13,12,11,19,18,17,16,15,14],[28,27,26,22,21,10,9,2,1,0,8,7,6,5,4,3,20,13,12,11,19,18,17,16,15,14],[29,28,27,26,22,21,10,9,2,1,0,8,7,6,5,4,3,20,13,12,11,19,18,17,16,15,14],[30,29,28,27,26,22,21,10,9,2,1,0,8,7,6,5,4,3,20,13,12,11,19,18,17,16,15,14],[25,24,23,22,21,10,9,2,1,0,8,7,6,5,4,3,20,13,12,11,19,18,17,16,15,14,31,30,29,28,27,26],[22,21,10,9,2,1,0,8,7,6,5,4,3,20,13,12,11,19,18,17,16,15,14,32,25,24,23,31,30,29,28,27,26],[33,22,21,10,9,2,1,0,8,7,6,5,4,3,20,13,12,11,19,18,17,16,15,14,32,25,24,23,31,30,29,28,27,26],[34,33,22,21,10,9,2,1,0,8,7,6,5,4,3,20,13,12,11,19,18,17,16,15,14,32,25,24,23,31,30,29,28,27,26],[35,34,33,22,21,10,9,2,1,0,8,7,6,5,4,3,20,13,12,11,19,18,17,16,15,14,32,25,24,23,31,30,29,28,27,26],[34,33,22,21,10,9,2,1,0,8,7,6,5,4,3,20,13,12,11,19,18,17,16,15,14,32,25,24,23,31,30,29,28,27,26],[36,35,34,33,22,21,10,9,2,1,0,8,7,6,5,4,3,20,13,12,11,19,18,17,16,15,14,32,25,24,23,31,30,29,28,27,26,37],[34,33,22,21,10,9,2,1,0,8,7,6,5,4,3,20,13,12,11,19,18,17,16,15,14,32,25,24,23,31,30,29,28,27,26,38,36,35,37],[39,34,33,22,21,10,9,2,1,0,8,7,6,5,4,3,20,13,12,11,19,18,17,16,15,14,32,25,24,23,31,30,29,28,27,26,38,36,35,37],[40,39,34,33,22,21,10,9,2,1,0,8,7,6,5,4,3,20,13,12,11,19,18,17,16,15,14,32,25,24,23,31,30,29,28,27,26,38,36,35,37],[41,40,39,34,33,22,21,10,9,2,1,0,8,7,6,5,4,3,20,13,12,11,19,18,17,16,15,14,32,25,24,23,31,30,29,28,27,26,38,36,35,37],[40,39,34,33,22,21,10,9,2,1,0,8,7,6,5,4,3,20,13,12,11,19,18,17,16,15,14,32,25,24,23,31,30,29,28,27,26,38,36,35,37],[42,41,40,39,34,33,22,21,10,9,2,1,0,8,7,6,5,4,3,20,13,12,11,19,18,17,16,15,14,32,25,24,23,31,30,29,28,27,26,38,36,35,37,43],[40,39,34,33,22,21,10,9,2,1,0,8,7,6,5,4,3,20,13,12,11,19,18,17,16,15,14,32,25,24,23,31,30,29,28,27,26,38,36,35,37,44,42,41,43],[45,40,39,34,33,22,21,10,9,2,1,0,8,7,6,5,4,3,20,13,12,11,19,18,17,16,15,14,32,25,24,23,31,30,29,28,27,26,38,36,35,37,44,42,41,43],[46,45,40,39,34,33,22,21,10,9,2,1,0,8,7,6,5,4,3,20,13,12,11,19,18,17,16,15,14,32,25,24,23,31,30,29,28,27,26,38,36,35,37,44,42,41,43],[47,46,45,40,39,34,33,22,21,10,9,2,1,0,8,7,6,5,4,3,20,13,12,11,19,18,17,16,15,14,32,25,24,23,31,30,29,28,27,26,38,36,35,37,44,42,41,43],[48,47,46,45,40,39,34,33,22,21,10,9,2,1,0,8,7,6,5,4,3,20,13,12,11,19,18,17,16,15,14,32,25,24,23,31,30,29,28,27,26,38,36,35,37,44,42,41,43],[46,45,40,39,34,33,22,21,10,9,2,1,0,8,7,6,5,4,3,20,13,12,11,19,18,17,16,15,14,32,25,24,23,31,30,29,28,27,26,38,36,35,37,44,42,41,43,49,48,47],[50,46,45,40,39,34,33,22,21,10,9,2,1,0,8,7,6,5,4,3,20,13,12,11,19,18,17,16,15,14,32,25,24,23,31,30,29,28,27,26,38,36,35,37,44,42,41,43,49,48,47]])
 .ret)))⟩
def mf61:SF:=⟨15,[(.t 6)],
 (.seq (.reg [o_ 6 (b_ false)])
 (.seq (.reg [v_ 7 0,v_ 8 1,o_ 9 (.bin .geq (.t 7) (.t 8)),v_ 10 9,q_ 11 10 true (m_ 0),q_ 12 10 true (m_ 2),q_ 13 10 true (.bin .leq (.t 11) (.t 12)),o_ 14 (p_ 10 13),v_ 6 14])
 .ret))⟩
def mf62:SF:=⟨19,[(.t 4)],
 (.seq (.reg [o_ 2 (.box (.t 0) 1),o_ 4 (b_ false)])
 (.seq (.reg [v_ 5 1,o_ 6 (n_ 5),y_ 7 2,o_ 8 (.nilck (.t 7)),o_ 9 (a_ 8 0),o_ 10 (a_ 9 2),y_ 11 10,o_ 12 (n_ 11),o_ 13 (.bin .eql (.t 6) (.t 12)),v_ 14 13,q_ 15 14 true (m_ 1),q_ 16 14 true (.mkfn (.func 115) [] [(.t 2)]),d_ 17 14 true 114 [(.t 15),(.t 16)],o_ 18 (p_ 14 17),v_ 4 18])
 .ret))⟩
def D63_0:List MIx:=[o_ 25 (.addr (.t 5) 0),o_ 26 (l_ 25),.call (some 27) none (f_ 111) [(.t 26)],o_ 28 (.addr (.t 5) 1),o_ 29 (l_ 28),.call (some 30) none (f_ 111) [(.t 29)],o_ 31 (.addr (.t 5) 2),o_ 32 (l_ 31),.call (some 33) none (f_ 111) [(.t 32)],o_ 34 (.build [.nilS,.nilS,.nilS] [(0,1,(.t 27)),(1,1,(.t 30)),(2,1,(.t 33))]),o_ 10 (.alloc [.nilS,.nilS,.nilS]),.op none none (.store (.t 10) (.t 34) 3)]
def B63_0:List (List Nat):=[[],[0],[1,0],[],[3],[4,3,2,1,0],[],[6],[7,6,5,4,3,2,1,0],[2,1,0,5,4,3,8,7,6],[],[10,9,2,1,0,5,4,3,8,7,6]]
def L63_0:SC:=(.seq (.reg [o_ 63 (.bin .lss (.t 62) (i_ 5))])
 (.seq (.cond (.t 63) .skip
 (.exit 2))
 (.seq (.blk 3 (.seq (.reg [o_ 64 (.idx 5 1 false (.t 61) (.t 62)),v_ 16 64])
 (.regC [v_ 65 16] (some 66) (.t 65) [] [])))
 (.reg [j_ 67 62,v_ 62 67]))))
def L63_1:SC:=(.seq (.reg [o_ 85 (.bin .lss (.t 84) (.t 83))])
 (.seq (.cond (.t 85) .skip
 (.exit 4))
 (.seq (.blk 5 (.seq (.reg [z_ 86 1 82 84,y_ 87 86,v_ 18 87])
 (.reg [o_ 88 (a_ 10 2),y_ 89 88,v_ 90 18,o_ 91 (a_ 13 0),y_ 92 91,z_ 93 1 89 90,s_ 93 92 1])))
 (.reg [j_ 94 84,v_ 84 94]))))
def L63_2:SC:=(.seq (.reg [o_ 38 (.bin .lss (.t 37) (.t 36))])
 (.seq (.cond (.t 38) .skip
 (.exit 0))
 (.seq (.blk 1 (.seq (.reg [v_ 39 37,z_ 40 2 35 37,o_ 41 (w_ 40 2),o_ 13 (.alloc [(.int .i64 0),.nilS]),v_ 12 39,s_ 13 41 2])
 (.seq (.seq (.reg [o_ 42 (a_ 13 0),y_ 43 42,o_ 44 (.bin .lss (.t 43) (i_ 0))])
 (.cond (.t 44) (.exit 1)
 .skip))
 (.seq (.reg [v_ 45 0,o_ 46 (w_ 13 2),o_ 47 (w_ 5 3),v_ 48 2,v_ 49 12,o_ 50 (.build [.nilP,(.int .i64 0),.nilS,.nilS,.nilS,.nilS,(.int .i64 0),(.int .i64 0),.nilP] [(0,1,(.t 45)),(1,2,(.t 46)),(3,3,(.t 47)),(6,1,(.t 48)),(7,1,(.t 49)),(8,1,(.t 11))]),o_ 14 (.alloc [.nilP,(.int .i64 0),.nilS,.nilS,.nilS,.nilS,(.int .i64 0),(.int .i64 0),.nilP]),s_ 14 50 9])
 (.seq (.seq (.reg [o_ 51 (w_ 14 9),o_ 52 (.mkfn (.func 118) [(.t 51)] []),o_ 53 (w_ 14 9),o_ 54 (.mkfn (.func 119) [(.t 53)] []),o_ 55 (w_ 14 9),o_ 56 (.mkfn (.func 120) [(.t 55)] []),o_ 57 (w_ 14 9),o_ 58 (.mkfn (.func 121) [(.t 57)] []),o_ 59 (w_ 14 9),o_ 60 (.mkfn (.func 122) [(.t 59)] []),o_ 61 (.build [.nilF,.nilF,.nilF,.nilF,.nilF] [(0,1,(.t 52)),(1,1,(.t 54)),(2,1,(.t 56)),(3,1,(.t 58)),(4,1,(.t 60))]),o_ 62 (.mov (i_ 0))])
 (.blk 2 (.loop [0,2,5,8,9,10,11,12,13,35,36,37,61,62] L63_0)))
 (.seq (.reg [o_ 68 (a_ 10 0),y_ 69 68,v_ 70 12,o_ 71 (a_ 13 0),y_ 72 71,z_ 73 1 69 70,s_ 73 72 1])
 (.seq (.reg [o_ 74 (a_ 10 1),y_ 75 74,v_ 76 12,z_ 77 1 75 76,y_ 78 77,j_ 79 78,z_ 80 1 75 76,s_ 80 79 1])
 (.seq (.reg [o_ 81 (a_ 13 1),y_ 82 81,o_ 83 (n_ 82),o_ 84 (.mov (i_ 0))])
 (.blk 4 (.loop [0,2,5,8,9,10,11,13,35,36,37,82,83,84] L63_1))))))))))
 (.reg [j_ 95 37,v_ 37 95]))))
def L63_3:SC:=(.seq (.reg [o_ 111 (.bin .lss (.t 110) (.t 109))])
 (.seq (.cond (.t 111) .skip
 (.exit 8))
 (.seq (.blk 9 (.seq (.reg [z_ 112 1 108 110,y_ 113 112,v_ 23 113])
 (.seq (.reg [v_ 114 23,v_ 115 19,o_ 116 (.bin .eql (.t 114) (.t 115))])
 (.cond (.t 116) (.reg [v_ 117 21,j_ 118 117,v_ 21 118])
 .skip))))
 (.reg [j_ 119 110,v_ 110 119]))))
def L63_4:SC:=(.seq (.reg [o_ 103 (.bin .lss (.t 102) (.t 101))])
 (.seq (.cond (.t 103) .skip
 (.exit 6))
 (.seq (.blk 7 (.seq (.reg [v_ 104 102,z_ 105 2 100 102,o_ 106 (w_ 105 2),o_ 20 (.alloc [(.int .i64 0),(.bool false)]),v_ 19 104,s_ 20 106 2])
 (.seq (.reg [o_ 21 (.mov (i_ 0))])
 (.seq (.seq (.reg [o_ 107 (a_ 10 0),y_ 108 107,o_ 109 (n_ 108),o_ 110 (.mov (i_ 0))])
 (.blk 8 (.loop [8,9,10,19,20,21,100,101,102,108,109,110] L63_3)))
 (.seq (.reg [v_ 120 21,o_ 121 (a_ 20 0),y_ 122 121,o_ 123 (.bin .gtr (.t 120) (.t 122))])
 (.cond (.t 123) (.regP [o_ 124 (.build [(.int .i64 0),(.int .i64 0)] [(0,1,(i_ 7)),(1,1,(i_ (-1)))]),o_ 125 (.mkif 145 (.t 124))] none (.t 125) [])
 .skip))))))
 (.reg [j_ 126 102,v_ 102 126]))))
def mf63:SF:=⟨129,[(.c 8 (some 3)),(.c 9 (some 2))],
 (.seq (.reg [o_ 5 (.box (.t 1) 3),o_ 8 (.alloc [.nilS,.nilS,.nilS]),o_ 9 (.alloc [(.int .i64 0),(.int .i64 0)])])
 (.seq (.reg [o_ 24 (.mkfn (.func 117) [] [(.t 5),(.t 8),(.t 9)]),.op none none (.defer (.t 24) [])])
 (.seq (.draw [] D63_0 B63_0)
 (.seq (.reg [o_ 11 (.alloc [(.bool false),(.bool false),(.bool false),(.bool false)])])
 (.seq (.seq (.reg [v_ 35 3,o_ 36 (n_ 35),o_ 37 (.mov (i_ 0))])
 (.blk 0 (.loop [0,2,5,8,9,10,11,35,36,37] L63_2)))
 (.seq (.seq (.reg [v_ 96 0,o_ 97 (.nilck (.t 96)),o_ 98 (a_ 97 0),o_ 99 (a_ 98 0),y_ 100 99,o_ 101 (n_ 100),o_ 102 (.mov (i_ 0))])
 (.blk 6 (.loop [8,9,10,100,101,102] L63_4)))
 (.seq (.reg [o_ 127 (w_ 10 3),o_ 128 (.build [(.int .i64 0),(.int .i64 0)] [(0,1,(i_ 1)),(1,1,(i_ (-1)))]),s_ 8 127 3,s_ 9 128 2])
 .ret)))))))⟩
def D64_90:List MIx:=[o_ 3 (.addr (.t 1) 0),o_ 4 (l_ 3),.call (some 5) none (f_ 111) [(.t 4)],o_ 6 (.addr (.t 1) 1),o_ 7 (l_ 6),.call (some 8) none (f_ 111) [(.t 7)],o_ 9 (.addr (.t 1) 2),o_ 10 (l_ 9),.call (some 11) none (f_ 111) [(.t 10)],o_ 12 (.build [.nilS,.nilS,.nilS] [(0,1,(.t 5)),(1,1,(.t 8)),(2,1,(.t 11))]),.op none none (.store (.t 2) (.t 12) 3)]
def B64_90:List (List Nat):=[[],[0],[1,0],[],[3],[4,3,2,1,0],[],[6],[7,6,5,4,3,2,1,0],[2,1,0,5,4,3,8,7,6],[9,2,1,0,5,4,3,8,7,6]]
def mf64:SF:=⟨13,[(.c 2 (some 3))],
 (.seq (.reg [o_ 1 (.box (.t 0) 3),o_ 2 (.alloc [.nilS,.nilS,.nilS])])
 (.seq (.draw [] D64_90 B64_90)
 .ret))⟩
def mf65:SF:=⟨15,[(.t 6)],
 (.seq (.reg [o_ 6 (b_ false)])
 (.seq (.reg [v_ 7 0,v_ 8 1,o_ 9 (.bin .geq (.t 7) (.t 8)),v_ 10 9,q_ 11 10 true (m_ 0),q_ 12 10 true (m_ 2),q_ 13 10 true (.bin .leq (.t 11) (.t 12)),o_ 14 (p_ 10 13),v_ 6 14])
 .ret))⟩
def mf66:SF:=⟨22,[(.t 4)],
 (.seq (.reg [o_ 4 (.mov (i_ 0))])
 (.seq (.seq (.reg [v_ 5 1,o_ 6 (n_ 5),o_ 7 (.bin .gtr (.t 6) (i_ 8))])
 (.cond (.t 7) (.seq (.reg [o_ 4 (.mov (i_ 3))])
 .ret)
 .skip))
 (.seq (.seq (.reg [v_ 8 0,o_ 9 (.bslice 1 [(.int .i64 0)] 1 [(0,1,(.t 8))]),c_ 10 123 [(.t 9)],o_ 11 (.un .not (.t 10)),v_ 12 11,q_ 13 12 false (m_ 1),d_ 14 12 false 124 [(.t 13),(f_ 125)],q_ 15 12 false (.un .not (.t 14)),o_ 16 (r_ 12 15),v_ 17 16,q_ 18 17 false (m_ 1),d_ 19 17 false 126 [(.t 18)],q_ 20 17 false (.bin .eql (.t 19) (i_ 0)),o_ 21 (r_ 17 20)])
 (.cond (.t 21) (.seq (.reg [o_ 4 (.mov (i_ 2))])
 .ret)
 .skip))
 (.seq (.reg [o_ 4 (.mov (i_ 0))])
 .ret))))⟩
def mf67:SF:=⟨15,[(.t 6)],
 (.seq (.reg [o_ 6 (b_ false)])
 (.seq (.reg [v_ 7 0,v_ 8 1,o_ 9 (.bin .geq (.t 7) (.t 8)),v_ 10 9,q_ 11 10 true (m_ 0),q_ 12 10 true (m_ 2),q_ 13 10 true (.bin .leq (.t 11) (.t 12)),o_ 14 (p_ 10 13),v_ 6 14])
 .ret))⟩
def L68_0:SC:=(.seq (.reg [o_ 16 (.bin .lss (.t 15) (.t 14))])
 (.seq (.cond (.t 16) .skip
 (.exit 0))
 (.seq (.blk 1 (.seq (.reg [z_ 17 1 13 15,y_ 18 17,v_ 10 18])
 (.seq (.reg [v_ 19 7,v_ 20 10,o_ 21 (.bin .add (.t 19) (.t 20)),v_ 7 21])
 (.seq (.reg [v_ 22 5,v_ 23 0,v_ 24 7,o_ 25 (.bin .mul (.t 23) (.t 24)),v_ 26 8,o_ 27 (.bin .quo (.t 25) (.t 26)),v_ 28 6,o_ 29 (.bin .sub (.t 27) (.t 28)),o_ 30 (.bslice 1 [(.int .i64 0)] 1 [(0,1,(.t 29))]),o_ 31 (.app 1 [(.int .i64 0)] 8 (.t 22) (.t 30)),v_ 5 31])
 (.reg [v_ 32 0,v_ 33 7,o_ 34 (.bin .mul (.t 32) (.t 33)),v_ 35 8,o_ 36 (.bin .quo (.t 34) (.t 35)),v_ 6 36])))))
 (.reg [j_ 37 15,v_ 15 37]))))
def mf68:SF:=⟨39,[(.t 4)],
 (.seq (.reg [o_ 4 (.mov (.k .nilS))])
 (.seq (.reg [o_ 5 (.mov (.k .nilS))])
 (.seq (.reg [v_ 11 1,c_ 12 126 [(.t 11)],o_ 6 (.mov (i_ 0)),o_ 7 (.mov (i_ 0)),v_ 8 12])
 (.seq (.seq (.reg [v_ 13 1,o_ 14 (n_ 13),o_ 15 (.mov (i_ 0))])
 (.blk 0 (.loop [0,5,6,7,8,13,14,15] L68_0)))
 (.seq (.reg [v_ 38 5,v_ 4 38])
 .ret)))))⟩
def L69_0:SC:=(.seq (.reg [o_ 18 (.bin .lss (.t 17) (.t 16))])
 (.seq (.cond (.t 18) .skip
 (.exit 0))
 (.seq (.blk 1 (.seq (.reg [v_ 19 17,z_ 20 5 15 17,o_ 21 (w_ 20 5),o_ 7 (.alloc [(.int .i64 0),(.int .i64 0),(.int .i64 0),(.int .i64 0),(.int .i64 0)]),v_ 6 19,s_ 7 21 5])
 (.seq (.draw [true] [o_ 22 (a_ 3 0),y_ 23 22,v_ 24 6,z_ 25 1 23 24,y_ 26 25,o_ 27 (a_ 7 1),y_ 28 27,o_ 29 (.bin .neq (.t 26) (.t 28))] [[],[0],[],[1,0,2],[3,1,0,2],[],[5],[4,3,1,0,2,6,5]])
 (.cond (.t 29) (.reg [v_ 30 5,o_ 31 (a_ 7 4),y_ 32 31,o_ 33 (.bin .add (.t 30) (.t 32)),v_ 5 33])
 .skip))))
 (.reg [j_ 34 17,v_ 17 34]))))
def L69_1:SC:=(.seq (.reg [o_ 42 (.bin .lss (.t 41) (.t 40))])
 (.seq (.cond (.t 42) .skip
 (.exit 2))
 (.seq (.blk 3 (.seq (.reg [v_ 43 41,z_ 44 5 39 41,o_ 45 (w_ 44 5),o_ 9 (.alloc [(.int .i64 0),(.int .i64 0),(.int .i64 0),(.int .i64 0),(.int .i64 0)]),v_ 8 43,s_ 9 45 5])
 (.seq (.reg [o_ 46 (a_ 3 2),y_ 47 46,v_ 48 8,z_ 49 1 47 48,y_ 50 49,v_ 10 50])
 (.blk 4 (.seq (.reg [v_ 56 10,o_ 57 (a_ 9 1),y_ 58 57,o_ 59 (.bin .eql (.t 56) (.t 58)),v_ 55 59])
 (.cond (.t 55) .skip
 (.seq (.reg [v_ 61 0,o_ 62 (.nilck (.t 61)),o_ 63 (a_ 62 0),o_ 64 (a_ 63 0),y_ 65 64,v_ 66 10,z_ 67 2 65 66,o_ 68 (a_ 67 1),y_ 69 68,v_ 60 69])
 (.cond (.t 60) (.reg [v_ 70 5,o_ 71 (a_ 9 4),y_ 72 71,o_ 73 (.bin .add (.t 70) (.t 72)),v_ 5 73])
 (.reg [v_ 51 5,o_ 52 (a_ 9 3),y_ 53 52,o_ 54 (.bin .add (.t 51) (.t 53)),v_ 5 54])))))))))
 (.reg [j_ 74 41,v_ 41 74]))))
def mf69:SF:=⟨76,[(.t 4)],
 (.seq (.reg [o_ 3 (.box (.t 1) 3),o_ 4 (.mov (i_ 0))])
 (.seq (.reg [o_ 5 (.mov (i_ 0))])
 (.seq (.seq (.reg [v_ 11 0,o_ 12 (.nilck (.t 11)),o_ 13 (a_ 12 0),o_ 14 (a_ 13 2),y_ 15 14,o_ 16 (n_ 15),o_ 17 (.mov (i_ 0))])
 (.blk 0 (.loop [0,3,5,15,16,17] L69_0)))
 (.seq (.seq (.reg [v_ 35 0,o_ 36 (.nilck (.t 35)),o_ 37 (a_ 36 0),o_ 38 (a_ 37 3),y_ 39 38,o_ 40 (n_ 39),o_ 41 (.mov (i_ 0))])
 (.blk 2 (.loop [0,3,5,39,40,41] L69_1)))
 (.seq (.reg [v_ 75 5,v_ 4 75])
 .ret)))))⟩
def mf76:SF:=⟨31,[(.t 2)],
 (.seq (.reg [o_ 1 (.box (.t 0) 2),o_ 2 (b_ false)])
 (.seq (.reg [o_ 5 (a_ 1 0),y_ 6 5,c_ 7 136 [(.t 6),(f_ 137)],v_ 3 7])
 (.seq (.reg [o_ 8 (a_ 1 1),y_ 9 8,c_ 10 138 [(.t 9),(f_ 141)],v_ 4 10])
 (.seq (.reg [o_ 11 (a_ 1 0),y_ 12 11,o_ 13 (n_ 12),c_ 14 61 [(.t 13),(i_ 2),(i_ 8)],v_ 15 14,q_ 16 15 true (a_ 1 1),q_ 17 15 true (l_ 16),q_ 18 15 true (n_ 17),q_ 19 15 true (a_ 1 0),q_ 20 15 true (l_ 19),q_ 21 15 true (n_ 20),q_ 22 15 true (.bin .sub (.t 21) (i_ 1)),q_ 23 15 true (.bin .eql (.t 18) (.t 22)),o_ 24 (p_ 15 23),v_ 25 24,q_ 26 25 true (m_ 3),o_ 27 (p_ 25 26),v_ 28 27,q_ 29 28 true (m_ 4),o_ 30 (p_ 28 29),v_ 2 30])
 .ret))))⟩
def D77_80:List MIx:=[o_ 21 (m_ 3),o_ 22 (m_ 4),o_ 23 (m_ 5),o_ 24 (.addr (.t 1) 0),o_ 25 (l_ 24),o_ 26 (m_ 4),o_ 27 (.idxs 2 (.t 25) (.t 26)),o_ 28 (.load (.t 27) (some 2)),o_ 29 (m_ 5),.call (some 30) none (f_ 142) [(.t 28),(.t 29)],o_ 31 (m_ 30),q_ 32 31 true (.load (.t 1) (some 2)),q_ 33 31 true (m_ 3),q_ 34 31 true (m_ 4),q_ 35 31 true (m_ 5),.call (some 36) (some (31,true)) (f_ 143) [(.t 32),(.t 33),(.t 34),(.t 35)],q_ 37 31 true (.bin .lss (.t 36) (i_ 0)),o_ 38 (.pick (.t 31) (.t 37) (.k (.bool false))),o_ 39 (.idxs 1441 (.t 21) (.t 22)),o_ 40 (.idxa 1441 1 (.t 39) (.t 23)),.op none none (.store (.t 40) (.t 38) 1)]
def B77_80:List (List Nat):=[[],[],[],[],[3],[],[4,3,5],[6,4,3,5],[],[7,6,4,3,5,8],[9,7,6,4,3,5,8],[10,9,7,6,4,3,5,8],[10,9,7,6,4,3,5,8],[10,9,7,6,4,3,5,8],[10,9,7,6,4,3,5,8],[11,10,9,7,6,4,3,5,8,12,13,14],[15,11,10,9,7,6,4,3,5,8,12,13,14],[10,9,7,6,4,3,5,8,16,15,11,12,13,14],[0,1],[18,0,1,2,3,4,5,6,7,8,9,10,11,12,13,14,15,16,17],[19,18,0,1,2,3,4,5,6,7,8,9,10,11,12,13,14,15,16,17]]
def L77_0:SC:=(.seq (.reg [o_ 19 (.bin .lss (.t 18) (i_ 1441))])
 (.seq (.cond (.t 19) .skip
 (.exit 2))
 (.seq (.blk 3 (.seq (.reg [v_ 20 18,v_ 5 20])
 (.draw [] D77_80 B77_80)))
 (.reg [j_ 41 18,v_ 18 41]))))
def L77_1:SC:=(.seq (.seq (.reg [v_ 14 4,o_ 15 (.bin .geq (.t 14) (i_ 0))])
 (.cond (.t 15) .skip
 (.exit 0)))
 (.seq (.blk 1 (.seq (.reg [o_ 18 (.mov (i_ 0))])
 (.blk 2 (.loop [1,3,4,18] L77_0))))
 (.reg [v_ 16 4,o_ 17 (.bin .sub (.t 16) (i_ 1)),v_ 4 17])))
def mf77:SF:=⟨43,[(.t 2)],
 (.seq (.reg [o_ 1 (.box (.t 0) 2),o_ 2 (.mov (.k .nilS))])
 (.seq (.reg [o_ 6 (a_ 1 1),y_ 7 6,o_ 8 (n_ 7),o_ 9 (.mksl 1441 (List.replicate 1441 (.bool false)) 1441 (.t 8) (.t 8)),v_ 3 9])
 (.seq (.seq (.reg [o_ 10 (a_ 1 1),y_ 11 10,o_ 12 (n_ 11),o_ 13 (.bin .sub (.t 12) (i_ 1)),v_ 4 13])
 (.blk 0 (.loop [1,3,4] L77_1)))
 (.seq (.reg [v_ 42 3,v_ 2 42])
 .ret))))⟩
def L78_0:SC:=(.seq (.reg [o_ 9 (.bin .lss (.t 8) (.t 7))])
 (.seq (.cond (.t 9) .skip
 (.exit 0))
 (.seq (.blk 1 (.seq (.reg [v_ 10 8,z_ 11 1 6 8,y_ 12 11,v_ 4 10,v_ 5 12])
 (.blk 2 (.seq (.reg [v_ 20 5,o_ 21 (.un .not (.t 20)),v_ 19 21])
 (.cond (.t 19) .skip
 (.seq (.reg [v_ 23 3,o_ 24 (n_ 23),o_ 25 (.bin .gtr (.t 24) (i_ 0)),v_ 26 25,q_ 27 26 true (m_ 3),q_ 28 26 true (m_ 3),q_ 29 26 true (n_ 28),q_ 30 26 true (.bin .sub (.t 29) (i_ 1)),q_ 31 26 true (x_ 2 27 30),q_ 32 26 true (a_ 31 1),q_ 33 26 true (l_ 32),q_ 34 26 true (m_ 4),q_ 35 26 true (.bin .sub (.t 34) (i_ 1)),q_ 36 26 true (.bin .eql (.t 33) (.t 35)),o_ 37 (p_ 26 36),v_ 22 37])
 (.cond (.t 22) (.reg [v_ 38 3,v_ 39 3,o_ 40 (n_ 39),o_ 41 (.bin .sub (.t 40) (i_ 1)),v_ 42 4,z_ 43 2 38 41,o_ 44 (a_ 43 1),s_ 44 42 1])
 (.reg [v_ 13 3,v_ 14 4,v_ 15 4,o_ 16 (.build [(.int .i64 0),(.int .i64 0)] [(0,1,(.t 14)),(1,1,(.t 15))]),o_ 17 (.bslice 2 [(.int .i64 0),(.int .i64 0)] 1 [(0,2,(.t 16))]),o_ 18 (.app 2 [(.int .i64 0),(.int .i64 0)] 16 (.t 13) (.t 17)),v_ 3 18]))))))))
 (.reg [j_ 45 8,v_ 8 45]))))
def mf78:SF:=⟨47,[(.t 2)],
 (.seq (.reg [o_ 2 (.mov (.k .nilS))])
 (.seq (.reg [o_ 3 (.mov (.k .nilS))])
 (.seq (.seq (.reg [v_ 6 0,o_ 7 (n_ 6),o_ 8 (.mov (i_ 0))])
 (.blk 0 (.loop [3,6,7,8] L78_0)))
 (.seq (.reg [v_ 46 3,v_ 2 46])
 .ret))))⟩
def mf79:SF:=⟨26,[(.t 6)],
 (.seq (.reg [o_ 3 (.box (.t 0) 2),o_ 5 (.box (.t 2) 1),o_ 6 (.mov (i_ 0))])
 (.seq (.seq (.reg [v_ 8 1,o_ 9 (n_ 8),o_ 10 (.bin .gtr (.t 9) (i_ 6))])
 (.cond (.t 10) (.seq (.reg [o_ 6 (.mov (i_ 3))])
 .ret)
 .skip))
 (.seq (.reg [v_ 11 1,o_ 12 (.mkfn (.func 145) [] [(.t 5)]),c_ 13 144 [(.t 11),(.t 12)],v_ 7 13])
 (.seq (.seq (.reg [v_ 14 1,o_ 15 (n_ 14),o_ 16 (.bin .eql (.t 15) (i_ 0)),v_ 17 16,q_ 18 17 false (w_ 3 2),d_ 19 17 false 148 [(.t 18),(i_ 0),(i_ 20000)],q_ 20 17 false (.un .not (.t 19)),o_ 21 (r_ 17 20),v_ 22 21,q_ 23 22 false (m_ 7),q_ 24 22 false (.un .not (.t 23)),o_ 25 (r_ 22 24)])
 (.cond (.t 25) (.seq (.reg [o_ 6 (.mov (i_ 2))])
 .ret)
 .skip))
 (.seq (.reg [o_ 6 (.mov (i_ 0))])
 .ret)))))⟩
def mf80:SF:=⟨77,[(.t 2)],
 (.seq (.reg [o_ 1 (.box (.t 0) 10),o_ 2 (b_ false)])
 (.seq (.reg [o_ 4 (a_ 1 0),o_ 5 (a_ 4 4),y_ 6 5,c_ 7 149 [(.t 6),(f_ 150)],v_ 3 7])
 (.seq (.reg [o_ 8 (a_ 1 0),o_ 9 (a_ 8 0),y_ 10 9,c_ 11 151 [(.t 10),(i_ 1),(i_ 20000)],v_ 12 11,q_ 13 12 true (a_ 1 0),q_ 14 12 true (a_ 13 1),q_ 15 12 true (l_ 14),d_ 16 12 true 151 [(.t 15),(i_ (-20000000)),(i_ 20000000)],o_ 17 (p_ 12 16),v_ 18 17,q_ 19 18 true (a_ 1 0),q_ 20 18 true (a_ 19 2),q_ 21 18 true (l_ 20),q_ 22 18 true (a_ 1 0),q_ 23 18 true (a_ 22 3),q_ 24 18 true (l_ 23),q_ 25 18 true (a_ 1 0),q_ 26 18 true (a_ 25 8),q_ 27 18 true (l_ 26),q_ 28 18 true (.bslice 1 [(.int .i64 0)] 3 [(0,1,(.t 21)),(1,1,(.t 24)),(2,1,(.t 27))]),d_ 29 18 true 147 [(.t 28)],o_ 30 (p_ 18 29),v_ 31 30,q_ 32 31 true (a_ 1 0),q_ 33 31 true (a_ 32 4),q_ 34 31 true (l_ 33),q_ 35 31 true (n_ 34),d_ 36 31 true 151 [(.t 35),(i_ 3),(i_ 12)],o_ 37 (p_ 31 36),v_ 38 37,q_ 39 38 true (a_ 1 0),q_ 40 38 true (a_ 39 5),q_ 41 38 true (l_ 40),q_ 42 38 true (n_ 41),q_ 43 38 true (.bin .leq (.t 42) (i_ 8)),o_ 44 (p_ 38 43),v_ 45 44,q_ 46 45 true (a_ 1 0),q_ 47 45 true (a_ 46 9),q_ 48 45 true (l_ 47),q_ 49 45 true (n_ 48),q_ 50 45 true (.bin .leq (.t 49) (i_ 2)),o_ 51 (p_ 45 50),v_ 52 51,q_ 53 52 true (m_ 3),o_ 54 (p_ 52 53),v_ 55 54,q_ 56 55 true (a_ 1 0),q_ 57 55 true (a_ 56 5),q_ 58 55 true (l_ 57),d_ 59 55 true 152 [(.t 58),(f_ 153)],o_ 60 (p_ 55 59),v_ 61 60,q_ 62 61 true (a_ 1 0),q_ 63 61 true (a_ 62 6),q_ 64 61 true (w_ 63 2),d_ 65 61 true 153 [(.t 64)],o_ 66 (p_ 61 65),v_ 67 66,q_ 68 67 true (a_ 1 0),q_ 69 67 true (a_ 68 9),q_ 70 67 true (l_ 69),d_ 71 67 true 152 [(.t 70),(f_ 153)],o_ 72 (p_ 67 71),v_ 73 72,q_ 74 73 true (w_ 1 10),d_ 75 73 true 154 [(.t 74)],o_ 76 (p_ 73 75),v_ 2 76])
 .ret)))⟩
def L81_0:SC:=(.seq (.reg [o_ 19 (.bin .lss (.t 18) (.t 17))])
 (.seq (.cond (.t 19) .skip
 (.exit 0))
 (.seq (.blk 1 (.seq (.reg [z_ 20 7 16 18,o_ 21 (w_ 20 7),o_ 12 (.alloc [.nilS,(.bool false),(.int .i64 0),(.int .i64 0),(.int .i64 0),(.int .i64 0),(.int .i64 0)]),s_ 12 21 7])
 (.seq (.seq (.reg [o_ 22 (a_ 12 1),y_ 23 22])
 (.cond (.t 23) (.reg [o_ 24 (.build [(.int .i64 0),(.int .i64 0)] []),s_ 9 24 2])
 .skip))
 (.seq (.reg [o_ 25 (a_ 8 0),y_ 26 25,o_ 27 (a_ 12 2),y_ 28 27,o_ 29 (.bin .add (.t 26) (.t 28)),o_ 30 (a_ 8 1),y_ 31 30,o_ 32 (a_ 12 2),y_ 33 32,o_ 34 (.bin .add (.t 31) (.t 33)),o_ 35 (.build [(.int .i64 0),(.int .i64 0)] [(0,1,(.t 29)),(1,1,(.t 34))]),s_ 8 35 2])
 (.seq (.reg [v_ 36 10,o_ 37 (w_ 12 7),.call (some 38) none (.t 36) [(.t 37),(.k (.bool false))]])
 (.seq (.reg [o_ 39 (a_ 8 0),y_ 40 39,o_ 41 (a_ 12 3),o_ 42 (a_ 41 1),y_ 43 42,o_ 44 (.bin .sub (.t 40) (.t 43)),o_ 45 (a_ 8 1),y_ 46 45,o_ 47 (a_ 12 3),o_ 48 (a_ 47 0),y_ 49 48,o_ 50 (.bin .sub (.t 46) (.t 49)),o_ 51 (.build [(.int .i64 0),(.int .i64 0)] [(0,1,(.t 44)),(1,1,(.t 50))]),s_ 8 51 2])
 (.seq (.reg [o_ 52 (a_ 9 0),y_ 53 52,o_ 54 (a_ 12 5),o_ 55 (a_ 54 0),y_ 56 55,o_ 57 (.bin .add (.t 53) (.t 56)),o_ 58 (a_ 9 1),y_ 59 58,o_ 60 (a_ 12 5),o_ 61 (a_ 60 1),y_ 62 61,o_ 63 (.bin .add (.t 59) (.t 62)),o_ 64 (.build [(.int .i64 0),(.int .i64 0)] [(0,1,(.t 57)),(1,1,(.t 63))]),s_ 9 64 2])
 (.reg [v_ 65 10,o_ 66 (w_ 12 7),.call (some 67) none (.t 65) [(.t 66),(.k (.bool true))]]))))))))
 (.reg [j_ 68 18,v_ 18 68]))))
def mf81:SF:=⟨70,[(.t 6)],
 (.seq (.reg [o_ 3 (.box (.t 0) 10),o_ 4 (.box (.t 1) 2),o_ 6 (.mov (.k .nilS))])
 (.seq (.reg [o_ 7 (.alloc [.nilS])])
 (.seq (.reg [o_ 13 (w_ 4 2),o_ 14 (.build [(.int .i64 0),(.int .i64 0)] []),o_ 8 (.alloc [(.int .i64 0),(.int .i64 0)]),o_ 9 (.alloc [(.int .i64 0),(.int .i64 0)]),s_ 8 13 2,s_ 9 14 2])
 (.seq (.reg [o_ 15 (.mkfn (.func 155) [] [(.t 8),(.t 3),(.t 9),(.t 7)]),v_ 10 15])
 (.seq (.seq (.reg [v_ 16 2,o_ 17 (n_ 16),o_ 18 (.mov (i_ 0))])
 (.blk 0 (.loop [7,8,9,10,16,17,18] L81_0)))
 (.seq (.reg [y_ 69 7,v_ 6 69])
 .ret))))))⟩
def mf82:SF:=⟨16,[(.c 2 (some 6))],
 (.seq (.reg [o_ 1 (.box (.t 0) 15),o_ 2 (.alloc [.nilF,.nilF,.nilF,.nilF,.nilF,.nilF])])
 (.seq (.reg [o_ 3 (w_ 1 15),o_ 4 (.mkfn (.func 156) [(.t 3)] []),o_ 5 (w_ 1 15),o_ 6 (.mkfn (.func 157) [(.t 5)] []),o_ 7 (w_ 1 15),o_ 8 (.mkfn (.func 158) [(.t 7)] []),o_ 9 (w_ 1 15),o_ 10 (.mkfn (.func 159) [(.t 9)] []),o_ 11 (w_ 1 15),o_ 12 (.mkfn (.func 160) [(.t 11)] []),o_ 13 (w_ 1 15),o_ 14 (.mkfn (.func 161) [(.t 13)] []),o_ 15 (.build [.nilF,.nilF,.nilF,.nilF,.nilF,.nilF] [(0,1,(.t 4)),(1,1,(.t 6)),(2,1,(.t 8)),(3,1,(.t 10)),(4,1,(.t 12)),(5,1,(.t 14))]),s_ 2 15 6])
 .ret))⟩
def L83_0:SC:=(.seq (.reg [o_ 18 (.bin .lss (.t 17) (.t 16))])
 (.seq (.cond (.t 18) .skip
 (.exit 2))
 (.seq (.blk 3 (.seq (.reg [v_ 19 17,z_ 20 1 15 17,y_ 21 20,v_ 6 19,v_ 7 21])
 (.seq (.reg [v_ 22 7])
 (.cond (.t 22) (.seq (.reg [v_ 23 4,o_ 24 (.bin .add (i_ 2) (.t 23)),v_ 25 6,v_ 2 24,v_ 3 25])
 .ret)
 .skip))))
 (.reg [j_ 26 17,v_ 17 26]))))
def L83_1:SC:=(.seq (.reg [o_ 11 (.bin .lss (.t 10) (i_ 6))])
 (.seq (.cond (.t 11) .skip
 (.exit 0))
 (.seq (.blk 1 (.seq (.reg [v_ 12 10,o_ 13 (.idx 6 1 false (.t 9) (.t 10)),v_ 4 12,v_ 5 13])
 (.seq (.reg [v_ 14 5,.call (some 15) none (.t 14) [],o_ 16 (n_ 15),o_ 17 (.mov (i_ 0))])
 (.blk 2 (.loop [4,9,10,15,16,17] L83_0)))))
 (.reg [j_ 27 10,v_ 10 27]))))
def mf83:SF:=⟨28,[(.t 2),(.t 3)],
 (.seq (.reg [o_ 1 (.box (.t 0) 15),o_ 2 (.mov (i_ 0)),o_ 3 (.mov (i_ 0))])
 (.seq (.seq (.reg [o_ 8 (w_ 1 15),c_ 9 82 [(.t 8)],o_ 10 (.mov (i_ 0))])
 (.blk 0 (.loop [9,10] L83_1)))
 (.seq (.reg [o_ 2 (.mov (i_ 1)),o_ 3 (.mov (i_ 0))])
 .ret)))⟩
def mf84:SF:=⟨9,[(.t 4)],
 (.seq (.reg [o_ 4 (b_ false)])
 (.seq (.reg [v_ 5 0,v_ 6 1,c_ 7 162 [(.t 5),(.t 6)],o_ 8 (.bin .geq (.t 7) (i_ 0)),v_ 4 8])
 .ret))⟩
def mf85:SF:=⟨13,[(.t 2)],
 (.seq (.reg [o_ 1 (.box (.t 0) 2),o_ 2 (b_ false)])
 (.seq (.reg [o_ 3 (a_ 1 0),y_ 4 3,c_ 5 44 [(.t 4),(i_ 1),(i_ 1000)],o_ 6 (.un .not (.t 5)),v_ 7 6,q_ 8 7 false (a_ 1 1),q_ 9 7 false (l_ 8),d_ 10 7 false 44 [(.t 9),(i_ 0),(i_ 400)],q_ 11 7 false (.un .not (.t 10)),o_ 12 (r_ 7 11),v_ 2 12])
 .ret))⟩
def L86_0:SC:=(.seq (.reg [o_ 11 (.bin .lss (.t 10) (.t 9))])
 (.seq (.cond (.t 11) .skip
 (.exit 0))
 (.seq (.blk 1 (.seq (.reg [z_ 12 2 8 10,o_ 13 (w_ 12 2),o_ 7 (.alloc [(.int .i64 0),(.int .i64 0)]),s_ 7 13 2])
 (.seq (.reg [v_ 14 1,o_ 15 (w_ 7 2),.call (some 16) none (.t 14) [(.t 15)]])
 (.cond (.t 16) (.reg [v_ 17 5,o_ 18 (w_ 7 2),o_ 19 (.bslice 2 [(.int .i64 0),(.int .i64 0)] 1 [(0,2,(.t 18))]),o_ 20 (.app 2 [(.int .i64 0),(.int .i64 0)] 16 (.t 17) (.t 19)),v_ 5 20])
 .skip))))
 (.reg [j_ 21 10,v_ 10 21]))))
def mf86:SF:=⟨23,[(.t 4)],
 (.seq (.reg [o_ 4 (.mov (.k .nilS))])
 (.seq (.reg [o_ 5 (.mov (.k .nilS))])
 (.seq (.seq (.reg [v_ 8 0,o_ 9 (n_ 8),o_ 10 (.mov (i_ 0))])
 (.blk 0 (.loop [1,5,8,9,10] L86_0)))
 (.seq (.reg [v_ 22 5,v_ 4 22])
 .ret))))⟩
def mf87:SF:=⟨8,[(.t 3)],
 (.seq (.reg [o_ 2 (.box (.t 0) 2),o_ 3 (b_ false)])
 (.seq (.reg [y_ 4 1,o_ 5 (a_ 2 1),y_ 6 5,o_ 7 (.bin .leq (.t 4) (.t 6)),v_ 3 7])
 .ret))⟩
def L90_0:SC:=(.seq (.seq (.reg [v_ 15 7,v_ 16 1,o_ 17 (n_ 16),o_ 18 (.bin .lss (.t 15) (.t 17))])
 (.cond (.t 18) .skip
 (.exit 2)))
 (.seq (.blk 3 (.seq (.reg [v_ 21 1,v_ 22 7,z_ 23 1 21 22,y_ 24 23,v_ 25 5,o_ 26 (.bin .eql (.t 24) (.t 25))])
 (.cond (.t 26) (.reg [v_ 27 6,j_ 28 27,v_ 6 28])
 .skip)))
 (.reg [v_ 19 7,j_ 20 19,v_ 7 20])))
def L90_1:SC:=(.seq (.seq (.reg [v_ 8 5,o_ 9 (a_ 2 0),y_ 10 9,o_ 11 (n_ 10),o_ 12 (.bin .lss (.t 8) (.t 11))])
 (.cond (.t 12) .skip
 (.exit 0)))
 (.seq (.blk 1 (.seq (.reg [o_ 6 (.mov (i_ 0))])
 (.seq (.seq (.reg [o_ 7 (.mov (i_ 0))])
 (.blk 2 (.loop [1,2,5,6,7] L90_0)))
 (.seq (.reg [v_ 29 6,o_ 30 (a_ 2 0),y_ 31 30,v_ 32 5,z_ 33 2 31 32,o_ 34 (a_ 33 0),y_ 35 34,o_ 36 (.bin .gtr (.t 29) (.t 35))])
 (.cond (.t 36) (.seq (.reg [o_ 4 (b_ true)])
 .ret)
 .skip)))))
 (.reg [v_ 13 5,j_ 14 13,v_ 5 14])))
def mf90:SF:=⟨37,[(.t 4)],
 (.seq (.reg [o_ 2 (.box (.t 0) 5),o_ 4 (b_ false)])
 (.seq (.seq (.reg [o_ 5 (.mov (i_ 0))])
 (.blk 0 (.loop [1,2,5] L90_1)))
 (.seq (.reg [o_ 4 (b_ false)])
 .ret)))⟩
def mf91:SF:=⟨8,[(.t 3)],
 (.seq (.reg [o_ 3 (b_ false)])
 (.seq (.reg [v_ 4 0,y_ 5 1,o_ 6 (.bin .sub (.t 5) (i_ 1)),c_ 7 61 [(.t 4),(i_ 0),(.t 6)],v_ 3 7])
 .ret))⟩
def L92_0:SC:=(.seq (.reg [o_ 10 (.bin .lss (.t 9) (.t 8))])
 (.seq (.cond (.t 10) .skip
 (.exit 0))
 (.seq (.blk 1 (.seq (.reg [v_ 11 9,z_ 12 5 7 9,o_ 13 (w_ 12 5),o_ 6 (.alloc [(.int .i64 0),(.int .i64 0),(.int .i64 0),(.int .i64 0),(.int .i64 0)]),v_ 5 11,s_ 6 13 5])
 (.seq (.reg [v_ 14 1,v_ 15 5,o_ 16 (w_ 6 5),.call (some 17) none (.t 14) [(.t 15),(.t 16)],o_ 18 (.un .not (.t 17))])
 (.cond (.t 18) (.seq (.reg [o_ 4 (b_ false)])
 .ret)
 .skip))))
 (.reg [j_ 19 9,v_ 9 19]))))
def mf92:SF:=⟨20,[(.t 4)],
 (.seq (.reg [o_ 4 (b_ false)])
 (.seq (.seq (.reg [v_ 7 0,o_ 8 (n_ 7),o_ 9 (.mov (i_ 0))])
 (.blk 0 (.loop [1,7,8,9] L92_0)))
 (.seq (.reg [o_ 4 (b_ true)])
 .ret)))⟩
def mf93:SF:=⟨43,[(.t 6)],
 (.seq (.reg [o_ 5 (.box (.t 1) 5),o_ 6 (b_ false)])
 (.seq (.seq (.reg [y_ 7 2,o_ 8 (a_ 5 0),y_ 9 8,.call (some 10) none (.t 7) [(.t 9)]])
 (.cond (.t 10) (.reg [y_ 11 3,o_ 12 (a_ 5 0),y_ 13 12,z_ 14 1 11 13,y_ 15 14,j_ 16 15,z_ 17 1 11 13,s_ 17 16 1])
 .skip))
 (.seq (.reg [y_ 18 2,o_ 19 (a_ 5 0),y_ 20 19,.call (some 21) none (.t 18) [(.t 20)],v_ 22 21,q_ 23 22 true (l_ 2),q_ 24 22 true (a_ 5 1),q_ 25 22 true (l_ 24),.call (some 26) (some (22,true)) (.t 23) [(.t 25)],o_ 27 (p_ 22 26),v_ 28 27,q_ 29 28 true (a_ 5 2),q_ 30 28 true (l_ 29),d_ 31 28 true 61 [(.t 30),(i_ 0),(i_ 20)],o_ 32 (p_ 28 31),v_ 33 32,q_ 34 33 true (a_ 5 3),q_ 35 33 true (l_ 34),d_ 36 33 true 61 [(.t 35),(i_ 0),(i_ 20)],o_ 37 (p_ 33 36),v_ 38 37,q_ 39 38 true (a_ 5 4),q_ 40 38 true (l_ 39),d_ 41 38 true 61 [(.t 40),(i_ 0),(i_ 1000000)],o_ 42 (p_ 38 41),v_ 6 42])
 .ret)))⟩
def L94_0:SC:=(.seq (.reg [o_ 10 (.bin .lss (.t 9) (.t 8))])
 (.seq (.cond (.t 10) .skip
 (.exit 0))
 (.seq (.blk 1 (.seq (.reg [v_ 11 9,z_ 12 5 7 9,o_ 13 (w_ 12 5),o_ 6 (.alloc [(.int .i64 0),(.int .i64 0),(.int .i64 0),(.int .i64 0),(.int .i64 0)]),v_ 5 11,s_ 6 13 5])
 (.seq (.reg [v_ 14 1,v_ 15 5,o_ 16 (w_ 6 5),.call (some 17) none (.t 14) [(.t 15),(.t 16)],o_ 18 (.un .not (.t 17))])
 (.cond (.t 18) (.seq (.reg [o_ 4 (b_ false)])
 .ret)
 .skip))))
 (.reg [j_ 19 9,v_ 9 19]))))
def mf94:SF:=⟨20,[(.t 4)],
 (.seq (.reg [o_ 4 (b_ false)])
 (.seq (.seq (.reg [v_ 7 0,o_ 8 (n_ 7),o_ 9 (.mov (i_ 0))])
 (.blk 0 (.loop [1,7,8,9] L94_0)))
 (.seq (.reg [o_ 4 (b_ true)])
 .ret)))⟩
def mf95:SF:=⟨31,[(.t 5)],
 (.seq (.reg [o_ 4 (.box (.t 1) 5),o_ 5 (b_ false)])
 (.seq (.reg [y_ 6 2,o_ 7 (a_ 4 0),y_ 8 7,.call (some 9) none (.t 6) [(.t 8)],v_ 10 9,q_ 11 10 true (l_ 2),q_ 12 10 true (a_ 4 1),q_ 13 10 true (l_ 12),.call (some 14) (some (10,true)) (.t 11) [(.t 13)],o_ 15 (p_ 10 14),v_ 16 15,q_ 17 16 true (a_ 4 2),q_ 18 16 true (l_ 17),d_ 19 16 true 61 [(.t 18),(i_ 1),(i_ 20)],o_ 20 (p_ 16 19),v_ 21 20,q_ 22 21 true (a_ 4 3),q_ 23 21 true (l_ 22),d_ 24 21 true 61 [(.t 23),(i_ 0),(i_ 1000000)],o_ 25 (p_ 21 24),v_ 26 25,q_ 27 26 true (a_ 4 4),q_ 28 26 true (l_ 27),d_ 29 26 true 61 [(.t 28),(i_ 0),(i_ 1000000)],o_ 30 (p_ 26 29),v_ 5 30])
 .ret))⟩
def L96_0:SC:=(.seq (.reg [o_ 10 (.bin .lss (.t 9) (.t 8))])
 (.seq (.cond (.t 10) .skip
 (.exit 0))
 (.seq (.blk 1 (.seq (.reg [v_ 11 9,z_ 12 2 7 9,o_ 13 (w_ 12 2),o_ 6 (.alloc [(.int .i64 0),(.int .i64 0)]),v_ 5 11,s_ 6 13 2])
 (.seq (.reg [v_ 14 1,v_ 15 5,o_ 16 (w_ 6 2),.call (some 17) none (.t 14) [(.t 15),(.t 16)],o_ 18 (.un .not (.t 17))])
 (.cond (.t 18) (.seq (.reg [o_ 4 (b_ false)])
 .ret)
 .skip))))
 (.reg [j_ 19 9,v_ 9 19]))))
def mf96:SF:=⟨20,[(.t 4)],
 (.seq (.reg [o_ 4 (b_ false)])
 (.seq (.seq (.reg [v_ 7 0,o_ 8 (n_ 7),o_ 9 (.mov (i_ 0))])
 (.blk 0 (.loop [1,7,8,9] L96_0)))
 (.seq (.reg [o_ 4 (b_ true)])
 .ret)))⟩
def mf97:SF:=⟨33,[(.t 6)],
 (.seq (.reg [o_ 5 (.box (.t 1) 2),o_ 6 (b_ false)])
 (.seq (.reg [y_ 7 2,o_ 8 (a_ 5 0),y_ 9 8,.call (some 10) none (.t 7) [(.t 9)],v_ 11 10,q_ 12 11 true (l_ 2),q_ 13 11 true (a_ 5 1),q_ 14 11 true (l_ 13),.call (some 15) (some (11,true)) (.t 12) [(.t 14)],o_ 16 (p_ 11 15),v_ 17 16,q_ 18 17 true (a_ 5 0),q_ 19 17 true (l_ 18),q_ 20 17 true (a_ 5 1),q_ 21 17 true (l_ 20),q_ 22 17 true (.bin .neq (.t 19) (.t 21)),o_ 23 (p_ 17 22),v_ 24 23,q_ 25 24 true (a_ 3 1),q_ 26 24 true (l_ 25),q_ 27 24 true (m_ 0),q_ 28 24 true (.slc 2 (.t 26) none (some (.t 27)) none),q_ 29 24 true (.mkfn (.func 99) [] [(.t 5)]),d_ 30 24 true 98 [(.t 28),(.t 29)],q_ 31 24 true (.un .not (.t 30)),o_ 32 (p_ 24 31),v_ 6 32])
 .ret))⟩
def mf98:SF:=⟨9,[(.t 4)],
 (.seq (.reg [o_ 4 (b_ false)])
 (.seq (.reg [v_ 5 0,v_ 6 1,c_ 7 163 [(.t 5),(.t 6)],o_ 8 (.bin .geq (.t 7) (i_ 0)),v_ 4 8])
 .ret))⟩
def mf99:SF:=⟨16,[(.t 3)],
 (.seq (.reg [o_ 2 (.box (.t 0) 2),o_ 3 (b_ false)])
 (.seq (.reg [o_ 4 (w_ 2 2),o_ 5 (w_ 1 2),o_ 6 (.eqag [true,true] false (.t 4) (.t 5)),v_ 7 6,q_ 8 7 false (w_ 2 2),q_ 9 7 false (a_ 1 1),q_ 10 7 false (l_ 9),q_ 11 7 false (a_ 1 0),q_ 12 7 false (l_ 11),q_ 13 7 false (.build [(.int .i64 0),(.int .i64 0)] [(0,1,(.t 10)),(1,1,(.t 12))]),q_ 14 7 false (.eqag [true,true] false (.t 8) (.t 13)),o_ 15 (r_ 7 14),v_ 3 15])
 .ret))⟩
def L100_0:SC:=(.seq (.reg [o_ 10 (.bin .lss (.t 9) (.t 8))])
 (.seq (.cond (.t 10) .skip
 (.exit 0))
 (.seq (.blk 1 (.seq (.reg [v_ 11 9,z_ 12 1 7 9,y_ 13 12,v_ 5 11,v_ 6 13])
 (.seq (.reg [v_ 14 1,v_ 15 5,v_ 16 6,.call (some 17) none (.t 14) [(.t 15),(.t 16)],o_ 18 (.un .not (.t 17))])
 (.cond (.t 18) (.seq (.reg [o_ 4 (b_ false)])
 .ret)
 .skip))))
 (.reg [j_ 19 9,v_ 9 19]))))
def mf100:SF:=⟨20,[(.t 4)],
 (.seq (.reg [o_ 4 (b_ false)])
 (.seq (.seq (.reg [v_ 7 0,o_ 8 (n_ 7),o_ 9 (.mov (i_ 0))])
 (.blk 0 (.loop [1,7,8,9] L100_0)))
 (.seq (.reg [o_ 4 (b_ true)])
 .ret)))⟩
def mf101:SF:=⟨25,[(.t 6)],
 (.seq (.reg [o_ 6 (b_ false)])
 (.seq (.reg [v_ 7 1,o_ 8 (n_ 7),c_ 9 61 [(.t 8),(i_ 1),(i_ 5)],v_ 10 9,q_ 11 10 true (m_ 1),q_ 12 10 true (n_ 11),q_ 13 10 true (a_ 2 4),q_ 14 10 true (l_ 13),q_ 15 10 true (.idxs 1 (.t 14) (i_ 0)),q_ 16 10 true (l_ 15),q_ 17 10 true (n_ 16),q_ 18 10 true (.bin .eql (.t 12) (.t 17)),o_ 19 (p_ 10 18),v_ 20 19,q_ 21 20 true (m_ 1),q_ 22 20 true (.mkfn (.func 103) [] [(.t 3)]),d_ 23 20 true 102 [(.t 21),(.t 22)],o_ 24 (p_ 20 23),v_ 6 24])
 .ret))⟩
def L102_0:SC:=(.seq (.reg [o_ 10 (.bin .lss (.t 9) (.t 8))])
 (.seq (.cond (.t 10) .skip
 (.exit 0))
 (.seq (.blk 1 (.seq (.reg [v_ 11 9,z_ 12 1 7 9,y_ 13 12,v_ 5 11,v_ 6 13])
 (.seq (.reg [v_ 14 1,v_ 15 5,v_ 16 6,.call (some 17) none (.t 14) [(.t 15),(.t 16)],o_ 18 (.un .not (.t 17))])
 (.cond (.t 18) (.seq (.reg [o_ 4 (b_ false)])
 .ret)
 .skip))))
 (.reg [j_ 19 9,v_ 9 19]))))
def mf102:SF:=⟨20,[(.t 4)],
 (.seq (.reg [o_ 4 (b_ false)])
 (.seq (.seq (.reg [v_ 7 0,o_ 8 (n_ 7),o_ 9 (.mov (i_ 0))])
 (.blk 0 (.loop [1,7,8,9] L102_0)))
 (.seq (.reg [o_ 4 (b_ true)])
 .ret)))⟩
def mf103:SF:=⟨11,[(.t 5)],
 (.seq (.reg [o_ 5 (b_ false)])
 (.seq (.reg [v_ 6 1,y_ 7 2,o_ 8 (.bin .shl (i_ 1) (.t 7)),o_ 9 (.bin .sub (.t 8) (i_ 1)),c_ 10 61 [(.t 6),(i_ 0),(.t 9)],v_ 5 10])
 .ret))⟩
def L104_0:SC:=(.seq (.reg [o_ 10 (.bin .lss (.t 9) (.t 8))])
 (.seq (.cond (.t 10) .skip
 (.exit 0))
 (.seq (.blk 1 (.seq (.reg [v_ 11 9,z_ 12 2 7 9,o_ 13 (w_ 12 2),o_ 6 (.alloc [(.int .i64 0),(.bool false)]),v_ 5 11,s_ 6 13 2])
 (.seq (.reg [v_ 14 1,v_ 15 5,o_ 16 (w_ 6 2),.call (some 17) none (.t 14) [(.t 15),(.t 16)],o_ 18 (.un .not (.t 17))])
 (.cond (.t 18) (.seq (.reg [o_ 4 (b_ false)])
 .ret)
 .skip))))
 (.reg [j_ 19 9,v_ 9 19]))))
def mf104:SF:=⟨20,[(.t 4)],
 (.seq (.reg [o_ 4 (b_ false)])
 (.seq (.seq (.reg [v_ 7 0,o_ 8 (n_ 7),o_ 9 (.mov (i_ 0))])
 (.blk 0 (.loop [1,7,8,9] L104_0)))
 (.seq (.reg [o_ 4 (b_ true)])
 .ret)))⟩
def mf105:SF:=⟨18,[(.t 5)],
 (.seq (.reg [o_ 4 (.box (.t 1) 2),o_ 5 (b_ false)])
 (.seq (.draw [true] [o_ 6 (a_ 4 0),y_ 7 6,c_ 8 61 [(.t 7),(i_ 0),(i_ 2)],v_ 9 8,q_ 10 9 true (l_ 2),q_ 11 9 true (m_ 0),q_ 12 9 true (x_ 1 10 11),q_ 13 9 true (l_ 12),q_ 14 9 true (a_ 4 0),q_ 15 9 true (l_ 14),q_ 16 9 true (.bin .leq (.t 13) (.t 15)),o_ 17 (p_ 9 16),v_ 5 17] [[],[0],[1,0],[2,1,0],[3,2,1,0],[3,2,1,0],[4,3,2,1,0,5],[6,4,3,2,1,0,5],[3,2,1,0],[8,3,2,1,0],[7,6,4,3,2,1,0,5,9,8],[3,2,1,0,10,7,6,4,5,9,8],[11,3,2,1,0,10,7,6,4,5,9,8]])
 .ret))⟩
def aFl:List MIx:=[o_ 13 (.addr (.t 9) 2),o_ 14 (.slca 2 1 (.t 13) none none none),o_ 15 (.addr (.t 7) 0),o_ 16 (l_ 15),o_ 17 (.copy 1 (.t 14) (.t 16))]
def aPp:List (List Nat):=[[],[0],[],[2],[1,0,3,2]]
def aFk:List MIx:=[o_ 18 (.addr (.t 9) 4),o_ 19 (.slca 2 1 (.t 18) none none none),o_ 20 (.addr (.t 7) 1),o_ 21 (l_ 20),o_ 22 (.copy 1 (.t 19) (.t 21))]
def aPo:List (List Nat):=[[],[0],[],[2],[1,0,3,2]]
def aFj:List MIx:=[o_ 23 (.addr (.t 9) 6),o_ 24 (.slca 4 1 (.t 23) none none none),o_ 25 (.addr (.t 7) 2),o_ 26 (l_ 25),o_ 27 (.copy 1 (.t 24) (.t 26))]
def aPn:List (List Nat):=[[],[0],[],[2],[1,0,3,2]]
def mf106:SF:=⟨29,[(.c 8 (some 10))],
 (.seq (.reg [o_ 7 (.box (.t 3) 3),o_ 8 (.alloc [(.int .i64 0),(.int .i64 0),(.int .i64 0),(.int .i64 0),(.int .i64 0),(.int .i64 0),(.int .i64 0),(.int .i64 0),(.int .i64 0),(.int .i64 0)])])
 (.seq (.reg [v_ 10 1,v_ 11 2,o_ 12 (.build [(.int .i64 0),(.int .i64 0),(.int .i64 0),(.int .i64 0),(.int .i64 0),(.int .i64 0),(.int .i64 0),(.int .i64 0),(.int .i64 0),(.int .i64 0)] [(0,1,(.t 10)),(1,1,(.t 11))]),o_ 9 (.alloc [(.int .i64 0),(.int .i64 0),(.int .i64 0),(.int .i64 0),(.int .i64 0),(.int .i64 0),(.int .i64 0),(.int .i64 0),(.int .i64 0),(.int .i64 0)]),s_ 9 12 10])
 (.seq (.draw [] aFl aPp)
 (.seq (.draw [] aFk aPo)
 (.seq (.draw [] aFj aPn)
 (.seq (.reg [o_ 28 (w_ 9 10),s_ 8 28 10])
 .ret))))))⟩
def mf107:SF:=⟨17,[],
 (.seq (.reg [o_ 4 (.box (.t 0) 1)])
 (.seq (.reg [y_ 7 1,o_ 8 (.nilck (.t 7)),o_ 9 (a_ 8 0),o_ 10 (a_ 9 2),y_ 11 10,o_ 12 (n_ 11),o_ 13 (.mksl 2 [(.int .i64 0),.nilS] 32 (.t 12) (.t 12)),o_ 5 (.alloc [.nilS]),s_ 5 13 1])
 (.seq (.reg [o_ 6 (.alloc [.nilF])])
 (.seq (.reg [o_ 14 (.mkfn (.func 108) [] [(.t 5),(.t 1),(.t 2),(.t 3),(.t 4),(.t 6)]),s_ 6 14 1])
 (.reg [y_ 15 6,.call (some 16) none (.t 15) [(i_ 0),(i_ 0)]])))))⟩
def R108_0a:SC:=(.seq (.reg [o_ 13 (.alloc [(.int .i64 0),.nilS]),s_ 13 42 2])
 (.reg [v_ 14 43]))
def R108_0b:SC:=(.blk 1 (.seq (.reg [y_ 44 2,y_ 45 8,o_ 46 (w_ 13 2),z_ 47 2 44 45,s_ 47 46 2])
 (.seq (.reg [y_ 48 7,y_ 49 8,j_ 50 49,v_ 51 14,.call (some 52) none (.t 48) [(.t 50),(.t 51)],o_ 53 (.un .not (.t 52))])
 (.cond (.t 53) (.seq (.reg [.op none none (.store (.t 10) (.k (.bool false)) 1)])
 .ret)
 .skip))))
def mf108:SF:=⟨54,[(.c 10 none)],
 (.seq (.reg [o_ 8 (.box (.t 0) 1),o_ 10 (.alloc [(.bool false)])])
 (.seq (.seq (.reg [y_ 15 8,y_ 16 2,o_ 17 (n_ 16),o_ 18 (.bin .eql (.t 15) (.t 17))])
 (.cond (.t 18) (.seq (.reg [y_ 20 3,o_ 21 (w_ 4 3),y_ 22 5,y_ 23 2,c_ 24 63 [(.t 20),(.t 21),(.t 22),(.t 23)],v_ 19 24,o_ 25 (e_ 19 0),o_ 26 (e_ 19 1),o_ 11 (.alloc [.nilS,.nilS,.nilS]),o_ 12 (.alloc [(.int .i64 0),(.int .i64 0)]),s_ 11 25 3,s_ 12 26 2])
 (.seq (.reg [o_ 27 (a_ 12 0),y_ 28 27,o_ 29 (.bin .neq (.t 28) (i_ 1)),v_ 30 29,q_ 31 30 false (l_ 6),q_ 32 30 false (l_ 2),q_ 33 30 false (w_ 11 3),.call (some 34) (some (30,false)) (.t 31) [(.t 32),(.t 33)],o_ 35 (r_ 30 34),s_ 10 35 1])
 .ret))
 .skip))
 (.seq (.seq (.reg [y_ 36 3,o_ 37 (w_ 4 3),y_ 38 5,y_ 39 8,v_ 40 1,c_ 41 109 [(.t 36),(.t 37),(.t 38),(.t 39),(.t 40)]])
 (.blk 0 (.rng (.t 41) #[42,43] (bP (cL 108) [1,1,0,1,0,0]) (bP (cL 108) [1,1,0,1,0,1]) R108_0a R108_0b)))
 (.seq (.reg [.op none none (.store (.t 10) (.k (.bool true)) 1)])
 .ret))))⟩
def mf109:SF:=⟨12,[(.t 10)],
 (.seq (.reg [o_ 5 (.box (.t 0) 1),o_ 6 (.box (.t 1) 3),o_ 7 (.box (.t 2) 1),o_ 8 (.box (.t 3) 1),o_ 9 (.box (.t 4) 1),o_ 10 (.mov (.k .nilF))])
 (.seq (.reg [o_ 11 (.mkfn (.func 164) [] [(.t 9),(.t 6),(.t 8),(.t 5),(.t 7)]),v_ 10 11])
 .ret))⟩
def mf110:SF:=⟨8,[(.t 2)],
 (.seq (.reg [o_ 2 (.mov (.k .nilS))])
 (.seq (.seq (.reg [v_ 3 0,o_ 4 (.eqnil true false (.t 3))])
 (.cond (.t 4) (.seq (.reg [o_ 2 (.mov (.k .nilS))])
 .ret)
 .skip))
 (.seq (.reg [o_ 5 (.bslice 2 [(.int .i64 0),.nilS] 0 []),v_ 6 0,o_ 7 (.app 2 [(.int .i64 0),.nilS] 32 (.t 5) (.t 6)),v_ 2 7])
 .ret)))⟩
def mf111:SF:=⟨8,[(.t 2)],
 (.seq (.reg [o_ 2 (.mov (.k .nilS))])
 (.seq (.seq (.reg [v_ 3 0,o_ 4 (.eqnil true false (.t 3))])
 (.cond (.t 4) (.seq (.reg [o_ 2 (.mov (.k .nilS))])
 .ret)
 .skip))
 (.seq (.reg [o_ 5 (.bslice 1 [(.int .i64 0)] 0 []),v_ 6 0,o_ 7 (.app 1 [(.int .i64 0)] 8 (.t 5) (.t 6)),v_ 2 7])
 .ret)))⟩
def mf112:SF:=⟨15,[(.t 5)],
 (.seq (.reg [o_ 5 (b_ false)])
 (.seq (.reg [v_ 6 1,y_ 7 2,o_ 8 (.nilck (.t 7)),o_ 9 (a_ 8 0),o_ 10 (a_ 9 0),y_ 11 10,o_ 12 (n_ 11),o_ 13 (.bin .sub (.t 12) (i_ 1)),c_ 14 61 [(.t 6),(i_ 0),(.t 13)],v_ 5 14])
 .ret))⟩
def mf113:SF:=⟨7,[(.t 4)],
 (.seq (.reg [o_ 4 (b_ false)])
 (.seq (.reg [v_ 5 1,c_ 6 61 [(.t 5),(i_ 0),(i_ 5)],v_ 4 6])
 .ret))⟩
def L114_0:SC:=(.seq (.reg [o_ 10 (.bin .lss (.t 9) (.t 8))])
 (.seq (.cond (.t 10) .skip
 (.exit 0))
 (.seq (.blk 1 (.seq (.reg [v_ 11 9,z_ 12 2 7 9,o_ 13 (w_ 12 2),o_ 6 (.alloc [(.int .i64 0),.nilS]),v_ 5 11,s_ 6 13 2])
 (.seq (.reg [v_ 14 1,v_ 15 5,o_ 16 (w_ 6 2),.call (some 17) none (.t 14) [(.t 15),(.t 16)],o_ 18 (.un .not (.t 17))])
 (.cond (.t 18) (.seq (.reg [o_ 4 (b_ false)])
 .ret)
 .skip))))
 (.reg [j_ 19 9,v_ 9 19]))))
def mf114:SF:=⟨20,[(.t 4)],
 (.seq (.reg [o_ 4 (b_ false)])
 (.seq (.seq (.reg [v_ 7 0,o_ 8 (n_ 7),o_ 9 (.mov (i_ 0))])
 (.blk 0 (.loop [1,7,8,9] L114_0)))
 (.seq (.reg [o_ 4 (b_ true)])
 .ret)))⟩
def mf115:SF:=⟨35,[(.t 5)],
 (.seq (.reg [o_ 4 (.box (.t 1) 2),o_ 5 (b_ false)])
 (.seq (.reg [o_ 7 (a_ 4 1),y_ 8 7,o_ 9 (.mkfn (.func 116) [] [(.t 2),(.t 4)]),c_ 10 102 [(.t 8),(.t 9)],v_ 6 10])
 (.seq (.draw [true] [o_ 11 (a_ 4 0),y_ 12 11,y_ 13 2,o_ 14 (.nilck (.t 13)),o_ 15 (a_ 14 0),o_ 16 (a_ 15 0),y_ 17 16,o_ 18 (n_ 17),o_ 19 (.bin .sub (.t 18) (i_ 1)),c_ 20 61 [(.t 12),(i_ (-1)),(.t 19)],v_ 21 20,q_ 22 21 true (m_ 6),o_ 23 (p_ 21 22),v_ 24 23,q_ 25 24 true (a_ 4 0),q_ 26 24 true (l_ 25),q_ 27 24 true (.bin .geq (.t 26) (i_ 0)),q_ 28 24 true (m_ 27),q_ 29 28 false (a_ 4 1),q_ 30 28 false (l_ 29),q_ 31 28 false (n_ 30),q_ 32 28 false (.bin .eql (.t 31) (i_ 0)),q_ 33 24 true (r_ 28 32),o_ 34 (p_ 24 33),v_ 5 34] [[],[0],[],[2],[3,2],[4,3,2],[5,4,3,2],[6,5,4,3,2],[7,6,5,4,3,2],[1,0,8,7,6,5,4,3,2],[9,1,0,8,7,6,5,4,3,2],[10,9,1,0,8,7,6,5,4,3,2],[10,9,1,0,8,7,6,5,4,3,2,11],[12,10,9,1,0,8,7,6,5,4,3,2,11],[13,12,10,9,1,0,8,7,6,5,4,3,2,11],[14,13,12,10,9,1,0,8,7,6,5,4,3,2,11],[15,14,13,12,10,9,1,0,8,7,6,5,4,3,2,11],[16,15,14,13,12,10,9,1,0,8,7,6,5,4,3,2,11],[17,16,15,14,13,12,10,9,1,0,8,7,6,5,4,3,2,11],[18,17,16,15,14,13,12,10,9,1,0,8,7,6,5,4,3,2,11],[19,18,17,16,15,14,13,12,10,9,1,0,8,7,6,5,4,3,2,11],[20,19,18,17,16,15,14,13,12,10,9,1,0,8,7,6,5,4,3,2,11],[17,16,15,14,13,12,10,9,1,0,8,7,6,5,4,3,2,11,21,20,19,18],[13,12,10,9,1,0,8,7,6,5,4,3,2,11,22,17,16,15,14,21,20,19,18],[23,13,12,10,9,1,0,8,7,6,5,4,3,2,11,22,17,16,15,14,21,20,19,18]])
 .ret)))⟩
def mf116:SF:=⟨30,[(.t 6)],
 (.seq (.reg [o_ 6 (b_ false)])
 (.seq (.reg [v_ 7 1,y_ 8 2,o_ 9 (.nilck (.t 8)),o_ 10 (a_ 9 0),o_ 11 (a_ 10 3),y_ 12 11,o_ 13 (n_ 12),o_ 14 (.bin .sub (.t 13) (i_ 1)),c_ 15 61 [(.t 7),(i_ 0),(.t 14)],v_ 16 15,q_ 17 16 true (m_ 0),q_ 18 16 true (.bin .eql (.t 17) (i_ 0)),q_ 19 16 true (m_ 18),q_ 20 19 false (m_ 1),q_ 21 19 false (a_ 3 1),q_ 22 19 false (l_ 21),q_ 23 19 false (m_ 0),q_ 24 19 false (.bin .sub (.t 23) (i_ 1)),q_ 25 19 false (x_ 1 22 24),q_ 26 19 false (l_ 25),q_ 27 19 false (.bin .gtr (.t 20) (.t 26)),q_ 28 16 true (r_ 19 27),o_ 29 (p_ 16 28),v_ 6 29])
 .ret))⟩
def D117_0:List MIx:=[o_ 12 (.load (.t 0) (some 3)),o_ 13 (.load (.t 4) (some 2)),.op none none (.store (.t 1) (.t 12) 3),.op none none (.store (.t 2) (.t 13) 2)]
def B117_0:List (List Nat):=[[],[],[0],[1,2,0]]
def mf117:SF:=⟨14,[],
 (.seq (.reg [o_ 6 .recov])
 (.blk 0 (.seq (.reg [o_ 8 (.eqni false (.t 6))])
 (.cond (.t 8) (.reg [v_ 3 6])
 (.seq (.reg [o_ 9 (.tass 145 (.agg [(.int .i64 0),(.int .i64 0)]) true (.t 6)),o_ 10 (e_ 9 1),o_ 11 (e_ 9 0)])
 (.cond (.t 10) (.seq (.reg [o_ 4 (.alloc [(.int .i64 0),(.int .i64 0)]),s_ 4 11 2])
 (.draw [] D117_0 B117_0))
 (.seq (.reg [v_ 5 6])
 (.regP [v_ 7 5] none (.t 7) []))))))))⟩
def aFi:List MIx:=[o_ 2 (.load (.t 1) (some 9)),o_ 3 (.addr (.t 1) 0),o_ 4 (l_ 3),o_ 5 (.addr (.t 1) 3),o_ 6 (.addr (.t 5) 0),o_ 7 (l_ 6),o_ 8 (.addr (.t 1) 7),o_ 9 (l_ 8),o_ 10 (.idxs 1 (.t 7) (.t 9)),o_ 11 (l_ 10),o_ 12 (.addr (.t 1) 1),o_ 13 (.addr (.t 12) 0),o_ 14 (l_ 13),.call (some 15) none (f_ 165) [(.t 4),(.t 11),(.t 14)],.call (some 16) none (f_ 167) [(.t 2),(.t 15),(i_ 2)]]
def aPm:List (List Nat):=[[],[],[1],[],[3],[4,3],[],[6],[5,4,3,7,6],[8,5,4,3,7,6],[],[10],[11,10],[2,1,9,8,5,4,3,7,6,12,11,10],[0,13,2,1,9,8,5,4,3,7,6,12,11,10]]
def mf118:SF:=⟨17,[],
 (.seq (.reg [o_ 1 (.box (.t 0) 9)])
 (.draw [] aFi aPm))⟩
def mf119:SF:=⟨23,[],
 (.seq (.reg [o_ 1 (.box (.t 0) 9)])
 (.drawE [o_ 2 (w_ 1 9),o_ 3 (a_ 1 6),y_ 4 3,o_ 5 (a_ 1 3),o_ 6 (a_ 5 0),y_ 7 6,o_ 8 (a_ 1 7),y_ 9 8,z_ 10 1 7 9,y_ 11 10,o_ 12 (.bin .shr (.t 4) (.t 11)),o_ 13 (a_ 1 6),y_ 14 13,o_ 15 (a_ 1 1),o_ 16 (a_ 15 0),y_ 17 16,o_ 18 (.bin .shr (.t 14) (.t 17)),o_ 19 (.bin .and (.t 12) (.t 18)),o_ 20 (.bin .and (.t 19) (i_ 1)),o_ 21 (.bin .eql (.t 20) (i_ 1))] (some 22) (f_ 167) [(.t 2),(.t 21),(i_ 3)] [[],[],[1],[],[3],[4,3],[],[6],[5,4,3,7,6],[8,5,4,3,7,6],[2,1,9,8,5,4,3,7,6],[],[11],[],[13],[14,13],[12,11,15,14,13],[10,2,1,9,8,5,4,3,7,6,16,12,11,15,14,13],[17,10,2,1,9,8,5,4,3,7,6,16,12,11,15,14,13],[18,17,10,2,1,9,8,5,4,3,7,6,16,12,11,15,14,13],[0,19,18,17,10,2,1,9,8,5,4,3,7,6,16,12,11,15,14,13]]))⟩
def mf120:SF:=⟨23,[],
 (.seq (.reg [o_ 1 (.box (.t 0) 9)])
 (.drawE [o_ 2 (w_ 1 9),o_ 3 (a_ 1 3),o_ 4 (a_ 3 1),y_ 5 4,o_ 6 (a_ 1 7),y_ 7 6,z_ 8 1 5 7,y_ 9 8,o_ 10 (a_ 1 0),y_ 11 10,o_ 12 (.nilck (.t 11)),o_ 13 (a_ 12 0),o_ 14 (a_ 13 2),y_ 15 14,o_ 16 (a_ 1 7),y_ 17 16,z_ 18 5 15 17,o_ 19 (a_ 18 3),y_ 20 19,o_ 21 (.bin .lss (.t 9) (.t 20))] (some 22) (f_ 167) [(.t 2),(.t 21),(i_ 4)] [[],[],[1],[2,1],[],[4],[3,2,1,5,4],[6,3,2,1,5,4],[],[8],[9,8],[10,9,8],[11,10,9,8],[12,11,10,9,8],[],[14],[13,12,11,10,9,8,15,14],[16,13,12,11,10,9,8,15,14],[17,16,13,12,11,10,9,8,15,14],[7,6,3,2,1,5,4,18,17,16,13,12,11,10,9,8,15,14],[0,19,7,6,3,2,1,5,4,18,17,16,13,12,11,10,9,8,15,14]]))⟩
def L121_0:SC:=(.seq (.reg [o_ 9 (.bin .lss (.t 8) (.t 7))])
 (.seq (.cond (.t 9) .skip
 (.exit 0))
 (.seq (.blk 1 (.seq (.reg [z_ 10 1 6 8,y_ 11 10,v_ 3 11])
 (.seq (.drawE [o_ 12 (w_ 1 9),o_ 13 (a_ 1 3),o_ 14 (a_ 13 2),y_ 15 14,v_ 16 3,z_ 17 1 15 16,y_ 18 17,o_ 19 (a_ 1 3),o_ 20 (a_ 19 0),y_ 21 20,o_ 22 (a_ 1 7),y_ 23 22,z_ 24 1 21 23,y_ 25 24,o_ 26 (.bin .eql (.t 18) (.t 25)),v_ 27 26,q_ 28 27 true (a_ 1 8),q_ 29 27 true (l_ 28),q_ 30 27 true (m_ 3),q_ 31 27 true (.nilck (.t 29)),q_ 32 27 true (.idxa 4 1 (.t 31) (.t 30)),q_ 33 27 true (l_ 32),q_ 34 27 true (.un .not (.t 33)),o_ 35 (p_ 27 34)] (some 36) (f_ 167) [(.t 12),(.t 35),(i_ 5)] [[],[],[1],[2,1],[],[3,2,1,4],[5,3,2,1,4],[],[7],[8,7],[],[10],[9,8,7,11,10],[12,9,8,7,11,10],[6,5,3,2,1,4,13,12,9,8,7,11,10],[14,6,5,3,2,1,4,13,12,9,8,7,11,10],[15,14,6,5,3,2,1,4,13,12,9,8,7,11,10],[16,15,14,6,5,3,2,1,4,13,12,9,8,7,11,10],[15,14,6,5,3,2,1,4,13,12,9,8,7,11,10],[17,16,15,14,6,5,3,2,1,4,13,12,9,8,7,11,10],[19,17,16,15,14,6,5,3,2,1,4,13,12,9,8,7,11,10,18],[20,19,17,16,15,14,6,5,3,2,1,4,13,12,9,8,7,11,10,18],[21,20,19,17,16,15,14,6,5,3,2,1,4,13,12,9,8,7,11,10,18],[15,14,6,5,3,2,1,4,13,12,9,8,7,11,10,22,21,20,19,17,16,18],[0,23,15,14,6,5,3,2,1,4,13,12,9,8,7,11,10,22,21,20,19,17,16,18]])
 (.reg [o_ 37 (a_ 1 8),y_ 38 37,v_ 39 3,o_ 40 (.nilck (.t 38)),o_ 41 (.idxa 4 1 (.t 40) (.t 39)),.op none none (.store (.t 41) (.k (.bool true)) 1)]))))
 (.reg [j_ 42 8,v_ 8 42]))))
def mf121:SF:=⟨43,[],
 (.seq (.reg [o_ 1 (.box (.t 0) 9)])
 (.seq (.reg [o_ 4 (a_ 1 1),o_ 5 (a_ 4 1),y_ 6 5,o_ 7 (n_ 6),o_ 8 (.mov (i_ 0))])
 (.blk 0 (.loop [1,6,7,8] L121_0))))⟩
def L122_0:SC:=(.seq (.reg [o_ 10 (.bin .lss (.t 9) (.t 8))])
 (.seq (.cond (.t 10) .skip
 (.exit 0))
 (.seq (.blk 1 (.seq (.reg [z_ 11 1 7 9,y_ 12 11,v_ 4 12])
 (.reg [v_ 13 2,o_ 14 (a_ 1 0),y_ 15 14,o_ 16 (.nilck (.t 15)),o_ 17 (a_ 16 0),o_ 18 (a_ 17 3),y_ 19 18,v_ 20 4,z_ 21 5 19 20,o_ 22 (a_ 21 2),y_ 23 22,o_ 24 (.bin .add (.t 13) (.t 23)),v_ 2 24])))
 (.reg [j_ 25 9,v_ 9 25]))))
def mf122:SF:=⟨41,[],
 (.seq (.reg [o_ 1 (.box (.t 0) 9)])
 (.seq (.reg [o_ 2 (.mov (i_ 0))])
 (.seq (.seq (.reg [o_ 5 (a_ 1 1),o_ 6 (a_ 5 1),y_ 7 6,o_ 8 (n_ 7),o_ 9 (.mov (i_ 0))])
 (.blk 0 (.loop [1,2,7,8,9] L122_0)))
 (.drawE [o_ 26 (w_ 1 9),v_ 27 2,o_ 28 (a_ 1 0),y_ 29 28,o_ 30 (.nilck (.t 29)),o_ 31 (a_ 30 0),o_ 32 (a_ 31 2),y_ 33 32,o_ 34 (a_ 1 7),y_ 35 34,z_ 36 5 33 35,o_ 37 (a_ 36 2),y_ 38 37,o_ 39 (.bin .leq (.t 27) (.t 38))] (some 40) (f_ 167) [(.t 26),(.t 39),(i_ 6)] [[],[],[],[2],[3,2],[4,3,2],[5,4,3,2],[6,5,4,3,2],[],[8],[7,6,5,4,3,2,9,8],[10,7,6,5,4,3,2,9,8],[11,10,7,6,5,4,3,2,9,8],[1,12,11,10,7,6,5,4,3,2,9,8],[0,13,1,12,11,10,7,6,5,4,3,2,9,8]]))))⟩
def mf123:SF:=⟨5,[(.t 2)],
 (.seq (.reg [o_ 2 (b_ false)])
 (.seq (.reg [v_ 3 0,c_ 4 124 [(.t 3),(f_ 168)],v_ 2 4])
 .ret))⟩
def L124_0:SC:=(.seq (.reg [o_ 10 (.bin .lss (.t 9) (.t 8))])
 (.seq (.cond (.t 10) .skip
 (.exit 0))
 (.seq (.blk 1 (.seq (.reg [v_ 11 9,z_ 12 1 7 9,y_ 13 12,v_ 5 11,v_ 6 13])
 (.seq (.reg [v_ 14 1,v_ 15 5,v_ 16 6,.call (some 17) none (.t 14) [(.t 15),(.t 16)],o_ 18 (.un .not (.t 17))])
 (.cond (.t 18) (.seq (.reg [o_ 4 (b_ false)])
 .ret)
 .skip))))
 (.reg [j_ 19 9,v_ 9 19]))))
def mf124:SF:=⟨20,[(.t 4)],
 (.seq (.reg [o_ 4 (b_ false)])
 (.seq (.seq (.reg [v_ 7 0,o_ 8 (n_ 7),o_ 9 (.mov (i_ 0))])
 (.blk 0 (.loop [1,7,8,9] L124_0)))
 (.seq (.reg [o_ 4 (b_ true)])
 .ret)))⟩
def mf125:SF:=⟨7,[(.t 4)],
 (.seq (.reg [o_ 4 (b_ false)])
 (.seq (.reg [v_ 5 1,c_ 6 67 [(.t 5),(i_ 0),(i_ 10000)],v_ 4 6])
 .ret))⟩
def L126_0:SC:=(.seq (.reg [o_ 9 (.bin .lss (.t 8) (.t 7))])
 (.seq (.cond (.t 9) .skip
 (.exit 0))
 (.seq (.blk 1 (.seq (.reg [z_ 10 1 6 8,y_ 11 10,v_ 5 11])
 (.reg [v_ 12 3,v_ 13 5,o_ 14 (.bin .add (.t 12) (.t 13)),v_ 3 14])))
 (.reg [j_ 15 8,v_ 8 15]))))
def mf126:SF:=⟨17,[(.t 2)],
 (.seq (.reg [o_ 2 (.mov (i_ 0))])
 (.seq (.reg [o_ 3 (.mov (i_ 0))])
 (.seq (.seq (.reg [v_ 6 0,o_ 7 (n_ 6),o_ 8 (.mov (i_ 0))])
 (.blk 0 (.loop [3,6,7,8] L126_0)))
 (.seq (.reg [v_ 16 3,v_ 2 16])
 .ret))))⟩
def L136_0:SC:=(.seq (.reg [o_ 10 (.bin .lss (.t 9) (.t 8))])
 (.seq (.cond (.t 10) .skip
 (.exit 0))
 (.seq (.blk 1 (.seq (.reg [v_ 11 9,z_ 12 2 7 9,o_ 13 (w_ 12 2),o_ 6 (.alloc [.nilS,(.int .i64 0)]),v_ 5 11,s_ 6 13 2])
 (.seq (.reg [v_ 14 1,v_ 15 5,o_ 16 (w_ 6 2),.call (some 17) none (.t 14) [(.t 15),(.t 16)],o_ 18 (.un .not (.t 17))])
 (.cond (.t 18) (.seq (.reg [o_ 4 (b_ false)])
 .ret)
 .skip))))
 (.reg [j_ 19 9,v_ 9 19]))))
def mf136:SF:=⟨20,[(.t 4)],
 (.seq (.reg [o_ 4 (b_ false)])
 (.seq (.seq (.reg [v_ 7 0,o_ 8 (n_ 7),o_ 9 (.mov (i_ 0))])
 (.blk 0 (.loop [1,7,8,9] L136_0)))
 (.seq (.reg [o_ 4 (b_ true)])
 .ret)))⟩
def mf137:SF:=⟨20,[(.t 4)],
 (.seq (.reg [o_ 3 (.box (.t 1) 2),o_ 4 (b_ false)])
 (.seq (.reg [o_ 5 (a_ 3 0),y_ 6 5,o_ 7 (n_ 6),o_ 8 (.bin .leq (.t 7) (i_ 10)),v_ 9 8,q_ 10 9 true (a_ 3 1),q_ 11 9 true (l_ 10),d_ 12 9 true 61 [(.t 11),(i_ 0),(i_ 300)],o_ 13 (p_ 9 12),v_ 14 13,q_ 15 14 true (a_ 3 0),q_ 16 14 true (l_ 15),q_ 17 14 true (.mkfn (.func 139) [] [(.t 3)]),d_ 18 14 true 138 [(.t 16),(.t 17)],o_ 19 (p_ 14 18),v_ 4 19])
 .ret))⟩
def L138_0:SC:=(.seq (.reg [o_ 10 (.bin .lss (.t 9) (.t 8))])
 (.seq (.cond (.t 10) .skip
 (.exit 0))
 (.seq (.blk 1 (.seq (.reg [v_ 11 9,z_ 12 2 7 9,o_ 13 (w_ 12 2),o_ 6 (.alloc [(.int .i64 0),(.int .i64 0)]),v_ 5 11,s_ 6 13 2])
 (.seq (.reg [v_ 14 1,v_ 15 5,o_ 16 (w_ 6 2),.call (some 17) none (.t 14) [(.t 15),(.t 16)],o_ 18 (.un .not (.t 17))])
 (.cond (.t 18) (.seq (.reg [o_ 4 (b_ false)])
 .ret)
 .skip))))
 (.reg [j_ 19 9,v_ 9 19]))))
def mf138:SF:=⟨20,[(.t 4)],
 (.seq (.reg [o_ 4 (b_ false)])
 (.seq (.seq (.reg [v_ 7 0,o_ 8 (n_ 7),o_ 9 (.mov (i_ 0))])
 (.blk 0 (.loop [1,7,8,9] L138_0)))
 (.seq (.reg [o_ 4 (b_ true)])
 .ret)))⟩
def mf139:SF:=⟨25,[(.t 5)],
 (.seq (.reg [o_ 4 (.box (.t 1) 2),o_ 5 (b_ false)])
 (.seq (.draw [true] [o_ 6 (w_ 4 2),c_ 7 140 [(.t 6),(i_ 1440)],v_ 8 7,q_ 9 8 true (m_ 0),q_ 10 8 true (.bin .eql (.t 9) (i_ 0)),q_ 11 8 true (m_ 10),q_ 12 11 false (a_ 4 0),q_ 13 11 false (l_ 12),q_ 14 11 false (a_ 2 0),q_ 15 11 false (l_ 14),q_ 16 11 false (m_ 0),q_ 17 11 false (.bin .sub (.t 16) (i_ 1)),q_ 18 11 false (x_ 2 15 17),q_ 19 11 false (a_ 18 1),q_ 20 11 false (l_ 19),q_ 21 11 false (.bin .add (.t 20) (i_ 1)),q_ 22 11 false (.bin .gtr (.t 13) (.t 21)),q_ 23 8 true (r_ 11 22),o_ 24 (p_ 8 23),v_ 5 24] [[],[0],[1,0],[2,1,0],[3,2,1,0],[4,3,2,1,0],[5,4,3,2,1,0],[6,5,4,3,2,1,0],[5,4,3,2,1,0],[8,5,4,3,2,1,0],[5,4,3,2,1,0],[10,5,4,3,2,1,0],[9,8,5,4,3,2,1,0,11,10],[12,9,8,5,4,3,2,1,0,11,10],[13,12,9,8,5,4,3,2,1,0,11,10],[14,13,12,9,8,5,4,3,2,1,0,11,10],[7,6,5,4,3,2,1,0,15,14,13,12,9,8,11,10],[5,4,3,2,1,0,16,7,6,15,14,13,12,9,8,11,10],[2,1,0,17,5,4,3,16,7,6,15,14,13,12,9,8,11,10],[18,2,1,0,17,5,4,3,16,7,6,15,14,13,12,9,8,11,10]])
 .ret))⟩
def mf140:SF:=⟨21,[(.t 4)],
 (.seq (.reg [o_ 2 (.box (.t 0) 2),o_ 4 (b_ false)])
 (.seq (.reg [o_ 5 (a_ 2 0),y_ 6 5,o_ 7 (.bin .geq (.t 6) (i_ 0)),v_ 8 7,q_ 9 8 true (a_ 2 0),q_ 10 8 true (l_ 9),q_ 11 8 true (a_ 2 1),q_ 12 8 true (l_ 11),q_ 13 8 true (.bin .leq (.t 10) (.t 12)),o_ 14 (p_ 8 13),v_ 15 14,q_ 16 15 true (a_ 2 1),q_ 17 15 true (l_ 16),q_ 18 15 true (m_ 1),q_ 19 15 true (.bin .leq (.t 17) (.t 18)),o_ 20 (p_ 15 19),v_ 4 20])
 .ret))⟩
def mf141:SF:=⟨7,[(.t 4)],
 (.seq (.reg [o_ 3 (.box (.t 1) 2),o_ 4 (b_ false)])
 (.seq (.reg [o_ 5 (w_ 3 2),c_ 6 140 [(.t 5),(i_ 300)],v_ 4 6])
 .ret))⟩
def L142_0:SC:=(.seq (.reg [o_ 11 (.bin .lss (.t 10) (.t 9))])
 (.seq (.cond (.t 11) .skip
 (.exit 0))
 (.seq (.blk 1 (.seq (.reg [z_ 12 2 8 10,o_ 13 (w_ 12 2),o_ 6 (.alloc [(.int .i64 0),(.int .i64 0)]),s_ 6 13 2])
 (.seq (.reg [v_ 14 1,o_ 15 (a_ 6 0),y_ 16 15,o_ 17 (a_ 6 1),y_ 18 17,c_ 19 61 [(.t 14),(.t 16),(.t 18)]])
 (.cond (.t 19) (.seq (.reg [o_ 4 (b_ true)])
 .ret)
 .skip))))
 (.reg [j_ 20 10,v_ 10 20]))))
def mf142:SF:=⟨21,[(.t 4)],
 (.seq (.reg [o_ 2 (.box (.t 0) 2),o_ 4 (b_ false)])
 (.seq (.seq (.reg [o_ 7 (a_ 2 0),y_ 8 7,o_ 9 (n_ 8),o_ 10 (.mov (i_ 0))])
 (.blk 0 (.loop [1,8,9,10] L142_0)))
 (.seq (.reg [o_ 4 (b_ false)])
 .ret)))⟩
def L143_0:SC:=(.seq (.seq (.reg [v_ 18 10,o_ 19 (a_ 4 1),y_ 20 19,y_ 21 6,z_ 22 2 20 21,o_ 23 (a_ 22 1),y_ 24 23,o_ 25 (.bin .leq (.t 18) (.t 24))])
 (.cond (.t 25) .skip
 (.exit 0)))
 (.seq (.blk 1 (.seq (.reg [v_ 28 9,v_ 29 3,v_ 30 10,o_ 31 (.bin .add (.t 29) (.t 30)),.call (some 32) none (.t 28) [(.t 31)],o_ 33 (.un .not (.t 32))])
 (.cond (.t 33) (.seq (.reg [v_ 34 10,v_ 8 34])
 .ret)
 .skip)))
 (.reg [v_ 26 10,j_ 27 26,v_ 10 27])))
def mf143:SF:=⟨35,[(.t 8)],
 (.seq (.reg [o_ 4 (.box (.t 0) 2),o_ 5 (.box (.t 1) 1),o_ 6 (.box (.t 2) 1),o_ 8 (.mov (i_ 0))])
 (.seq (.reg [o_ 11 (.mkfn (.func 172) [] [(.t 4),(.t 6),(.t 5)]),v_ 9 11])
 (.seq (.seq (.reg [o_ 12 (a_ 4 1),y_ 13 12,y_ 14 6,z_ 15 2 13 14,o_ 16 (a_ 15 0),y_ 17 16,v_ 10 17])
 (.blk 0 (.loop [3,4,6,9,10] L143_0)))
 (.seq (.reg [o_ 8 (.mov (i_ (-1)))])
 .ret))))⟩
def L144_0:SC:=(.seq (.reg [o_ 10 (.bin .lss (.t 9) (.t 8))])
 (.seq (.cond (.t 10) .skip
 (.exit 0))
 (.seq (.blk 1 (.seq (.reg [z_ 11 7 7 9,o_ 12 (w_ 11 7),o_ 6 (.alloc [.nilS,(.bool false),(.int .i64 0),(.int .i64 0),(.int .i64 0),(.int .i64 0),(.int .i64 0)]),s_ 6 12 7])
 (.seq (.reg [v_ 13 1,o_ 14 (w_ 6 7),.call (some 15) none (.t 13) [(.t 14)],o_ 16 (.un .not (.t 15))])
 (.cond (.t 16) (.seq (.reg [o_ 4 (b_ false)])
 .ret)
 .skip))))
 (.reg [j_ 17 9,v_ 9 17]))))
def mf144:SF:=⟨18,[(.t 4)],
 (.seq (.reg [o_ 4 (b_ false)])
 (.seq (.seq (.reg [v_ 7 0,o_ 8 (n_ 7),o_ 9 (.mov (i_ 0))])
 (.blk 0 (.loop [1,7,8,9] L144_0)))
 (.seq (.reg [o_ 4 (b_ true)])
 .ret)))⟩
def mf145:SF:=⟨24,[(.t 3)],
 (.seq (.reg [o_ 2 (.box (.t 0) 7),o_ 3 (b_ false)])
 (.seq (.reg [o_ 4 (a_ 2 0),y_ 5 4,y_ 6 1,c_ 7 146 [(.t 5),(.t 6)],v_ 8 7,q_ 9 8 true (a_ 2 2),q_ 10 8 true (l_ 9),q_ 11 8 true (.bslice 1 [(.int .i64 0)] 1 [(0,1,(.t 10))]),d_ 12 8 true 147 [(.t 11)],o_ 13 (p_ 8 12),v_ 14 13,q_ 15 14 true (a_ 2 3),q_ 16 14 true (w_ 15 2),d_ 17 14 true 148 [(.t 16),(i_ 0),(i_ 20000)],o_ 18 (p_ 14 17),v_ 19 18,q_ 20 19 true (a_ 2 5),q_ 21 19 true (w_ 20 2),d_ 22 19 true 148 [(.t 21),(i_ 0),(i_ 20000)],o_ 23 (p_ 19 22),v_ 3 23])
 .ret))⟩
def mf146:SF:=⟨13,[(.t 4)],
 (.seq (.reg [o_ 3 (.box (.t 1) 1),o_ 4 (b_ false)])
 (.seq (.reg [v_ 5 0,o_ 6 (n_ 5),o_ 7 (.bin .leq (.t 6) (i_ 12)),v_ 8 7,q_ 9 8 true (m_ 0),q_ 10 8 true (.mkfn (.func 175) [] [(.t 3)]),d_ 11 8 true 174 [(.t 9),(.t 10)],o_ 12 (p_ 8 11),v_ 4 12])
 .ret))⟩
def mf147:SF:=⟨5,[(.t 2)],
 (.seq (.reg [o_ 2 (b_ false)])
 (.seq (.reg [v_ 3 0,c_ 4 176 [(.t 3),(f_ 177)],v_ 2 4])
 .ret))⟩
def mf148:SF:=⟨24,[(.t 6)],
 (.seq (.reg [o_ 3 (.box (.t 0) 2),o_ 6 (b_ false)])
 (.seq (.reg [o_ 7 (a_ 3 0),y_ 8 7,v_ 9 1,o_ 10 (.bin .geq (.t 8) (.t 9)),v_ 11 10,q_ 12 11 true (a_ 3 0),q_ 13 11 true (l_ 12),q_ 14 11 true (a_ 3 1),q_ 15 11 true (l_ 14),q_ 16 11 true (.bin .leq (.t 13) (.t 15)),o_ 17 (p_ 11 16),v_ 18 17,q_ 19 18 true (a_ 3 1),q_ 20 18 true (l_ 19),q_ 21 18 true (m_ 2),q_ 22 18 true (.bin .leq (.t 20) (.t 21)),o_ 23 (p_ 18 22),v_ 6 23])
 .ret))⟩
def L149_0:SC:=(.seq (.reg [o_ 10 (.bin .lss (.t 9) (.t 8))])
 (.seq (.cond (.t 10) .skip
 (.exit 0))
 (.seq (.blk 1 (.seq (.reg [z_ 11 2 7 9,o_ 12 (w_ 11 2),o_ 6 (.alloc [(.int .i64 0),(.int .i64 0)]),s_ 6 12 2])
 (.seq (.reg [v_ 13 1,o_ 14 (w_ 6 2),.call (some 15) none (.t 13) [(.t 14)],o_ 16 (.un .not (.t 15))])
 (.cond (.t 16) (.seq (.reg [o_ 4 (b_ false)])
 .ret)
 .skip))))
 (.reg [j_ 17 9,v_ 9 17]))))
def mf149:SF:=⟨18,[(.t 4)],
 (.seq (.reg [o_ 4 (b_ false)])
 (.seq (.seq (.reg [v_ 7 0,o_ 8 (n_ 7),o_ 9 (.mov (i_ 0))])
 (.blk 0 (.loop [1,7,8,9] L149_0)))
 (.seq (.reg [o_ 4 (b_ true)])
 .ret)))⟩
def mf150:SF:=⟨12,[(.t 2)],
 (.seq (.reg [o_ 1 (.box (.t 0) 2),o_ 2 (b_ false)])
 (.seq (.reg [o_ 3 (a_ 1 0),y_ 4 3,o_ 5 (.bslice 1 [(.int .i64 0)] 1 [(0,1,(.t 4))]),c_ 6 147 [(.t 5)],v_ 7 6,q_ 8 7 true (a_ 1 1),q_ 9 7 true (l_ 8),d_ 10 7 true 151 [(.t 9),(i_ (-20000000)),(i_ 20000000)],o_ 11 (p_ 7 10),v_ 2 11])
 .ret))⟩
def mf151:SF:=⟨15,[(.t 6)],
 (.seq (.reg [o_ 6 (b_ false)])
 (.seq (.reg [v_ 7 0,v_ 8 1,o_ 9 (.bin .geq (.t 7) (.t 8)),v_ 10 9,q_ 11 10 true (m_ 0),q_ 12 10 true (m_ 2),q_ 13 10 true (.bin .leq (.t 11) (.t 12)),o_ 14 (p_ 10 13),v_ 6 14])
 .ret))⟩
def L152_0:SC:=(.seq (.reg [o_ 10 (.bin .lss (.t 9) (.t 8))])
 (.seq (.cond (.t 10) .skip
 (.exit 0))
 (.seq (.blk 1 (.seq (.reg [z_ 11 2 7 9,o_ 12 (w_ 11 2),o_ 6 (.alloc [(.int .i64 0),(.int .i64 0)]),s_ 6 12 2])
 (.seq (.reg [v_ 13 1,o_ 14 (w_ 6 2),.call (some 15) none (.t 13) [(.t 14)],o_ 16 (.un .not (.t 15))])
 (.cond (.t 16) (.seq (.reg [o_ 4 (b_ false)])
 .ret)
 .skip))))
 (.reg [j_ 17 9,v_ 9 17]))))
def mf152:SF:=⟨18,[(.t 4)],
 (.seq (.reg [o_ 4 (b_ false)])
 (.seq (.seq (.reg [v_ 7 0,o_ 8 (n_ 7),o_ 9 (.mov (i_ 0))])
 (.blk 0 (.loop [1,7,8,9] L152_0)))
 (.seq (.reg [o_ 4 (b_ true)])
 .ret)))⟩
def mf153:SF:=⟨11,[(.t 2)],
 (.seq (.reg [o_ 1 (.box (.t 0) 2),o_ 2 (b_ false)])
 (.seq (.reg [o_ 3 (a_ 1 0),y_ 4 3,c_ 5 151 [(.t 4),(i_ (-1000)),(i_ 1000)],v_ 6 5,q_ 7 6 true (a_ 1 1),q_ 8 6 true (l_ 7),d_ 9 6 true 151 [(.t 8),(i_ 0),(i_ 20000)],o_ 10 (p_ 6 9),v_ 2 10])
 .ret))⟩
def L154_0:SC:=(.seq (.reg [o_ 14 (.bin .lss (.t 13) (.t 12))])
 (.seq (.cond (.t 14) .skip
 (.exit 2))
 (.seq (.blk 3 (.seq (.reg [v_ 15 13,z_ 16 2 11 13,o_ 17 (w_ 16 2),o_ 5 (.alloc [(.int .i64 0),(.int .i64 0)]),v_ 4 15,s_ 5 17 2])
 (.seq (.reg [v_ 18 4,o_ 19 (a_ 3 0),y_ 20 19,o_ 21 (.bin .neq (.t 18) (.t 20)),v_ 22 21,q_ 23 22 true (m_ 4),q_ 24 22 true (a_ 3 0),q_ 25 22 true (l_ 24),q_ 26 22 true (.bin .add (.t 25) (i_ 1)),q_ 27 22 true (a_ 1 0),q_ 28 22 true (a_ 27 4),q_ 29 22 true (l_ 28),q_ 30 22 true (n_ 29),q_ 31 22 true (.bin .rem (.t 26) (.t 30)),q_ 32 22 true (.bin .neq (.t 23) (.t 31)),o_ 33 (p_ 22 32),v_ 34 33,q_ 35 34 true (w_ 3 5),q_ 36 34 true (a_ 5 0),q_ 37 34 true (l_ 36),q_ 38 34 true (a_ 5 1),q_ 39 34 true (l_ 38),d_ 40 34 true 179 [(.t 35),(.t 37),(.t 39)],q_ 41 34 true (.bin .leq (.t 40) (i_ 0)),o_ 42 (p_ 34 41)])
 (.cond (.t 42) (.seq (.reg [.op none none (.store (.t 2) (.k (.bool false)) 1)])
 .ret)
 .skip))))
 (.reg [j_ 43 13,v_ 13 43]))))
def aAI:SC:=(.reg [o_ 3 (.alloc [(.int .i64 0),(.int .i64 0),(.int .i64 0),(.int .i64 0),(.int .i64 0)]),s_ 3 8 5])
def R154_1b:SC:=(.blk 1 (.seq (.reg [o_ 9 (a_ 1 0),o_ 10 (a_ 9 4),y_ 11 10,o_ 12 (n_ 11),o_ 13 (.mov (i_ 0))])
 (.blk 2 (.loop [1,2,3,11,12,13] L154_0))))
def mf154:SF:=⟨44,[(.c 2 none)],
 (.seq (.reg [o_ 1 (.box (.t 0) 10),o_ 2 (.alloc [(.bool false)])])
 (.seq (.seq (.reg [o_ 6 (w_ 1 10),c_ 7 178 [(.t 6)]])
 (.blk 0 (.rng (.t 7) #[8] (bP (cL 154) [1,0,1,0,0]) (bP (cL 154) [1,0,1,0,1]) aAI R154_1b)))
 (.seq (.reg [.op none none (.store (.t 2) (.k (.bool true)) 1)])
 .ret)))⟩
def L155_0:SC:=(.seq (.reg [o_ 22 (.bin .lss (.t 21) (.t 20))])
 (.seq (.cond (.t 22) .skip
 (.exit 0))
 (.seq (.blk 1 (.reg [o_ 23 (a_ 8 3),y_ 24 23,o_ 25 (w_ 4 2),o_ 26 (.bslice 2 [(.int .i64 0),(.int .i64 0)] 1 [(0,2,(.t 25))]),o_ 27 (.app 2 [(.int .i64 0),(.int .i64 0)] 16 (.t 24) (.t 26)),o_ 28 (a_ 8 3),s_ 28 27 1]))
 (.reg [j_ 29 21,v_ 21 29]))))
def mf155:SF:=⟨34,[],
 (.seq (.reg [o_ 6 (.box (.t 0) 7)])
 (.seq (.reg [o_ 9 (w_ 2 2),v_ 10 1,o_ 11 (.build [.nilS,(.int .i64 0),(.int .i64 0),.nilS,(.bool false)] [(1,2,(.t 9)),(4,1,(.t 10))]),o_ 8 (.alloc [.nilS,(.int .i64 0),(.int .i64 0),.nilS,(.bool false)]),s_ 8 11 5])
 (.seq (.reg [o_ 12 (a_ 8 0),y_ 13 12,o_ 14 (a_ 6 0),y_ 15 14,o_ 16 (.app 3 [(.int .i64 0),(.int .i64 0),(.int .i64 0)] 24 (.t 13) (.t 15)),o_ 17 (a_ 8 0),s_ 17 16 1])
 (.seq (.seq (.reg [o_ 18 (a_ 3 9),y_ 19 18,o_ 20 (n_ 19),o_ 21 (.mov (i_ 0))])
 (.blk 0 (.loop [4,5,8,20,21] L155_0)))
 (.reg [y_ 30 5,o_ 31 (w_ 8 5),o_ 32 (.bslice 5 [.nilS,(.int .i64 0),(.int .i64 0),.nilS,(.bool false)] 1 [(0,5,(.t 31))]),o_ 33 (.app 5 [.nilS,(.int .i64 0),(.int .i64 0),.nilS,(.bool false)] 72 (.t 30) (.t 32)),s_ 5 33 1])))))⟩
def L156_0:SC:=(.seq (.reg [o_ 15 (.bin .lss (.t 14) (.t 13))])
 (.seq (.cond (.t 15) .skip
 (.exit 0))
 (.seq (.blk 1 (.seq (.reg [z_ 16 3 12 14,o_ 17 (w_ 16 3),o_ 5 (.alloc [(.int .i64 0),(.int .i64 0),(.int .i64 0)]),s_ 5 17 3])
 (.reg [v_ 18 3,o_ 19 (a_ 5 0),y_ 20 19,o_ 21 (.look (false,[true]) (.int .i64 0) false (.t 18) (.t 20)),o_ 22 (a_ 5 1),o_ 23 (a_ 22 1),y_ 24 23,o_ 25 (.bin .add (.t 21) (.t 24)),.op none none (.mput (false,[true]) (.t 18) (.t 20) (.t 25))])))
 (.reg [j_ 26 14,v_ 14 26]))))
def L156_1:SC:=(.seq (.reg [o_ 33 (.bin .lss (.t 32) (.t 31))])
 (.seq (.cond (.t 33) .skip
 (.exit 2))
 (.seq (.blk 3 (.seq (.reg [v_ 34 32,z_ 35 2 30 32,o_ 36 (w_ 35 2),o_ 8 (.alloc [(.int .i64 0),(.int .i64 0)]),v_ 7 34,s_ 8 36 2])
 (.reg [v_ 37 6,v_ 38 3,v_ 39 7,o_ 40 (.look (false,[true]) (.int .i64 0) false (.t 38) (.t 39)),o_ 41 (a_ 8 1),y_ 42 41,o_ 43 (.bin .gtr (.t 40) (.t 42)),o_ 44 (.bslice 1 [(.bool false)] 1 [(0,1,(.t 43))]),o_ 45 (.app 1 [(.bool false)] 1 (.t 37) (.t 44)),v_ 6 45])))
 (.reg [j_ 46 32,v_ 32 46]))))
def mf156:SF:=⟨48,[(.t 2)],
 (.seq (.reg [o_ 1 (.box (.t 0) 15),o_ 2 (.mov (.k .nilS))])
 (.seq (.reg [o_ 9 .mkmap,v_ 3 9])
 (.seq (.seq (.reg [o_ 10 (a_ 1 10),o_ 11 (a_ 10 0),y_ 12 11,o_ 13 (n_ 12),o_ 14 (.mov (i_ 0))])
 (.blk 0 (.loop [1,3,12,13,14] L156_0)))
 (.seq (.reg [o_ 6 (.mov (.k .nilS))])
 (.seq (.seq (.reg [o_ 27 (a_ 1 0),o_ 28 (a_ 27 0),o_ 29 (a_ 28 5),y_ 30 29,o_ 31 (n_ 30),o_ 32 (.mov (i_ 0))])
 (.blk 2 (.loop [3,6,30,31,32] L156_1)))
 (.seq (.reg [v_ 47 6,v_ 2 47])
 .ret))))))⟩
def mf157:SF:=⟨14,[(.t 2)],
 (.seq (.reg [o_ 1 (.box (.t 0) 15),o_ 2 (.mov (.k .nilS))])
 (.seq (.reg [o_ 3 (a_ 1 10),o_ 4 (a_ 3 1),o_ 5 (a_ 4 1),y_ 6 5,o_ 7 (a_ 1 0),o_ 8 (a_ 7 0),o_ 9 (a_ 8 6),o_ 10 (a_ 9 1),y_ 11 10,o_ 12 (.bin .gtr (.t 6) (.t 11)),o_ 13 (.bslice 1 [(.bool false)] 1 [(0,1,(.t 12))]),v_ 2 13])
 .ret))⟩
def L158_0:SC:=(.seq (.reg [o_ 11 (.bin .lss (.t 10) (.t 9))])
 (.seq (.cond (.t 11) .skip
 (.exit 0))
 (.seq (.blk 1 (.seq (.reg [v_ 12 10,z_ 13 2 8 10,o_ 14 (w_ 13 2),o_ 5 (.alloc [(.int .i64 0),(.int .i64 0)]),v_ 4 12,s_ 5 14 2])
 (.draw [true] [v_ 15 3,o_ 16 (a_ 5 1),y_ 17 16,o_ 18 (a_ 1 0),o_ 19 (a_ 18 0),o_ 20 (a_ 19 9),y_ 21 20,v_ 22 4,z_ 23 2 21 22,o_ 24 (a_ 23 1),y_ 25 24,o_ 26 (.bin .gtr (.t 17) (.t 25)),o_ 27 (.bslice 1 [(.bool false)] 1 [(0,1,(.t 26))]),o_ 28 (.app 1 [(.bool false)] 1 (.t 15) (.t 27)),v_ 3 28] [[],[],[1],[],[3],[4,3],[5,4,3],[],[6,5,4,3,7],[8,6,5,4,3,7],[9,8,6,5,4,3,7],[2,1,10,9,8,6,5,4,3,7],[11,2,1,10,9,8,6,5,4,3,7],[0,12,11,2,1,10,9,8,6,5,4,3,7],[13,0,12,11,2,1,10,9,8,6,5,4,3,7]])))
 (.reg [j_ 29 10,v_ 10 29]))))
def mf158:SF:=⟨31,[(.t 2)],
 (.seq (.reg [o_ 1 (.box (.t 0) 15),o_ 2 (.mov (.k .nilS))])
 (.seq (.reg [o_ 3 (.mov (.k .nilS))])
 (.seq (.seq (.reg [o_ 6 (a_ 1 10),o_ 7 (a_ 6 3),y_ 8 7,o_ 9 (n_ 8),o_ 10 (.mov (i_ 0))])
 (.blk 0 (.loop [1,3,8,9,10] L158_0)))
 (.seq (.reg [v_ 30 3,v_ 2 30])
 .ret))))⟩
def D159_0:List MIx:=[o_ 3 (.load (.t 1) (some 15)),.call (some 4) none (f_ 180) [(.t 3)],o_ 5 (.fld (.t 4) 0 (some 2)),o_ 6 (.fld (.t 5) 1 none),o_ 7 (.load (.t 1) (some 15)),.call (some 8) none (f_ 181) [(.t 7)],o_ 9 (.bin .gtr (.t 6) (.t 8)),o_ 10 (.bslice 1 [(.bool false)] 1 [(0,1,(.t 9))]),o_ 2 (m_ 10)]
def B159_0:List (List Nat):=[[],[0],[1,0],[2,1,0],[],[4,1,0],[3,2,1,0,5,4],[6,3,2,1,0,5,4],[7,6,3,2,1,0,5,4]]
def mf159:SF:=⟨11,[(.t 2)],
 (.seq (.reg [o_ 1 (.box (.t 0) 15),o_ 2 (.mov (.k .nilS))])
 (.seq (.draw [] D159_0 B159_0)
 .ret))⟩
def D160_0:List MIx:=[o_ 9 (l_ 3),o_ 10 (.load (.t 1) (some 15)),o_ 11 (.load (.t 4) (some 5)),.call (some 12) none (f_ 182) [(.t 10),(.t 11)],o_ 13 (.bin .lss (.t 12) (i_ 0)),o_ 14 (.bslice 1 [(.bool false)] 1 [(0,1,(.t 13))]),o_ 15 (.app 1 [(.bool false)] 1 (.t 9) (.t 14)),.op none none (.store (.t 3) (.t 15) 1)]
def B160_0:List (List Nat):=[[],[],[],[1,2],[3,1,2],[4,3,1,2],[0,5,4,3,1,2],[6,0,5,4,3,1,2]]
def aAH:SC:=(.reg [o_ 4 (.alloc [(.int .i64 0),(.int .i64 0),(.int .i64 0),(.int .i64 0),(.int .i64 0)]),s_ 4 8 5])
def aAG:SC:=(.blk 1 (.draw [] D160_0 B160_0))
def mf160:SF:=⟨17,[(.t 2)],
 (.seq (.reg [o_ 1 (.box (.t 0) 15),o_ 2 (.mov (.k .nilS))])
 (.seq (.reg [o_ 3 (.alloc [.nilS])])
 (.seq (.seq (.reg [o_ 5 (a_ 1 0),o_ 6 (w_ 5 10),c_ 7 178 [(.t 6)]])
 (.blk 0 (.rng (.t 7) #[8] (bP (cL 160) [1,1,0,1,0,0]) (bP (cL 160) [1,1,0,1,0,1]) aAH aAG)))
 (.seq (.reg [y_ 16 3,v_ 2 16])
 .ret))))⟩
def mf161:SF:=⟨18,[(.t 2)],
 (.seq (.reg [o_ 1 (.box (.t 0) 15),o_ 2 (.mov (.k .nilS))])
 (.seq (.reg [o_ 3 (a_ 1 10),o_ 4 (a_ 3 4),y_ 5 4,v_ 6 5,q_ 7 6 true (a_ 1 10),q_ 8 6 true (a_ 7 1),q_ 9 6 true (a_ 8 0),q_ 10 6 true (l_ 9),q_ 11 6 true (a_ 1 0),q_ 12 6 true (a_ 11 0),q_ 13 6 true (a_ 12 8),q_ 14 6 true (l_ 13),q_ 15 6 true (.bin .lss (.t 10) (.t 14)),o_ 16 (p_ 6 15),o_ 17 (.bslice 1 [(.bool false)] 1 [(0,1,(.t 16))]),v_ 2 17])
 .ret))⟩
def L162_0:SC:=(.seq (.reg [o_ 9 (.bin .lss (.t 8) (.t 7))])
 (.seq (.cond (.t 9) .skip
 (.exit 0))
 (.seq (.blk 1 (.seq (.reg [v_ 10 8,v_ 5 10])
 (.seq (.reg [v_ 11 1,v_ 12 0,v_ 13 5,z_ 14 2 12 13,o_ 15 (w_ 14 2),.call (some 16) none (.t 11) [(.t 15)]])
 (.cond (.t 16) (.seq (.reg [v_ 17 5,v_ 4 17])
 .ret)
 .skip))))
 (.reg [j_ 18 8,v_ 8 18]))))
def mf162:SF:=⟨19,[(.t 4)],
 (.seq (.reg [o_ 4 (.mov (i_ 0))])
 (.seq (.seq (.reg [v_ 6 0,o_ 7 (n_ 6),o_ 8 (.mov (i_ 0))])
 (.blk 0 (.loop [0,1,7,8] L162_0)))
 (.seq (.reg [o_ 4 (.mov (i_ (-1)))])
 .ret)))⟩
def L163_0:SC:=(.seq (.reg [o_ 9 (.bin .lss (.t 8) (.t 7))])
 (.seq (.cond (.t 9) .skip
 (.exit 0))
 (.seq (.blk 1 (.seq (.reg [v_ 10 8,v_ 5 10])
 (.seq (.reg [v_ 11 1,v_ 12 0,v_ 13 5,z_ 14 2 12 13,o_ 15 (w_ 14 2),.call (some 16) none (.t 11) [(.t 15)]])
 (.cond (.t 16) (.seq (.reg [v_ 17 5,v_ 4 17])
 .ret)
 .skip))))
 (.reg [j_ 18 8,v_ 8 18]))))
def mf163:SF:=⟨19,[(.t 4)],
 (.seq (.reg [o_ 4 (.mov (i_ 0))])
 (.seq (.seq (.reg [v_ 6 0,o_ 7 (n_ 6),o_ 8 (.mov (i_ 0))])
 (.blk 0 (.loop [0,1,7,8] L163_0)))
 (.seq (.reg [o_ 4 (.mov (i_ (-1)))])
 .ret)))⟩
def aFh:List MIx:=[o_ 63 (l_ 9),o_ 64 (l_ 4),o_ 65 (.nilck (.t 64)),o_ 66 (.addr (.t 65) 0),o_ 67 (.addr (.t 66) 2),o_ 68 (l_ 67),o_ 69 (l_ 3),o_ 70 (.idxs 5 (.t 68) (.t 69)),o_ 71 (.addr (.t 70) 2),o_ 72 (l_ 71),o_ 73 (l_ 1),.call (some 74) none (.t 63) [(.k .nilS),(i_ 0),(.t 72),(.t 73)],o_ 75 (.un .not (.t 74))]
def aPl:List (List Nat):=[[],[],[1],[2,1],[3,2,1],[4,3,2,1],[],[5,4,3,2,1,6],[7,5,4,3,2,1,6],[8,7,5,4,3,2,1,6],[],[0,9,8,7,5,4,3,2,1,6,10],[11,0,9,8,7,5,4,3,2,1,6,10]]
def L164_0:SC:=(.seq (.reg [o_ 27 (.bin .lss (.t 26) (.t 25))])
 (.seq (.cond (.t 27) .skip
 (.exit 0))
 (.seq (.blk 1 (.seq (.reg [v_ 28 26,o_ 8 (.alloc [(.int .i64 0)]),s_ 8 28 1])
 (.seq (.seq (.draw [true] [y_ 29 4,y_ 30 7,y_ 31 8,c_ 32 165 [(.t 29),(.t 30),(.t 31)],o_ 33 (.un .not (.t 32)),v_ 34 33,q_ 35 34 false (l_ 5),q_ 36 34 false (l_ 7),q_ 37 34 false (.bin .shr (.t 35) (.t 36)),q_ 38 34 false (l_ 5),q_ 39 34 false (l_ 8),q_ 40 34 false (.bin .shr (.t 38) (.t 39)),q_ 41 34 false (.bin .and (.t 37) (.t 40)),q_ 42 34 false (.bin .and (.t 41) (i_ 1)),q_ 43 34 false (.bin .eql (.t 42) (i_ 0)),o_ 44 (r_ 34 43),v_ 45 44,q_ 46 45 false (a_ 2 1),q_ 47 45 false (l_ 46),q_ 48 45 false (l_ 3),q_ 49 45 false (x_ 1 47 48),q_ 50 45 false (l_ 49),q_ 51 45 false (l_ 4),q_ 52 45 false (.nilck (.t 51)),q_ 53 45 false (a_ 52 0),q_ 54 45 false (a_ 53 2),q_ 55 45 false (l_ 54),q_ 56 45 false (l_ 3),q_ 57 45 false (x_ 5 55 56),q_ 58 45 false (a_ 57 3),q_ 59 45 false (l_ 58),q_ 60 45 false (.bin .geq (.t 50) (.t 59)),o_ 61 (r_ 45 60)] [[],[],[],[0,1,2],[3,0,1,2],[4,3,0,1,2],[5,4,3,0,1,2],[5,4,3,0,1,2],[6,5,4,3,0,1,2,7],[5,4,3,0,1,2],[5,4,3,0,1,2],[9,5,4,3,0,1,2,10],[8,6,5,4,3,0,1,2,7,11,9,10],[12,8,6,5,4,3,0,1,2,7,11,9,10],[13,12,8,6,5,4,3,0,1,2,7,11,9,10],[5,4,3,0,1,2,14,13,12,8,6,7,11,9,10],[15,5,4,3,0,1,2,14,13,12,8,6,7,11,9,10],[16,15,5,4,3,0,1,2,14,13,12,8,6,7,11,9,10],[17,16,15,5,4,3,0,1,2,14,13,12,8,6,7,11,9,10],[16,15,5,4,3,0,1,2,14,13,12,8,6,7,11,9,10],[18,17,16,15,5,4,3,0,1,2,14,13,12,8,6,7,11,9,10,19],[20,18,17,16,15,5,4,3,0,1,2,14,13,12,8,6,7,11,9,10,19],[16,15,5,4,3,0,1,2,14,13,12,8,6,7,11,9,10],[22,16,15,5,4,3,0,1,2,14,13,12,8,6,7,11,9,10],[23,22,16,15,5,4,3,0,1,2,14,13,12,8,6,7,11,9,10],[24,23,22,16,15,5,4,3,0,1,2,14,13,12,8,6,7,11,9,10],[25,24,23,22,16,15,5,4,3,0,1,2,14,13,12,8,6,7,11,9,10],[16,15,5,4,3,0,1,2,14,13,12,8,6,7,11,9,10],[26,25,24,23,22,16,15,5,4,3,0,1,2,14,13,12,8,6,7,11,9,10,27],[28,26,25,24,23,22,16,15,5,4,3,0,1,2,14,13,12,8,6,7,11,9,10,27],[29,28,26,25,24,23,22,16,15,5,4,3,0,1,2,14,13,12,8,6,7,11,9,10,27],[21,20,18,17,16,15,5,4,3,0,1,2,14,13,12,8,6,7,11,9,10,19,30,29,28,26,25,24,23,22,27],[16,15,5,4,3,0,1,2,14,13,12,8,6,7,11,9,10,31,21,20,18,17,19,30,29,28,26,25,24,23,22,27]])
 (.cond (.t 61) (.exit 1)
 .skip))
 (.seq (.reg [o_ 9 (.alloc [.nilF])])
 (.seq (.reg [o_ 62 (.mkfn (.func 166) [] [(.t 6),(.t 8),(.t 4),(.t 2),(.t 7),(.t 9)]),s_ 9 62 1])
 (.seq (.draw [] aFh aPl)
 (.cond (.t 75) .ret
 .skip)))))))
 (.reg [j_ 76 26,v_ 26 76]))))
def mf164:SF:=⟨77,[],
 (.seq (.reg [o_ 6 (.box (.t 0) 1)])
 (.seq (.seq (.reg [y_ 10 6,o_ 11 (.build [(.int .i64 0),.nilS] [(0,1,(i_ (-1)))]),y_ 12 1,.call (some 13) none (.t 10) [(.t 11),(.t 12)],o_ 14 (.un .not (.t 13))])
 (.cond (.t 14) .ret
 .skip))
 (.seq (.reg [o_ 15 (a_ 2 0),y_ 16 15,y_ 17 3,z_ 18 1 16 17,y_ 19 18,o_ 7 (.alloc [(.int .i64 0)]),s_ 7 19 1])
 (.seq (.reg [y_ 20 4,o_ 21 (.nilck (.t 20)),o_ 22 (a_ 21 0),o_ 23 (a_ 22 0),y_ 24 23,o_ 25 (n_ 24),o_ 26 (.mov (i_ 0))])
 (.blk 0 (.loop [1,2,3,4,5,6,7,25,26] L164_0))))))⟩
def mf165:SF:=⟨27,[(.t 6)],
 (.seq (.reg [o_ 6 (b_ false)])
 (.seq (.reg [v_ 7 0,o_ 8 (.nilck (.t 7)),o_ 9 (a_ 8 0),o_ 10 (a_ 9 1),y_ 11 10,v_ 12 1,v_ 13 2,o_ 14 (.build [(.int .i64 0),(.int .i64 0)] [(0,1,(.t 12)),(1,1,(.t 13))]),c_ 15 183 [(.t 11),(.t 14)],v_ 16 15,q_ 17 16 false (m_ 0),q_ 18 16 false (.nilck (.t 17)),q_ 19 16 false (a_ 18 0),q_ 20 16 false (a_ 19 1),q_ 21 16 false (l_ 20),q_ 22 16 false (m_ 2),q_ 23 16 false (m_ 1),q_ 24 16 false (.build [(.int .i64 0),(.int .i64 0)] [(0,1,(.t 22)),(1,1,(.t 23))]),d_ 25 16 false 183 [(.t 21),(.t 24)],o_ 26 (r_ 16 25),v_ 6 26])
 .ret))⟩
def D166_0:List MIx:=[o_ 61 (l_ 9),o_ 62 (m_ 0),o_ 63 (m_ 0),o_ 64 (.len (.t 63)),o_ 65 (m_ 0),o_ 66 (.len (.t 65)),o_ 67 (.slc 1 (.t 62) none (some (.t 64)) (some (.t 66))),o_ 68 (m_ 15),o_ 69 (.bslice 1 [(.int .i64 0)] 1 [(0,1,(.t 68))]),o_ 70 (.app 1 [(.int .i64 0)] 8 (.t 67) (.t 69)),o_ 71 (m_ 15),o_ 72 (.bin .add (.t 71) (i_ 1)),o_ 73 (m_ 2),o_ 74 (l_ 6),o_ 75 (.nilck (.t 74)),o_ 76 (.addr (.t 75) 0),o_ 77 (.addr (.t 76) 3),o_ 78 (l_ 77),o_ 79 (m_ 15),o_ 80 (.idxs 5 (.t 78) (.t 79)),o_ 81 (.addr (.t 80) 2),o_ 82 (l_ 81),o_ 83 (.bin .sub (.t 73) (.t 82)),o_ 84 (m_ 3),o_ 85 (m_ 15),o_ 86 (.bin .shl (i_ 1) (.t 85)),o_ 87 (.bin .or (.t 84) (.t 86)),.call (some 88) none (.t 61) [(.t 70),(.t 72),(.t 83),(.t 87)],o_ 89 (.un .not (.t 88))]
def B166_0:List (List Nat):=[[],[],[],[2],[],[4],[1,3,2,5,4],[],[7],[6,1,3,2,5,4,8,7],[],[10],[],[],[13],[14,13],[15,14,13],[16,15,14,13],[],[17,16,15,14,13,18],[19,17,16,15,14,13,18],[20,19,17,16,15,14,13,18],[12,21,20,19,17,16,15,14,13,18],[],[],[24],[23,25,24],[0,9,6,1,3,2,5,4,8,7,11,10,22,12,21,20,19,17,16,15,14,13,18,26,23,25,24],[27,0,9,6,1,3,2,5,4,8,7,11,10,22,12,21,20,19,17,16,15,14,13,18,26,23,25,24]]
def L166_0:SC:=(.seq (.seq (.reg [v_ 24 15,y_ 25 6,o_ 26 (.nilck (.t 25)),o_ 27 (a_ 26 0),o_ 28 (a_ 27 3),y_ 29 28,o_ 30 (n_ 29),o_ 31 (.bin .lss (.t 24) (.t 30))])
 (.cond (.t 31) .skip
 (.exit 0)))
 (.seq (.blk 1 (.seq (.seq (.draw [true] [o_ 34 (a_ 7 2),y_ 35 34,v_ 36 15,z_ 37 1 35 36,y_ 38 37,y_ 39 8,o_ 40 (.bin .neq (.t 38) (.t 39)),v_ 41 40,q_ 42 41 false (m_ 3),q_ 43 41 false (m_ 15),q_ 44 41 false (.bin .shr (.t 42) (.t 43)),q_ 45 41 false (.bin .and (.t 44) (i_ 1)),q_ 46 41 false (.bin .eql (.t 45) (i_ 1)),o_ 47 (r_ 41 46),v_ 48 47,q_ 49 48 false (l_ 6),q_ 50 48 false (.nilck (.t 49)),q_ 51 48 false (a_ 50 0),q_ 52 48 false (a_ 51 3),q_ 53 48 false (l_ 52),q_ 54 48 false (m_ 15),q_ 55 48 false (x_ 5 53 54),q_ 56 48 false (a_ 55 2),q_ 57 48 false (l_ 56),q_ 58 48 false (m_ 2),q_ 59 48 false (.bin .gtr (.t 57) (.t 58)),o_ 60 (r_ 48 59)] [[],[0],[],[1,0,2],[3,1,0,2],[],[4,3,1,0,2,5],[6,4,3,1,0,2,5],[7,6,4,3,1,0,2,5],[7,6,4,3,1,0,2,5],[8,7,6,4,3,1,0,2,5,9],[10,8,7,6,4,3,1,0,2,5,9],[11,10,8,7,6,4,3,1,0,2,5,9],[7,6,4,3,1,0,2,5,12,11,10,8,9],[13,7,6,4,3,1,0,2,5,12,11,10,8,9],[14,13,7,6,4,3,1,0,2,5,12,11,10,8,9],[15,14,13,7,6,4,3,1,0,2,5,12,11,10,8,9],[16,15,14,13,7,6,4,3,1,0,2,5,12,11,10,8,9],[17,16,15,14,13,7,6,4,3,1,0,2,5,12,11,10,8,9],[18,17,16,15,14,13,7,6,4,3,1,0,2,5,12,11,10,8,9],[14,13,7,6,4,3,1,0,2,5,12,11,10,8,9],[19,18,17,16,15,14,13,7,6,4,3,1,0,2,5,12,11,10,8,9,20],[21,19,18,17,16,15,14,13,7,6,4,3,1,0,2,5,12,11,10,8,9,20],[22,21,19,18,17,16,15,14,13,7,6,4,3,1,0,2,5,12,11,10,8,9,20],[14,13,7,6,4,3,1,0,2,5,12,11,10,8,9],[23,22,21,19,18,17,16,15,14,13,7,6,4,3,1,0,2,5,12,11,10,8,9,20,24],[14,13,7,6,4,3,1,0,2,5,12,11,10,8,9,25,23,22,21,19,18,17,16,15,20,24]])
 (.cond (.t 60) (.exit 1)
 .skip))
 (.seq (.draw [] D166_0 B166_0)
 (.cond (.t 89) (.seq (.reg [o_ 14 (b_ false)])
 .ret)
 .skip))))
 (.reg [v_ 32 15,j_ 33 32,v_ 15 33])))
def mf166:SF:=⟨90,[(.t 14)],
 (.seq (.reg [o_ 14 (b_ false)])
 (.seq (.seq (.reg [y_ 16 4,y_ 17 5,v_ 18 0,o_ 19 (.build [(.int .i64 0),.nilS] [(0,1,(.t 17)),(1,1,(.t 18))]),v_ 20 3,.call (some 21) none (.t 16) [(.t 19),(.t 20)],o_ 22 (.un .not (.t 21))])
 (.cond (.t 22) (.seq (.reg [o_ 14 (b_ false)])
 .ret)
 .skip))
 (.seq (.seq (.reg [v_ 23 1,v_ 15 23])
 (.blk 0 (.loop [0,2,3,6,7,8,9,15] L166_0)))
 (.seq (.reg [o_ 14 (b_ true)])
 .ret))))⟩
def mf167:SF:=⟨13,[],
 (.seq (.reg [o_ 3 (.box (.t 0) 9)])
 (.seq (.reg [v_ 6 1,o_ 7 (.un .not (.t 6))])
 (.cond (.t 7) (.regP [v_ 8 2,o_ 9 (a_ 3 7),y_ 10 9,o_ 11 (.build [(.int .i64 0),(.int .i64 0)] [(0,1,(.t 8)),(1,1,(.t 10))]),o_ 12 (.mkif 145 (.t 11))] none (.t 12) [])
 .skip)))⟩
def mf168:SF:=⟨7,[(.t 4)],
 (.seq (.reg [o_ 4 (b_ false)])
 (.seq (.reg [v_ 5 1,c_ 6 67 [(.t 5),(i_ 0),(i_ 1000000000)],v_ 4 6])
 .ret))⟩
def mf172:SF:=⟨36,[(.t 5)],
 (.seq (.reg [o_ 5 (b_ false)])
 (.seq (.reg [o_ 7 (a_ 1 0),y_ 8 7,y_ 9 2,j_ 10 9,z_ 11 2 8 10,o_ 12 (w_ 11 2),o_ 6 (.alloc [.nilS,(.int .i64 0)]),s_ 6 12 2])
 (.seq (.draw [true] [o_ 13 (w_ 6 2),v_ 14 0,c_ 15 142 [(.t 13),(.t 14)],v_ 16 15,q_ 17 16 true (l_ 2),q_ 18 16 true (.bin .add (.t 17) (i_ 1)),q_ 19 16 true (a_ 1 1),q_ 20 16 true (l_ 19),q_ 21 16 true (n_ 20),q_ 22 16 true (.bin .eql (.t 18) (.t 21)),q_ 23 16 true (m_ 22),q_ 24 23 false (l_ 3),q_ 25 23 false (l_ 2),q_ 26 23 false (.bin .add (.t 25) (i_ 1)),q_ 27 23 false (x_ 1441 24 26),q_ 28 23 false (m_ 0),q_ 29 23 false (a_ 6 1),q_ 30 23 false (l_ 29),q_ 31 23 false (.bin .add (.t 28) (.t 30)),d_ 32 23 false 173 [(.t 27),(.t 31)],q_ 33 23 false (.bin .geq (.t 32) (i_ 0)),q_ 34 16 true (r_ 23 33),o_ 35 (p_ 16 34),v_ 5 35] [[],[],[0,1],[2,0,1],[3,2,0,1],[4,3,2,0,1],[3,2,0,1],[6,3,2,0,1],[7,6,3,2,0,1],[5,4,3,2,0,1,8,7,6],[9,5,4,3,2,0,1,8,7,6],[10,9,5,4,3,2,0,1,8,7,6],[10,9,5,4,3,2,0,1,8,7,6],[12,10,9,5,4,3,2,0,1,8,7,6],[11,10,9,5,4,3,2,0,1,8,7,6,13,12],[10,9,5,4,3,2,0,1,8,7,6],[10,9,5,4,3,2,0,1,8,7,6],[16,10,9,5,4,3,2,0,1,8,7,6],[15,10,9,5,4,3,2,0,1,8,7,6,17,16],[14,11,10,9,5,4,3,2,0,1,8,7,6,13,12,18,15,17,16],[19,14,11,10,9,5,4,3,2,0,1,8,7,6,13,12,18,15,17,16],[10,9,5,4,3,2,0,1,8,7,6,20,19,14,11,13,12,18,15,17,16],[3,2,0,1,21,10,9,5,4,8,7,6,20,19,14,11,13,12,18,15,17,16],[22,3,2,0,1,21,10,9,5,4,8,7,6,20,19,14,11,13,12,18,15,17,16]])
 .ret)))⟩
def L173_0:SC:=(.seq (.seq (.reg [v_ 8 5,o_ 9 (.bin .lss (.t 8) (i_ 1441))])
 (.cond (.t 9) .skip
 (.exit 0)))
 (.seq (.blk 1 (.seq (.reg [v_ 12 0,v_ 13 5,o_ 14 (.nilck (.t 12)),o_ 15 (.idxa 1441 1 (.t 14) (.t 13)),y_ 16 15])
 (.cond (.t 16) (.seq (.reg [v_ 17 5,v_ 4 17])
 .ret)
 .skip)))
 (.reg [v_ 10 5,j_ 11 10,v_ 5 11])))
def mf173:SF:=⟨18,[(.t 4)],
 (.seq (.reg [o_ 4 (.mov (i_ 0))])
 (.seq (.seq (.reg [v_ 6 1,o_ 7 (.minmax false [(i_ 0),(.t 6)]),v_ 5 7])
 (.blk 0 (.loop [0,5] L173_0)))
 (.seq (.reg [o_ 4 (.mov (i_ (-1)))])
 .ret)))⟩
def L174_0:SC:=(.seq (.reg [o_ 10 (.bin .lss (.t 9) (.t 8))])
 (.seq (.cond (.t 10) .skip
 (.exit 0))
 (.seq (.blk 1 (.seq (.reg [z_ 11 3 7 9,o_ 12 (w_ 11 3),o_ 6 (.alloc [(.int .i64 0),(.int .i64 0),(.int .i64 0)]),s_ 6 12 3])
 (.seq (.reg [v_ 13 1,o_ 14 (w_ 6 3),.call (some 15) none (.t 13) [(.t 14)],o_ 16 (.un .not (.t 15))])
 (.cond (.t 16) (.seq (.reg [o_ 4 (b_ false)])
 .ret)
 .skip))))
 (.reg [j_ 17 9,v_ 9 17]))))
def mf174:SF:=⟨18,[(.t 4)],
 (.seq (.reg [o_ 4 (b_ false)])
 (.seq (.seq (.reg [v_ 7 0,o_ 8 (n_ 7),o_ 9 (.mov (i_ 0))])
 (.blk 0 (.loop [1,7,8,9] L174_0)))
 (.seq (.reg [o_ 4 (b_ true)])
 .ret)))⟩
def mf175:SF:=⟨14,[(.t 3)],
 (.seq (.reg [o_ 2 (.box (.t 0) 3),o_ 3 (b_ false)])
 (.seq (.reg [o_ 4 (a_ 2 0),y_ 5 4,y_ 6 1,o_ 7 (.bin .sub (.t 6) (i_ 1)),c_ 8 151 [(.t 5),(i_ 0),(.t 7)],v_ 9 8,q_ 10 9 true (a_ 2 1),q_ 11 9 true (w_ 10 2),d_ 12 9 true 148 [(.t 11),(i_ 0),(i_ 20000)],o_ 13 (p_ 9 12),v_ 3 13])
 .ret))⟩
def L176_0:SC:=(.seq (.reg [o_ 10 (.bin .lss (.t 9) (.t 8))])
 (.seq (.cond (.t 10) .skip
 (.exit 0))
 (.seq (.blk 1 (.seq (.reg [z_ 11 1 7 9,y_ 12 11,v_ 6 12])
 (.seq (.reg [v_ 13 1,v_ 14 6,.call (some 15) none (.t 13) [(.t 14)],o_ 16 (.un .not (.t 15))])
 (.cond (.t 16) (.seq (.reg [o_ 4 (b_ false)])
 .ret)
 .skip))))
 (.reg [j_ 17 9,v_ 9 17]))))
def mf176:SF:=⟨18,[(.t 4)],
 (.seq (.reg [o_ 4 (b_ false)])
 (.seq (.seq (.reg [v_ 7 0,o_ 8 (n_ 7),o_ 9 (.mov (i_ 0))])
 (.blk 0 (.loop [1,7,8,9] L176_0)))
 (.seq (.reg [o_ 4 (b_ true)])
 .ret)))⟩
def mf177:SF:=⟨5,[(.t 2)],
 (.seq (.reg [o_ 2 (b_ false)])
 (.seq (.reg [v_ 3 0,c_ 4 151 [(.t 3),(i_ 0),(i_ 20000)],v_ 2 4])
 .ret))⟩
def mf178:SF:=⟨4,[(.t 2)],
 (.seq (.reg [o_ 1 (.box (.t 0) 10),o_ 2 (.mov (.k .nilF))])
 (.seq (.reg [o_ 3 (.mkfn (.func 188) [] [(.t 1)]),v_ 2 3])
 .ret))⟩
def mf179:SF:=⟨22,[(.t 6)],
 (.seq (.reg [o_ 3 (.box (.t 0) 5),o_ 6 (.mov (i_ 0))])
 (.seq (.reg [o_ 7 (a_ 3 3),y_ 8 7,v_ 9 2,o_ 10 (a_ 3 2),y_ 11 10,o_ 12 (.bin .sub (.t 9) (.t 11)),o_ 13 (.bin .mul (.t 8) (.t 12)),o_ 14 (a_ 3 4),y_ 15 14,v_ 16 1,o_ 17 (a_ 3 1),y_ 18 17,o_ 19 (.bin .sub (.t 16) (.t 18)),o_ 20 (.bin .mul (.t 15) (.t 19)),o_ 21 (.bin .sub (.t 13) (.t 20)),v_ 6 21])
 .ret))⟩
def aAF:SC:=(.reg [o_ 4 (.alloc [(.int .i64 0),(.int .i64 0),(.int .i64 0),(.int .i64 0),(.int .i64 0)]),s_ 4 28 5])
def R180_0b:SC:=(.blk 1 (.seq (.draw [true] [o_ 29 (a_ 4 2),y_ 30 29,o_ 31 (a_ 4 3),o_ 32 (a_ 31 0),y_ 33 32,o_ 34 (.bin .mul (.t 30) (.t 33)),o_ 35 (a_ 4 2),y_ 36 35,o_ 37 (a_ 4 3),o_ 38 (a_ 37 1),y_ 39 38,o_ 40 (.bin .mul (.t 36) (.t 39)),v_ 5 34,v_ 6 40] [[],[0],[],[2],[3,2],[1,0,4,3,2],[],[6],[],[8],[9,8],[7,6,10,9,8],[5,1,0,4,3,2],[11,7,6,10,9,8,12,5,1,0,4,3,2]])
 (.seq (.reg [o_ 41 (a_ 3 0),o_ 42 (a_ 41 0),y_ 43 42,o_ 44 (a_ 4 3),o_ 45 (a_ 44 0),y_ 46 45,o_ 47 (.bin .add (.t 43) (.t 46)),o_ 48 (a_ 3 0),o_ 49 (a_ 48 0),s_ 49 47 1])
 (.seq (.reg [o_ 50 (a_ 3 0),o_ 51 (a_ 50 1),y_ 52 51,o_ 53 (a_ 4 3),o_ 54 (a_ 53 1),y_ 55 54,o_ 56 (.bin .add (.t 52) (.t 55)),o_ 57 (a_ 3 0),o_ 58 (a_ 57 1),s_ 58 56 1])
 (.seq (.reg [o_ 59 (a_ 3 2),o_ 60 (a_ 59 0),y_ 61 60,v_ 62 5,v_ 63 6,o_ 64 (.minmax true [(.t 62),(.t 63)]),o_ 65 (.bin .add (.t 61) (.t 64)),o_ 66 (a_ 3 2),o_ 67 (a_ 66 0),s_ 67 65 1])
 (.reg [o_ 68 (a_ 3 2),o_ 69 (a_ 68 1),y_ 70 69,v_ 71 5,v_ 72 6,o_ 73 (.minmax false [(.t 71),(.t 72)]),o_ 74 (.bin .add (.t 70) (.t 73)),o_ 75 (a_ 3 2),o_ 76 (a_ 75 1),s_ 76 74 1]))))))
def mf180:SF:=⟨78,[(.c 2 (some 4))],
 (.seq (.reg [o_ 1 (.box (.t 0) 15),o_ 2 (.alloc [(.int .i64 0),(.int .i64 0),(.int .i64 0),(.int .i64 0)])])
 (.seq (.reg [o_ 7 (a_ 1 0),o_ 8 (a_ 7 0),o_ 9 (a_ 8 0),y_ 10 9,o_ 11 (a_ 1 0),o_ 12 (a_ 11 0),o_ 13 (a_ 12 0),y_ 14 13,o_ 15 (.build [(.int .i64 0),(.int .i64 0)] [(0,1,(.t 10)),(1,1,(.t 14))]),o_ 16 (a_ 1 0),o_ 17 (a_ 16 0),o_ 18 (a_ 17 1),y_ 19 18,o_ 20 (a_ 1 0),o_ 21 (a_ 20 0),o_ 22 (a_ 21 1),y_ 23 22,o_ 24 (.build [(.int .i64 0),(.int .i64 0)] [(0,1,(.t 19)),(1,1,(.t 23))]),o_ 25 (.build [(.int .i64 0),(.int .i64 0),(.int .i64 0),(.int .i64 0)] [(0,2,(.t 15)),(2,2,(.t 24))]),o_ 3 (.alloc [(.int .i64 0),(.int .i64 0),(.int .i64 0),(.int .i64 0)]),s_ 3 25 4])
 (.seq (.seq (.reg [o_ 26 (w_ 1 15),c_ 27 189 [(.t 26)]])
 (.blk 0 (.rng (.t 27) #[28] (bP (cL 180) [1,1,0,1,0,0]) (bP (cL 180) [1,1,0,1,0,1]) aAF R180_0b)))
 (.seq (.reg [o_ 77 (w_ 3 4),s_ 2 77 4])
 .ret))))⟩
def mf181:SF:=⟨14,[(.t 2)],
 (.seq (.reg [o_ 1 (.box (.t 0) 15),o_ 2 (.mov (i_ 0))])
 (.seq (.seq (.reg [o_ 3 (a_ 1 10),o_ 4 (a_ 3 4),y_ 5 4])
 (.cond (.t 5) (.seq (.reg [o_ 6 (a_ 1 0),o_ 7 (a_ 6 0),o_ 8 (a_ 7 3),y_ 9 8,v_ 2 9])
 .ret)
 .skip))
 (.seq (.reg [o_ 10 (a_ 1 0),o_ 11 (a_ 10 0),o_ 12 (a_ 11 2),y_ 13 12,v_ 2 13])
 .ret)))⟩
def aAE:SC:=(.reg [o_ 6 (.alloc [(.int .i64 0),(.int .i64 0),(.int .i64 0),(.int .i64 0),(.int .i64 0)]),s_ 6 20 5])
def R182_0b:SC:=(.blk 1 (.seq (.reg [o_ 21 (w_ 3 5),o_ 22 (a_ 6 2),y_ 23 22,c_ 24 190 [(.t 21),(.t 23)],v_ 7 24])
 (.reg [y_ 25 5,v_ 26 7,o_ 27 (a_ 6 3),o_ 28 (a_ 27 0),y_ 29 28,o_ 30 (.bin .mul (.t 26) (.t 29)),v_ 31 7,o_ 32 (a_ 6 3),o_ 33 (a_ 32 1),y_ 34 33,o_ 35 (.bin .mul (.t 31) (.t 34)),o_ 36 (.minmax true [(.t 30),(.t 35)]),o_ 37 (.bin .add (.t 25) (.t 36)),s_ 5 37 1])))
def mf182:SF:=⟨39,[(.t 4)],
 (.seq (.reg [o_ 2 (.box (.t 0) 15),o_ 3 (.box (.t 1) 5),o_ 4 (.mov (i_ 0))])
 (.seq (.reg [o_ 8 (w_ 3 5),o_ 9 (a_ 2 0),o_ 10 (a_ 9 0),o_ 11 (a_ 10 0),y_ 12 11,o_ 13 (a_ 2 0),o_ 14 (a_ 13 0),o_ 15 (a_ 14 1),y_ 16 15,c_ 17 179 [(.t 8),(.t 12),(.t 16)],o_ 5 (.alloc [(.int .i64 0)]),s_ 5 17 1])
 (.seq (.seq (.reg [o_ 18 (w_ 2 15),c_ 19 189 [(.t 18)]])
 (.blk 0 (.rng (.t 19) #[20] (bP (cL 182) [1,1,0,1,0,0]) (bP (cL 182) [1,1,0,1,0,1]) aAE R182_0b)))
 (.seq (.reg [y_ 38 5,v_ 4 38])
 .ret))))⟩
def mf183:SF:=⟨9,[(.t 4)],
 (.seq (.reg [o_ 3 (.box (.t 1) 2),o_ 4 (b_ false)])
 (.seq (.reg [v_ 5 0,o_ 6 (w_ 3 2),c_ 7 191 [(.t 5),(.t 6)],o_ 8 (.bin .geq (.t 7) (i_ 0)),v_ 4 8])
 .ret))⟩
def L188_0:SC:=(.seq (.reg [o_ 11 (.bin .lss (.t 10) (.t 9))])
 (.seq (.cond (.t 11) .skip
 (.exit 0))
 (.seq (.blk 1 (.seq (.reg [v_ 12 10,z_ 13 2 8 10,o_ 14 (w_ 13 2),o_ 4 (.alloc [(.int .i64 0),(.int .i64 0)]),v_ 3 12,s_ 4 14 2])
 (.seq (.draw [true] [o_ 15 (a_ 1 0),o_ 16 (a_ 15 4),y_ 17 16,v_ 18 3,j_ 19 18,o_ 20 (a_ 1 0),o_ 21 (a_ 20 4),y_ 22 21,o_ 23 (n_ 22),o_ 24 (.bin .rem (.t 19) (.t 23)),z_ 25 2 17 24,o_ 26 (w_ 25 2),o_ 5 (.alloc [(.int .i64 0),(.int .i64 0)]),s_ 5 26 2] [[],[0],[1,0],[],[3],[],[5],[6,5],[7,6,5],[4,3,8,7,6,5],[2,1,0,9,4,3,8,7,6,5],[10,2,1,0,9,4,3,8,7,6,5],[],[12,11,10,2,1,0,9,4,3,8,7,6,5]])
 (.seq (.reg [v_ 27 0,v_ 28 3,o_ 29 (a_ 4 0),y_ 30 29,o_ 31 (a_ 4 1),y_ 32 31,o_ 33 (a_ 5 0),y_ 34 33,o_ 35 (a_ 4 0),y_ 36 35,o_ 37 (.bin .sub (.t 34) (.t 36)),o_ 38 (a_ 5 1),y_ 39 38,o_ 40 (a_ 4 1),y_ 41 40,o_ 42 (.bin .sub (.t 39) (.t 41)),o_ 43 (.build [(.int .i64 0),(.int .i64 0),(.int .i64 0),(.int .i64 0),(.int .i64 0)] [(0,1,(.t 28)),(1,1,(.t 30)),(2,1,(.t 32)),(3,1,(.t 37)),(4,1,(.t 42))]),.call (some 44) none (.t 27) [(.t 43)],o_ 45 (.un .not (.t 44))])
 (.cond (.t 45) .ret
 .skip)))))
 (.reg [j_ 46 10,v_ 10 46]))))
def mf188:SF:=⟨47,[],
 (.seq (.reg [o_ 6 (a_ 1 0),o_ 7 (a_ 6 4),y_ 8 7,o_ 9 (n_ 8),o_ 10 (.mov (i_ 0))])
 (.blk 0 (.loop [0,1,8,9,10] L188_0)))⟩
def mf189:SF:=⟨4,[(.t 2)],
 (.seq (.reg [o_ 1 (.box (.t 0) 15),o_ 2 (.mov (.k .nilF))])
 (.seq (.reg [o_ 3 (.mkfn (.func 195) [] [(.t 1)]),v_ 2 3])
 .ret))⟩
def mf190:SF:=⟨12,[(.t 4)],
 (.seq (.reg [o_ 2 (.box (.t 0) 5),o_ 4 (.mov (i_ 0))])
 (.seq (.reg [o_ 5 (a_ 2 3),y_ 6 5,v_ 7 1,o_ 8 (.bin .mul (.t 6) (.t 7)),o_ 9 (a_ 2 4),y_ 10 9,o_ 11 (.bin .sub (.t 8) (.t 10)),v_ 4 11])
 .ret))⟩
def L191_0:SC:=(.seq (.reg [o_ 9 (.bin .lss (.t 8) (.t 7))])
 (.seq (.cond (.t 9) .skip
 (.exit 0))
 (.seq (.blk 1 (.seq (.reg [v_ 10 8,v_ 5 10])
 (.seq (.draw [true] [o_ 11 (w_ 3 2),v_ 12 0,v_ 13 5,z_ 14 2 12 13,o_ 15 (w_ 14 2),o_ 16 (.eqag [true,true] false (.t 11) (.t 15))] [[],[],[],[1,2],[3,1,2],[0,4,3,1,2]])
 (.cond (.t 16) (.seq (.reg [v_ 17 5,v_ 4 17])
 .ret)
 .skip))))
 (.reg [j_ 18 8,v_ 8 18]))))
def mf191:SF:=⟨19,[(.t 4)],
 (.seq (.reg [o_ 3 (.box (.t 1) 2),o_ 4 (.mov (i_ 0))])
 (.seq (.seq (.reg [v_ 6 0,o_ 7 (n_ 6),o_ 8 (.mov (i_ 0))])
 (.blk 0 (.loop [0,3,7,8] L191_0)))
 (.seq (.reg [o_ 4 (.mov (i_ (-1)))])
 .ret)))⟩
def L195_0:SC:=(.seq (.reg [o_ 12 (.bin .lss (.t 11) (.t 10))])
 (.seq (.cond (.t 12) .skip
 (.exit 0))
 (.seq (.blk 1 (.seq (.reg [v_ 13 11,z_ 14 3 9 11,o_ 15 (w_ 14 3),o_ 4 (.alloc [(.int .i64 0),(.int .i64 0),(.int .i64 0)]),v_ 3 13,s_ 4 15 3])
 (.seq (.draw [true] [v_ 16 0,v_ 17 3,o_ 18 (a_ 1 0),o_ 19 (a_ 18 0),o_ 20 (a_ 19 5),y_ 21 20,o_ 22 (a_ 4 0),y_ 23 22,z_ 24 2 21 23,o_ 25 (a_ 24 0),y_ 26 25,o_ 27 (a_ 4 1),o_ 28 (w_ 27 2),o_ 29 (.build [(.int .i64 0),(.int .i64 0),(.int .i64 0),(.int .i64 0),(.int .i64 0)] [(0,1,(i_ 0)),(1,1,(.t 17)),(2,1,(.t 26)),(3,2,(.t 28))]),.call (some 30) none (.t 16) [(.t 29)],o_ 31 (.un .not (.t 30))] [[],[],[],[2],[3,2],[4,3,2],[],[6],[5,4,3,2,7,6],[8,5,4,3,2,7,6],[9,8,5,4,3,2,7,6],[],[11],[1,10,9,8,5,4,3,2,7,6,12,11],[0,13,1,10,9,8,5,4,3,2,7,6,12,11],[14,0,13,1,10,9,8,5,4,3,2,7,6,12,11]])
 (.cond (.t 31) .ret
 .skip))))
 (.reg [j_ 32 11,v_ 11 32]))))
def L195_1:SC:=(.seq (.reg [o_ 50 (.bin .lss (.t 49) (.t 48))])
 (.seq (.cond (.t 50) .skip
 (.exit 2))
 (.seq (.blk 3 (.seq (.reg [v_ 51 49,z_ 52 2 47 49,o_ 53 (w_ 52 2),o_ 6 (.alloc [(.int .i64 0),(.int .i64 0)]),v_ 5 51,s_ 6 53 2])
 (.seq (.draw [true] [v_ 54 0,v_ 55 5,o_ 56 (a_ 1 0),o_ 57 (a_ 56 0),o_ 58 (a_ 57 9),y_ 59 58,v_ 60 5,z_ 61 2 59 60,o_ 62 (a_ 61 0),y_ 63 62,o_ 64 (w_ 6 2),o_ 65 (.build [(.int .i64 0),(.int .i64 0),(.int .i64 0),(.int .i64 0),(.int .i64 0)] [(0,1,(i_ 2)),(1,1,(.t 55)),(2,1,(.t 63)),(3,2,(.t 64))]),.call (some 66) none (.t 54) [(.t 65)],o_ 67 (.un .not (.t 66))] [[],[],[],[2],[3,2],[4,3,2],[],[5,4,3,2,6],[7,5,4,3,2,6],[8,7,5,4,3,2,6],[],[1,9,8,7,5,4,3,2,6,10],[0,11,1,9,8,7,5,4,3,2,6,10],[12,0,11,1,9,8,7,5,4,3,2,6,10]])
 (.cond (.t 67) .ret
 .skip))))
 (.reg [j_ 68 49,v_ 49 68]))))
def mf195:SF:=⟨69,[],
 (.seq (.seq (.reg [o_ 7 (a_ 1 10),o_ 8 (a_ 7 0),y_ 9 8,o_ 10 (n_ 9),o_ 11 (.mov (i_ 0))])
 (.blk 0 (.loop [0,1,9,10,11] L195_0)))
 (.seq (.seq (.reg [v_ 33 0,o_ 34 (a_ 1 0),o_ 35 (a_ 34 0),o_ 36 (a_ 35 6),o_ 37 (a_ 36 0),y_ 38 37,o_ 39 (a_ 1 10),o_ 40 (a_ 39 1),o_ 41 (w_ 40 2),o_ 42 (.build [(.int .i64 0),(.int .i64 0),(.int .i64 0),(.int .i64 0),(.int .i64 0)] [(0,1,(i_ 1)),(1,1,(i_ 0)),(2,1,(.t 38)),(3,2,(.t 41))]),.call (some 43) none (.t 33) [(.t 42)],o_ 44 (.un .not (.t 43))])
 (.cond (.t 44) .ret
 .skip))
 (.seq (.reg [o_ 45 (a_ 1 10),o_ 46 (a_ 45 3),y_ 47 46,o_ 48 (n_ 47),o_ 49 (.mov (i_ 0))])
 (.blk 2 (.loop [0,1,47,48,49] L195_1)))))⟩
theorem mf4_ok:aU Tryz.prog 4=some mf4.er:=by kernel_rfl
theorem mf4_b:aE Tryz.prog 4=true:=by kernel_rfl
theorem mf4_g:mf4.body.good=true:=by kernel_rfl
theorem aKd:L4_0.good=true:=by kernel_rfl
theorem aKc:L4_1.good=true:=by kernel_rfl
theorem aKb:L4_2.good=true:=by kernel_rfl
theorem aKa:L4_3.good=true:=by kernel_rfl
theorem aOd:aU Tryz.prog 10=some mf10.er:=by kernel_rfl
theorem mf10_b:aE Tryz.prog 10=true:=by kernel_rfl
theorem mf10_g:mf10.body.good=true:=by kernel_rfl
theorem aNU:aU Tryz.prog 11=some mf11.er:=by kernel_rfl
theorem mf11_b:aE Tryz.prog 11=true:=by kernel_rfl
theorem mf11_g:mf11.body.good=true:=by kernel_rfl
theorem aFc:L11_0.good=true:=by kernel_rfl
theorem aNF:aU Tryz.prog 12=some mf12.er:=by kernel_rfl
theorem mf12_b:aE Tryz.prog 12=true:=by kernel_rfl
theorem mf12_g:mf12.body.good=true:=by kernel_rfl
theorem aMS:aU Tryz.prog 15=some mf15.er:=by kernel_rfl
theorem mf15_b:aE Tryz.prog 15=true:=by kernel_rfl
theorem mf15_g:mf15.body.good=true:=by kernel_rfl
theorem aFb:L15_0.good=true:=by kernel_rfl
theorem aMB:aU Tryz.prog 16=some mf16.er:=by kernel_rfl
theorem mf16_b:aE Tryz.prog 16=true:=by kernel_rfl
theorem mf16_g:mf16.body.good=true:=by kernel_rfl
theorem aMk:aU Tryz.prog 17=some mf17.er:=by kernel_rfl
theorem mf17_b:aE Tryz.prog 17=true:=by kernel_rfl
theorem mf17_g:mf17.body.good=true:=by kernel_rfl
theorem aFa:L17_0.good=true:=by kernel_rfl
theorem aE9:L17_1.good=true:=by kernel_rfl
theorem aL7:aU Tryz.prog 18=some mf18.er:=by kernel_rfl
theorem mf18_b:aE Tryz.prog 18=true:=by kernel_rfl
theorem mf18_g:mf18.body.good=true:=by kernel_rfl
theorem aPc:L18_0.good=true:=by kernel_rfl
theorem aPb:L18_1.good=true:=by kernel_rfl
theorem aL0:aU Tryz.prog 19=some mf19.er:=by kernel_rfl
theorem mf19_b:aE Tryz.prog 19=true:=by kernel_rfl
theorem mf19_g:mf19.body.good=true:=by kernel_rfl
theorem aLZ:aU Tryz.prog 20=some mf20.er:=by kernel_rfl
theorem mf20_b:aE Tryz.prog 20=true:=by kernel_rfl
theorem mf20_g:mf20.body.good=true:=by kernel_rfl
theorem aE8:L20_0.good=true:=by kernel_rfl
theorem aE7:L20_1.good=true:=by kernel_rfl
theorem aLY:aU Tryz.prog 21=some mf21.er:=by kernel_rfl
theorem mf21_b:aE Tryz.prog 21=true:=by kernel_rfl
theorem mf21_g:mf21.body.good=true:=by kernel_rfl
theorem aAL:L21_0.good=true:=by kernel_rfl
theorem aLX:aU Tryz.prog 22=some mf22.er:=by kernel_rfl
theorem mf22_b:aE Tryz.prog 22=true:=by kernel_rfl
theorem mf22_g:mf22.body.good=true:=by kernel_rfl
theorem aLW:aU Tryz.prog 31=some mf31.er:=by kernel_rfl
theorem mf31_b:aE Tryz.prog 31=true:=by kernel_rfl
theorem mf31_g:mf31.body.good=true:=by kernel_rfl
theorem aLV:aU Tryz.prog 32=some mf32.er:=by kernel_rfl
theorem mf32_b:aE Tryz.prog 32=true:=by kernel_rfl
theorem mf32_g:mf32.body.good=true:=by kernel_rfl
theorem aLU:aU Tryz.prog 33=some mf33.er:=by kernel_rfl
theorem mf33_b:aE Tryz.prog 33=true:=by kernel_rfl
theorem mf33_g:mf33.body.good=true:=by kernel_rfl
theorem aPa:L33_0.good=true:=by kernel_rfl
theorem aLT:aU Tryz.prog 34=some mf34.er:=by kernel_rfl
theorem mf34_b:aE Tryz.prog 34=true:=by kernel_rfl
theorem mf34_g:mf34.body.good=true:=by kernel_rfl
theorem aLS:aU Tryz.prog 35=some mf35.er:=by kernel_rfl
theorem mf35_b:aE Tryz.prog 35=true:=by kernel_rfl
theorem mf35_g:mf35.body.good=true:=by kernel_rfl
theorem aLR:aU Tryz.prog 36=some mf36.er:=by kernel_rfl
theorem mf36_b:aE Tryz.prog 36=true:=by kernel_rfl
theorem mf36_g:mf36.body.good=true:=by kernel_rfl
theorem aE6:L36_0.good=true:=by kernel_rfl
theorem aLQ:aU Tryz.prog 37=some mf37.er:=by kernel_rfl
theorem mf37_b:aE Tryz.prog 37=true:=by kernel_rfl
theorem mf37_g:mf37.body.good=true:=by kernel_rfl
theorem aE5:L37_0.good=true:=by kernel_rfl
theorem aLP:aU Tryz.prog 38=some mf38.er:=by kernel_rfl
theorem mf38_b:aE Tryz.prog 38=true:=by kernel_rfl
theorem mf38_g:mf38.body.good=true:=by kernel_rfl
theorem aLO:aU Tryz.prog 39=some mf39.er:=by kernel_rfl
theorem mf39_b:aE Tryz.prog 39=true:=by kernel_rfl
theorem mf39_g:mf39.body.good=true:=by kernel_rfl
theorem aE4:L39_0.good=true:=by kernel_rfl
theorem aE3:L39_1.good=true:=by kernel_rfl
theorem aLN:aU Tryz.prog 40=some mf40.er:=by kernel_rfl
theorem mf40_b:aE Tryz.prog 40=true:=by kernel_rfl
theorem mf40_g:mf40.body.good=true:=by kernel_rfl
theorem aO9:L40_0.good=true:=by kernel_rfl
theorem aLM:aU Tryz.prog 41=some mf41.er:=by kernel_rfl
theorem mf41_b:aE Tryz.prog 41=true:=by kernel_rfl
theorem mf41_g:mf41.body.good=true:=by kernel_rfl
theorem aLL:aU Tryz.prog 42=some mf42.er:=by kernel_rfl
theorem mf42_b:aE Tryz.prog 42=true:=by kernel_rfl
theorem mf42_g:mf42.body.good=true:=by kernel_rfl
theorem aE2:L42_0.good=true:=by kernel_rfl
theorem aLK:aU Tryz.prog 43=some mf43.er:=by kernel_rfl
theorem mf43_b:aE Tryz.prog 43=true:=by kernel_rfl
theorem mf43_g:mf43.body.good=true:=by kernel_rfl
theorem aLJ:aU Tryz.prog 44=some mf44.er:=by kernel_rfl
theorem mf44_b:aE Tryz.prog 44=true:=by kernel_rfl
theorem mf44_g:mf44.body.good=true:=by kernel_rfl
theorem aLI:aU Tryz.prog 45=some mf45.er:=by kernel_rfl
theorem mf45_b:aE Tryz.prog 45=true:=by kernel_rfl
theorem mf45_g:mf45.body.good=true:=by kernel_rfl
theorem aE1:L45_0.good=true:=by kernel_rfl
theorem aLH:aU Tryz.prog 46=some mf46.er:=by kernel_rfl
theorem mf46_b:aE Tryz.prog 46=true:=by kernel_rfl
theorem mf46_g:mf46.body.good=true:=by kernel_rfl
theorem aLG:aU Tryz.prog 48=some mf48.er:=by kernel_rfl
theorem mf48_b:aE Tryz.prog 48=true:=by kernel_rfl
theorem mf48_g:mf48.body.good=true:=by kernel_rfl
theorem aE0:L48_0.good=true:=by kernel_rfl
theorem aO8:L48_1.good=true:=by kernel_rfl
theorem aO7:L48_2.good=true:=by kernel_rfl
theorem aO6:L48_3.good=true:=by kernel_rfl
theorem aO5:L48_4.good=true:=by kernel_rfl
theorem aEZ:L48_5.good=true:=by kernel_rfl
theorem aEY:L48_6.good=true:=by kernel_rfl
theorem aLF:aU Tryz.prog 49=some mf49.er:=by kernel_rfl
theorem mf49_b:aE Tryz.prog 49=true:=by kernel_rfl
theorem mf49_g:mf49.body.good=true:=by kernel_rfl
theorem aD1:aU Tryz.prog 50=some mf50.er:=by kernel_rfl
theorem aHz:aE Tryz.prog 50=true:=by kernel_rfl
theorem aHy:mf50.body.good=true:=by kernel_rfl
theorem aEX:L50_0.good=true:=by kernel_rfl
theorem aJ8:R50_1a.good=true:=by kernel_rfl
theorem aJ7:R50_1b.good=true:=by kernel_rfl
theorem aEW:L50_2.good=true:=by kernel_rfl
theorem aLE:aU Tryz.prog 51=some mf51.er:=by kernel_rfl
theorem mf51_b:aE Tryz.prog 51=true:=by kernel_rfl
theorem mf51_g:mf51.body.good=true:=by kernel_rfl
theorem aEV:L51_0.good=true:=by kernel_rfl
theorem aEU:L51_1.good=true:=by kernel_rfl
theorem aLD:aU Tryz.prog 52=some mf52.er:=by kernel_rfl
theorem mf52_b:aE Tryz.prog 52=true:=by kernel_rfl
theorem mf52_g:mf52.body.good=true:=by kernel_rfl
theorem aJ6:aDz.good=true:=by kernel_rfl
theorem aJ5:R52_0b.good=true:=by kernel_rfl
theorem aLC:aU Tryz.prog 53=some mf53.er:=by kernel_rfl
theorem mf53_b:aE Tryz.prog 53=true:=by kernel_rfl
theorem mf53_g:mf53.body.good=true:=by kernel_rfl
theorem aLB:aU Tryz.prog 54=some mf54.er:=by kernel_rfl
theorem mf54_b:aE Tryz.prog 54=true:=by kernel_rfl
theorem mf54_g:mf54.body.good=true:=by kernel_rfl
theorem aET:L54_0.good=true:=by kernel_rfl
theorem aD0:aU Tryz.prog 55=some mf55.er:=by kernel_rfl
theorem aHx:aE Tryz.prog 55=true:=by kernel_rfl
theorem aHw:mf55.body.good=true:=by kernel_rfl
theorem aES:L55_0.good=true:=by kernel_rfl
theorem aLA:aU Tryz.prog 56=some mf56.er:=by kernel_rfl
theorem mf56_b:aE Tryz.prog 56=true:=by kernel_rfl
theorem mf56_g:mf56.body.good=true:=by kernel_rfl
theorem aER:L56_0.good=true:=by kernel_rfl
theorem aLz:aU Tryz.prog 57=some mf57.er:=by kernel_rfl
theorem mf57_b:aE Tryz.prog 57=true:=by kernel_rfl
theorem mf57_g:mf57.body.good=true:=by kernel_rfl
theorem aEQ:L57_0.good=true:=by kernel_rfl
theorem aEP:L57_1.good=true:=by kernel_rfl
theorem aLy:aU Tryz.prog 58=some mf58.er:=by kernel_rfl
theorem mf58_b:aE Tryz.prog 58=true:=by kernel_rfl
theorem mf58_g:mf58.body.good=true:=by kernel_rfl
theorem aLx:aU Tryz.prog 59=some mf59.er:=by kernel_rfl
theorem mf59_b:aE Tryz.prog 59=true:=by kernel_rfl
theorem mf59_g:mf59.body.good=true:=by kernel_rfl
theorem aEO:L59_0.good=true:=by kernel_rfl
theorem aO4:L59_1.good=true:=by kernel_rfl
theorem aLw:aU Tryz.prog 60=some mf60.er:=by kernel_rfl
theorem mf60_b:aE Tryz.prog 60=true:=by kernel_rfl
theorem mf60_g:mf60.body.good=true:=by kernel_rfl
theorem aLv:aU Tryz.prog 61=some mf61.er:=by kernel_rfl
theorem mf61_b:aE Tryz.prog 61=true:=by kernel_rfl
theorem mf61_g:mf61.body.good=true:=by kernel_rfl
theorem aLu:aU Tryz.prog 62=some mf62.er:=by kernel_rfl
theorem mf62_b:aE Tryz.prog 62=true:=by kernel_rfl
theorem mf62_g:mf62.body.good=true:=by kernel_rfl
theorem aLt:aU Tryz.prog 63=some mf63.er:=by kernel_rfl
theorem mf63_b:aE Tryz.prog 63=true:=by kernel_rfl
theorem mf63_g:mf63.body.good=true:=by kernel_rfl
theorem pU:L63_0.good=true:=by kernel_rfl
theorem aEN:L63_1.good=true:=by kernel_rfl
theorem aEM:L63_2.good=true:=by kernel_rfl
theorem aEL:L63_3.good=true:=by kernel_rfl
theorem aEK:L63_4.good=true:=by kernel_rfl
theorem aLs:aU Tryz.prog 64=some mf64.er:=by kernel_rfl
theorem mf64_b:aE Tryz.prog 64=true:=by kernel_rfl
theorem mf64_g:mf64.body.good=true:=by kernel_rfl
theorem aLr:aU Tryz.prog 65=some mf65.er:=by kernel_rfl
theorem mf65_b:aE Tryz.prog 65=true:=by kernel_rfl
theorem mf65_g:mf65.body.good=true:=by kernel_rfl
theorem aLq:aU Tryz.prog 66=some mf66.er:=by kernel_rfl
theorem mf66_b:aE Tryz.prog 66=true:=by kernel_rfl
theorem mf66_g:mf66.body.good=true:=by kernel_rfl
theorem aLp:aU Tryz.prog 67=some mf67.er:=by kernel_rfl
theorem mf67_b:aE Tryz.prog 67=true:=by kernel_rfl
theorem mf67_g:mf67.body.good=true:=by kernel_rfl
theorem aLo:aU Tryz.prog 68=some mf68.er:=by kernel_rfl
theorem mf68_b:aE Tryz.prog 68=true:=by kernel_rfl
theorem mf68_g:mf68.body.good=true:=by kernel_rfl
theorem aEJ:L68_0.good=true:=by kernel_rfl
theorem aLn:aU Tryz.prog 69=some mf69.er:=by kernel_rfl
theorem mf69_b:aE Tryz.prog 69=true:=by kernel_rfl
theorem mf69_g:mf69.body.good=true:=by kernel_rfl
theorem aEI:L69_0.good=true:=by kernel_rfl
theorem aEH:L69_1.good=true:=by kernel_rfl
theorem aLm:aU Tryz.prog 76=some mf76.er:=by kernel_rfl
theorem mf76_b:aE Tryz.prog 76=true:=by kernel_rfl
theorem mf76_g:mf76.body.good=true:=by kernel_rfl
theorem aLl:aU Tryz.prog 77=some mf77.er:=by kernel_rfl
theorem mf77_b:aE Tryz.prog 77=true:=by kernel_rfl
theorem mf77_g:mf77.body.good=true:=by kernel_rfl
theorem aO3:L77_0.good=true:=by kernel_rfl
theorem aO2:L77_1.good=true:=by kernel_rfl
theorem aLk:aU Tryz.prog 78=some mf78.er:=by kernel_rfl
theorem mf78_b:aE Tryz.prog 78=true:=by kernel_rfl
theorem mf78_g:mf78.body.good=true:=by kernel_rfl
theorem aO1:L78_0.good=true:=by kernel_rfl
theorem aLj:aU Tryz.prog 79=some mf79.er:=by kernel_rfl
theorem mf79_b:aE Tryz.prog 79=true:=by kernel_rfl
theorem mf79_g:mf79.body.good=true:=by kernel_rfl
theorem aLi:aU Tryz.prog 80=some mf80.er:=by kernel_rfl
theorem mf80_b:aE Tryz.prog 80=true:=by kernel_rfl
theorem mf80_g:mf80.body.good=true:=by kernel_rfl
theorem aLh:aU Tryz.prog 81=some mf81.er:=by kernel_rfl
theorem mf81_b:aE Tryz.prog 81=true:=by kernel_rfl
theorem mf81_g:mf81.body.good=true:=by kernel_rfl
theorem aEG:L81_0.good=true:=by kernel_rfl
theorem aLg:aU Tryz.prog 82=some mf82.er:=by kernel_rfl
theorem mf82_b:aE Tryz.prog 82=true:=by kernel_rfl
theorem mf82_g:mf82.body.good=true:=by kernel_rfl
theorem aLf:aU Tryz.prog 83=some mf83.er:=by kernel_rfl
theorem mf83_b:aE Tryz.prog 83=true:=by kernel_rfl
theorem mf83_g:mf83.body.good=true:=by kernel_rfl
theorem aEF:L83_0.good=true:=by kernel_rfl
theorem aEE:L83_1.good=true:=by kernel_rfl
theorem aLe:aU Tryz.prog 84=some mf84.er:=by kernel_rfl
theorem mf84_b:aE Tryz.prog 84=true:=by kernel_rfl
theorem mf84_g:mf84.body.good=true:=by kernel_rfl
theorem aLd:aU Tryz.prog 85=some mf85.er:=by kernel_rfl
theorem mf85_b:aE Tryz.prog 85=true:=by kernel_rfl
theorem mf85_g:mf85.body.good=true:=by kernel_rfl
theorem aLc:aU Tryz.prog 86=some mf86.er:=by kernel_rfl
theorem mf86_b:aE Tryz.prog 86=true:=by kernel_rfl
theorem mf86_g:mf86.body.good=true:=by kernel_rfl
theorem aED:L86_0.good=true:=by kernel_rfl
theorem aLb:aU Tryz.prog 87=some mf87.er:=by kernel_rfl
theorem mf87_b:aE Tryz.prog 87=true:=by kernel_rfl
theorem mf87_g:mf87.body.good=true:=by kernel_rfl
theorem aLa:aU Tryz.prog 90=some mf90.er:=by kernel_rfl
theorem mf90_b:aE Tryz.prog 90=true:=by kernel_rfl
theorem mf90_g:mf90.body.good=true:=by kernel_rfl
theorem aEC:L90_0.good=true:=by kernel_rfl
theorem aEB:L90_1.good=true:=by kernel_rfl
theorem aK9:aU Tryz.prog 91=some mf91.er:=by kernel_rfl
theorem mf91_b:aE Tryz.prog 91=true:=by kernel_rfl
theorem mf91_g:mf91.body.good=true:=by kernel_rfl
theorem aK8:aU Tryz.prog 92=some mf92.er:=by kernel_rfl
theorem mf92_b:aE Tryz.prog 92=true:=by kernel_rfl
theorem mf92_g:mf92.body.good=true:=by kernel_rfl
theorem aEA:L92_0.good=true:=by kernel_rfl
theorem aK7:aU Tryz.prog 93=some mf93.er:=by kernel_rfl
theorem mf93_b:aE Tryz.prog 93=true:=by kernel_rfl
theorem mf93_g:mf93.body.good=true:=by kernel_rfl
theorem aK6:aU Tryz.prog 94=some mf94.er:=by kernel_rfl
theorem mf94_b:aE Tryz.prog 94=true:=by kernel_rfl
theorem mf94_g:mf94.body.good=true:=by kernel_rfl
theorem aEz:L94_0.good=true:=by kernel_rfl
theorem aK5:aU Tryz.prog 95=some mf95.er:=by kernel_rfl
theorem mf95_b:aE Tryz.prog 95=true:=by kernel_rfl
theorem mf95_g:mf95.body.good=true:=by kernel_rfl
theorem aK4:aU Tryz.prog 96=some mf96.er:=by kernel_rfl
theorem mf96_b:aE Tryz.prog 96=true:=by kernel_rfl
theorem mf96_g:mf96.body.good=true:=by kernel_rfl
theorem aEy:L96_0.good=true:=by kernel_rfl
theorem aK3:aU Tryz.prog 97=some mf97.er:=by kernel_rfl
theorem mf97_b:aE Tryz.prog 97=true:=by kernel_rfl
theorem mf97_g:mf97.body.good=true:=by kernel_rfl
theorem aK2:aU Tryz.prog 98=some mf98.er:=by kernel_rfl
theorem mf98_b:aE Tryz.prog 98=true:=by kernel_rfl
theorem mf98_g:mf98.body.good=true:=by kernel_rfl
theorem aK1:aU Tryz.prog 99=some mf99.er:=by kernel_rfl
theorem mf99_b:aE Tryz.prog 99=true:=by kernel_rfl
theorem mf99_g:mf99.body.good=true:=by kernel_rfl
theorem aIL:aU Tryz.prog 100=some mf100.er:=by kernel_rfl
theorem aOv:aE Tryz.prog 100=true:=by kernel_rfl
theorem aOu:mf100.body.good=true:=by kernel_rfl
theorem aCx:L100_0.good=true:=by kernel_rfl
theorem aIK:aU Tryz.prog 101=some mf101.er:=by kernel_rfl
theorem aOt:aE Tryz.prog 101=true:=by kernel_rfl
theorem aOs:mf101.body.good=true:=by kernel_rfl
theorem aIJ:aU Tryz.prog 102=some mf102.er:=by kernel_rfl
theorem aOr:aE Tryz.prog 102=true:=by kernel_rfl
theorem aOq:mf102.body.good=true:=by kernel_rfl
theorem aCw:L102_0.good=true:=by kernel_rfl
theorem aII:aU Tryz.prog 103=some mf103.er:=by kernel_rfl
theorem aOp:aE Tryz.prog 103=true:=by kernel_rfl
theorem aOo:mf103.body.good=true:=by kernel_rfl
theorem aIH:aU Tryz.prog 104=some mf104.er:=by kernel_rfl
theorem aOn:aE Tryz.prog 104=true:=by kernel_rfl
theorem aOm:mf104.body.good=true:=by kernel_rfl
theorem aCv:L104_0.good=true:=by kernel_rfl
theorem aIG:aU Tryz.prog 105=some mf105.er:=by kernel_rfl
theorem aOl:aE Tryz.prog 105=true:=by kernel_rfl
theorem aOk:mf105.body.good=true:=by kernel_rfl
theorem aIF:aU Tryz.prog 106=some mf106.er:=by kernel_rfl
theorem aOj:aE Tryz.prog 106=true:=by kernel_rfl
theorem aOi:mf106.body.good=true:=by kernel_rfl
theorem aIE:aU Tryz.prog 107=some mf107.er:=by kernel_rfl
theorem aOh:aE Tryz.prog 107=true:=by kernel_rfl
theorem aOg:mf107.body.good=true:=by kernel_rfl
theorem aBn:aU Tryz.prog 108=some mf108.er:=by kernel_rfl
theorem aD6:aE Tryz.prog 108=true:=by kernel_rfl
theorem aD5:mf108.body.good=true:=by kernel_rfl
theorem aGz:R108_0a.good=true:=by kernel_rfl
theorem aGy:R108_0b.good=true:=by kernel_rfl
theorem aID:aU Tryz.prog 109=some mf109.er:=by kernel_rfl
theorem aOf:aE Tryz.prog 109=true:=by kernel_rfl
theorem aOe:mf109.body.good=true:=by kernel_rfl
theorem aIC:aU Tryz.prog 110=some mf110.er:=by kernel_rfl
theorem aOc:aE Tryz.prog 110=true:=by kernel_rfl
theorem aOb:mf110.body.good=true:=by kernel_rfl
theorem aIB:aU Tryz.prog 111=some mf111.er:=by kernel_rfl
theorem aOa:aE Tryz.prog 111=true:=by kernel_rfl
theorem aN9:mf111.body.good=true:=by kernel_rfl
theorem aIA:aU Tryz.prog 112=some mf112.er:=by kernel_rfl
theorem aN8:aE Tryz.prog 112=true:=by kernel_rfl
theorem aN7:mf112.body.good=true:=by kernel_rfl
theorem aIz:aU Tryz.prog 113=some mf113.er:=by kernel_rfl
theorem aN6:aE Tryz.prog 113=true:=by kernel_rfl
theorem aN5:mf113.body.good=true:=by kernel_rfl
theorem aIy:aU Tryz.prog 114=some mf114.er:=by kernel_rfl
theorem aN4:aE Tryz.prog 114=true:=by kernel_rfl
theorem aN3:mf114.body.good=true:=by kernel_rfl
theorem aCu:L114_0.good=true:=by kernel_rfl
theorem aIx:aU Tryz.prog 115=some mf115.er:=by kernel_rfl
theorem aN2:aE Tryz.prog 115=true:=by kernel_rfl
theorem aN1:mf115.body.good=true:=by kernel_rfl
theorem aIw:aU Tryz.prog 116=some mf116.er:=by kernel_rfl
theorem aN0:aE Tryz.prog 116=true:=by kernel_rfl
theorem aNZ:mf116.body.good=true:=by kernel_rfl
theorem aBm:aU Tryz.prog 117=some mf117.er:=by kernel_rfl
theorem aD4:aE Tryz.prog 117=true:=by kernel_rfl
theorem mf117_g:mf117.body.good=true:=by kernel_rfl
theorem aIv:aU Tryz.prog 118=some mf118.er:=by kernel_rfl
theorem aNY:aE Tryz.prog 118=true:=by kernel_rfl
theorem aNX:mf118.body.good=true:=by kernel_rfl
theorem aIu:aU Tryz.prog 119=some mf119.er:=by kernel_rfl
theorem aNW:aE Tryz.prog 119=true:=by kernel_rfl
theorem aNV:mf119.body.good=true:=by kernel_rfl
theorem aIt:aU Tryz.prog 120=some mf120.er:=by kernel_rfl
theorem aNT:aE Tryz.prog 120=true:=by kernel_rfl
theorem aNS:mf120.body.good=true:=by kernel_rfl
theorem aIs:aU Tryz.prog 121=some mf121.er:=by kernel_rfl
theorem aNR:aE Tryz.prog 121=true:=by kernel_rfl
theorem aNQ:mf121.body.good=true:=by kernel_rfl
theorem aCt:L121_0.good=true:=by kernel_rfl
theorem aIr:aU Tryz.prog 122=some mf122.er:=by kernel_rfl
theorem aNP:aE Tryz.prog 122=true:=by kernel_rfl
theorem aNO:mf122.body.good=true:=by kernel_rfl
theorem aCs:L122_0.good=true:=by kernel_rfl
theorem aIq:aU Tryz.prog 123=some mf123.er:=by kernel_rfl
theorem aNN:aE Tryz.prog 123=true:=by kernel_rfl
theorem aNM:mf123.body.good=true:=by kernel_rfl
theorem aIp:aU Tryz.prog 124=some mf124.er:=by kernel_rfl
theorem aNL:aE Tryz.prog 124=true:=by kernel_rfl
theorem aNK:mf124.body.good=true:=by kernel_rfl
theorem aCr:L124_0.good=true:=by kernel_rfl
theorem aIo:aU Tryz.prog 125=some mf125.er:=by kernel_rfl
theorem aNJ:aE Tryz.prog 125=true:=by kernel_rfl
theorem aNI:mf125.body.good=true:=by kernel_rfl
theorem aIn:aU Tryz.prog 126=some mf126.er:=by kernel_rfl
theorem aNH:aE Tryz.prog 126=true:=by kernel_rfl
theorem aNG:mf126.body.good=true:=by kernel_rfl
theorem aCq:L126_0.good=true:=by kernel_rfl
theorem aIm:aU Tryz.prog 136=some mf136.er:=by kernel_rfl
theorem aNE:aE Tryz.prog 136=true:=by kernel_rfl
theorem aND:mf136.body.good=true:=by kernel_rfl
theorem aCp:L136_0.good=true:=by kernel_rfl
theorem aIl:aU Tryz.prog 137=some mf137.er:=by kernel_rfl
theorem aNC:aE Tryz.prog 137=true:=by kernel_rfl
theorem aNB:mf137.body.good=true:=by kernel_rfl
theorem aIk:aU Tryz.prog 138=some mf138.er:=by kernel_rfl
theorem aNA:aE Tryz.prog 138=true:=by kernel_rfl
theorem aNz:mf138.body.good=true:=by kernel_rfl
theorem aCo:L138_0.good=true:=by kernel_rfl
theorem aIj:aU Tryz.prog 139=some mf139.er:=by kernel_rfl
theorem aNy:aE Tryz.prog 139=true:=by kernel_rfl
theorem aNx:mf139.body.good=true:=by kernel_rfl
theorem aIi:aU Tryz.prog 140=some mf140.er:=by kernel_rfl
theorem aNw:aE Tryz.prog 140=true:=by kernel_rfl
theorem aNv:mf140.body.good=true:=by kernel_rfl
theorem aIh:aU Tryz.prog 141=some mf141.er:=by kernel_rfl
theorem aNu:aE Tryz.prog 141=true:=by kernel_rfl
theorem aNt:mf141.body.good=true:=by kernel_rfl
theorem aIg:aU Tryz.prog 142=some mf142.er:=by kernel_rfl
theorem aNs:aE Tryz.prog 142=true:=by kernel_rfl
theorem aNr:mf142.body.good=true:=by kernel_rfl
theorem aCn:L142_0.good=true:=by kernel_rfl
theorem aIf:aU Tryz.prog 143=some mf143.er:=by kernel_rfl
theorem aNq:aE Tryz.prog 143=true:=by kernel_rfl
theorem aNp:mf143.body.good=true:=by kernel_rfl
theorem aKh:L143_0.good=true:=by kernel_rfl
theorem aIe:aU Tryz.prog 144=some mf144.er:=by kernel_rfl
theorem aNo:aE Tryz.prog 144=true:=by kernel_rfl
theorem aNn:mf144.body.good=true:=by kernel_rfl
theorem aCm:L144_0.good=true:=by kernel_rfl
theorem aId:aU Tryz.prog 145=some mf145.er:=by kernel_rfl
theorem aNm:aE Tryz.prog 145=true:=by kernel_rfl
theorem aNl:mf145.body.good=true:=by kernel_rfl
theorem aIc:aU Tryz.prog 146=some mf146.er:=by kernel_rfl
theorem aNk:aE Tryz.prog 146=true:=by kernel_rfl
theorem aNj:mf146.body.good=true:=by kernel_rfl
theorem aIb:aU Tryz.prog 147=some mf147.er:=by kernel_rfl
theorem aNi:aE Tryz.prog 147=true:=by kernel_rfl
theorem aNh:mf147.body.good=true:=by kernel_rfl
theorem aIa:aU Tryz.prog 148=some mf148.er:=by kernel_rfl
theorem aNg:aE Tryz.prog 148=true:=by kernel_rfl
theorem aNf:mf148.body.good=true:=by kernel_rfl
theorem aH9:aU Tryz.prog 149=some mf149.er:=by kernel_rfl
theorem aNe:aE Tryz.prog 149=true:=by kernel_rfl
theorem aNd:mf149.body.good=true:=by kernel_rfl
theorem aCl:L149_0.good=true:=by kernel_rfl
theorem aH8:aU Tryz.prog 150=some mf150.er:=by kernel_rfl
theorem aNc:aE Tryz.prog 150=true:=by kernel_rfl
theorem aNb:mf150.body.good=true:=by kernel_rfl
theorem aH7:aU Tryz.prog 151=some mf151.er:=by kernel_rfl
theorem aNa:aE Tryz.prog 151=true:=by kernel_rfl
theorem aM9:mf151.body.good=true:=by kernel_rfl
theorem aH6:aU Tryz.prog 152=some mf152.er:=by kernel_rfl
theorem aM8:aE Tryz.prog 152=true:=by kernel_rfl
theorem aM7:mf152.body.good=true:=by kernel_rfl
theorem aCk:L152_0.good=true:=by kernel_rfl
theorem aH5:aU Tryz.prog 153=some mf153.er:=by kernel_rfl
theorem aM6:aE Tryz.prog 153=true:=by kernel_rfl
theorem aM5:mf153.body.good=true:=by kernel_rfl
theorem aH4:aU Tryz.prog 154=some mf154.er:=by kernel_rfl
theorem aM4:aE Tryz.prog 154=true:=by kernel_rfl
theorem aM3:mf154.body.good=true:=by kernel_rfl
theorem aCj:L154_0.good=true:=by kernel_rfl
theorem aGx:aAI.good=true:=by kernel_rfl
theorem aGw:R154_1b.good=true:=by kernel_rfl
theorem aH3:aU Tryz.prog 155=some mf155.er:=by kernel_rfl
theorem aM2:aE Tryz.prog 155=true:=by kernel_rfl
theorem aM1:mf155.body.good=true:=by kernel_rfl
theorem aCi:L155_0.good=true:=by kernel_rfl
theorem aH2:aU Tryz.prog 156=some mf156.er:=by kernel_rfl
theorem aM0:aE Tryz.prog 156=true:=by kernel_rfl
theorem aMZ:mf156.body.good=true:=by kernel_rfl
theorem aCh:L156_0.good=true:=by kernel_rfl
theorem aCg:L156_1.good=true:=by kernel_rfl
theorem aH1:aU Tryz.prog 157=some mf157.er:=by kernel_rfl
theorem aMY:aE Tryz.prog 157=true:=by kernel_rfl
theorem aMX:mf157.body.good=true:=by kernel_rfl
theorem aH0:aU Tryz.prog 158=some mf158.er:=by kernel_rfl
theorem aMW:aE Tryz.prog 158=true:=by kernel_rfl
theorem aMV:mf158.body.good=true:=by kernel_rfl
theorem aCf:L158_0.good=true:=by kernel_rfl
theorem aHZ:aU Tryz.prog 159=some mf159.er:=by kernel_rfl
theorem aMU:aE Tryz.prog 159=true:=by kernel_rfl
theorem aMT:mf159.body.good=true:=by kernel_rfl
theorem aHY:aU Tryz.prog 160=some mf160.er:=by kernel_rfl
theorem aMR:aE Tryz.prog 160=true:=by kernel_rfl
theorem aMQ:mf160.body.good=true:=by kernel_rfl
theorem aGv:aAH.good=true:=by kernel_rfl
theorem aGu:aAG.good=true:=by kernel_rfl
theorem aHX:aU Tryz.prog 161=some mf161.er:=by kernel_rfl
theorem aMP:aE Tryz.prog 161=true:=by kernel_rfl
theorem aMO:mf161.body.good=true:=by kernel_rfl
theorem aHW:aU Tryz.prog 162=some mf162.er:=by kernel_rfl
theorem aMN:aE Tryz.prog 162=true:=by kernel_rfl
theorem aMM:mf162.body.good=true:=by kernel_rfl
theorem aCe:L162_0.good=true:=by kernel_rfl
theorem aHV:aU Tryz.prog 163=some mf163.er:=by kernel_rfl
theorem aML:aE Tryz.prog 163=true:=by kernel_rfl
theorem aMK:mf163.body.good=true:=by kernel_rfl
theorem aCd:L163_0.good=true:=by kernel_rfl
theorem aHU:aU Tryz.prog 164=some mf164.er:=by kernel_rfl
theorem aMJ:aE Tryz.prog 164=true:=by kernel_rfl
theorem aMI:mf164.body.good=true:=by kernel_rfl
theorem aKg:L164_0.good=true:=by kernel_rfl
theorem aHT:aU Tryz.prog 165=some mf165.er:=by kernel_rfl
theorem aMH:aE Tryz.prog 165=true:=by kernel_rfl
theorem aMG:mf165.body.good=true:=by kernel_rfl
theorem aHS:aU Tryz.prog 166=some mf166.er:=by kernel_rfl
theorem aMF:aE Tryz.prog 166=true:=by kernel_rfl
theorem aME:mf166.body.good=true:=by kernel_rfl
theorem aKf:L166_0.good=true:=by kernel_rfl
theorem aBl:aU Tryz.prog 167=some mf167.er:=by kernel_rfl
theorem aD3:aE Tryz.prog 167=true:=by kernel_rfl
theorem aD2:mf167.body.good=true:=by kernel_rfl
theorem aHR:aU Tryz.prog 168=some mf168.er:=by kernel_rfl
theorem aMD:aE Tryz.prog 168=true:=by kernel_rfl
theorem aMC:mf168.body.good=true:=by kernel_rfl
theorem aHQ:aU Tryz.prog 172=some mf172.er:=by kernel_rfl
theorem aMA:aE Tryz.prog 172=true:=by kernel_rfl
theorem aMz:mf172.body.good=true:=by kernel_rfl
theorem aHP:aU Tryz.prog 173=some mf173.er:=by kernel_rfl
theorem aMy:aE Tryz.prog 173=true:=by kernel_rfl
theorem aMx:mf173.body.good=true:=by kernel_rfl
theorem aKe:L173_0.good=true:=by kernel_rfl
theorem aHO:aU Tryz.prog 174=some mf174.er:=by kernel_rfl
theorem aMw:aE Tryz.prog 174=true:=by kernel_rfl
theorem aMv:mf174.body.good=true:=by kernel_rfl
theorem aCc:L174_0.good=true:=by kernel_rfl
theorem aHN:aU Tryz.prog 175=some mf175.er:=by kernel_rfl
theorem aMu:aE Tryz.prog 175=true:=by kernel_rfl
theorem aMt:mf175.body.good=true:=by kernel_rfl
theorem aHM:aU Tryz.prog 176=some mf176.er:=by kernel_rfl
theorem aMs:aE Tryz.prog 176=true:=by kernel_rfl
theorem aMr:mf176.body.good=true:=by kernel_rfl
theorem aCb:L176_0.good=true:=by kernel_rfl
theorem aHL:aU Tryz.prog 177=some mf177.er:=by kernel_rfl
theorem aMq:aE Tryz.prog 177=true:=by kernel_rfl
theorem aMp:mf177.body.good=true:=by kernel_rfl
theorem aHK:aU Tryz.prog 178=some mf178.er:=by kernel_rfl
theorem aMo:aE Tryz.prog 178=true:=by kernel_rfl
theorem aMn:mf178.body.good=true:=by kernel_rfl
theorem aHJ:aU Tryz.prog 179=some mf179.er:=by kernel_rfl
theorem aMm:aE Tryz.prog 179=true:=by kernel_rfl
theorem aMl:mf179.body.good=true:=by kernel_rfl
theorem aHI:aU Tryz.prog 180=some mf180.er:=by kernel_rfl
theorem aMj:aE Tryz.prog 180=true:=by kernel_rfl
theorem aMi:mf180.body.good=true:=by kernel_rfl
theorem aGt:aAF.good=true:=by kernel_rfl
theorem aGs:R180_0b.good=true:=by kernel_rfl
theorem aHH:aU Tryz.prog 181=some mf181.er:=by kernel_rfl
theorem aMh:aE Tryz.prog 181=true:=by kernel_rfl
theorem aMg:mf181.body.good=true:=by kernel_rfl
theorem aHG:aU Tryz.prog 182=some mf182.er:=by kernel_rfl
theorem aMf:aE Tryz.prog 182=true:=by kernel_rfl
theorem aMe:mf182.body.good=true:=by kernel_rfl
theorem aGr:aAE.good=true:=by kernel_rfl
theorem aGq:R182_0b.good=true:=by kernel_rfl
theorem aHF:aU Tryz.prog 183=some mf183.er:=by kernel_rfl
theorem aMd:aE Tryz.prog 183=true:=by kernel_rfl
theorem aMc:mf183.body.good=true:=by kernel_rfl
theorem aHE:aU Tryz.prog 188=some mf188.er:=by kernel_rfl
theorem aMb:aE Tryz.prog 188=true:=by kernel_rfl
theorem aMa:mf188.body.good=true:=by kernel_rfl
theorem aCa:L188_0.good=true:=by kernel_rfl
theorem aHD:aU Tryz.prog 189=some mf189.er:=by kernel_rfl
theorem aL9:aE Tryz.prog 189=true:=by kernel_rfl
theorem aL8:mf189.body.good=true:=by kernel_rfl
theorem aHC:aU Tryz.prog 190=some mf190.er:=by kernel_rfl
theorem aL6:aE Tryz.prog 190=true:=by kernel_rfl
theorem aL5:mf190.body.good=true:=by kernel_rfl
theorem aHB:aU Tryz.prog 191=some mf191.er:=by kernel_rfl
theorem aL4:aE Tryz.prog 191=true:=by kernel_rfl
theorem aL3:mf191.body.good=true:=by kernel_rfl
theorem aB9:L191_0.good=true:=by kernel_rfl
theorem aHA:aU Tryz.prog 195=some mf195.er:=by kernel_rfl
theorem aL2:aE Tryz.prog 195=true:=by kernel_rfl
theorem aL1:mf195.body.good=true:=by kernel_rfl
theorem aB8:L195_0.good=true:=by kernel_rfl
theorem aB7:L195_1.good=true:=by kernel_rfl
end
end Go.Proofs.Ab
