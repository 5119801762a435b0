/- The own layer under the proofs of this seat, part Tab: what calls of the program come to on an abstract heap. No condition. -/
import Derived.Test.YtajecdfdnlfndaaGreatG
import Derived.Test.YtajecdfdnlfndaaGreatChecked
import Derived.KernelRfl
set_option linter.unusedSimpArgs false
set_option linter.unusedVariables false
namespace Go.Proofs.Ab
open Go
def bO : Code → List Nat → Code
 | .seq a b,i :: r => if i = 0 then bO a r else bO b r
 | .cond _ a b,i :: r => if i = 0 then bO a r else bO b r
 | .block _ a,_ :: r => bO a r
 | .loop a,_ :: r => bO a r
 | .scope a,_ :: r => bO a r
 | .rangeFunc _ _ a b,i :: r => if i = 0 then bO a r else bO b r
 | c,_ => c
noncomputable def cZ (f : Nat) : Code := ((Tryz.prog.funcs[f]?).bind (·.body)).getD .skip
theorem aU : Tryz.prog.follows .mixedOrders = true := by kernel_rfl
noncomputable section
abbrev o_ (n : Nat) (x : MOp) : MIx := .op (some n) none x
abbrev q_ (n c : Nat) (b : Bool) (x : MOp) : MIx := .op (some n) (some (c,b)) x
abbrev m_ (n : Nat) : MOp := .mov (.t n)
abbrev i_ (n : Int) : Opd := .k (.int .i64 n)
abbrev f_ (n : Nat) : Opd := .k (.fn (.func n) [] [])
abbrev l_ (n : Nat) : MOp := .load (.t n) none
attribute [go_sem] o_ q_ m_ i_ f_ l_
abbrev a_ (n k : Nat) : MOp := .addr (.t n) k
abbrev x_ (e a b : Nat) : MOp := .idxs e (.t a) (.t b)
abbrev p_ (a b : Nat) : MOp := .pick (.t a) (.t b) (.k (.bool false))
abbrev r_ (a b : Nat) : MOp := .pick (.t a) (.k (.bool true)) (.t b)
abbrev b_ (b : Bool) : MOp := .mov (.k (.bool b))
abbrev e_ (n k : Nat) : MOp := .ext (.t n) k
abbrev w_ (n k : Nat) : MOp := .load (.t n) (some k)
abbrev n_ (n : Nat) : MOp := .len (.t n)
abbrev s_ (a b k : Nat) : MIx := .op none none (.store (.t a) (.t b) k)
abbrev c_ (n f : Nat) (l : List Opd) : MIx := .call (some n) none (.k (.fn (.func f) [] [])) l
abbrev d_ (n c : Nat) (b : Bool) (f : Nat) (l : List Opd) : MIx := .call (some n) (some (c,b)) (.k (.fn (.func f) [] [])) l
abbrev v_ (n k : Nat) : MIx := .op (some n) none (.mov (.t k))
abbrev y_ (n k : Nat) : MIx := .op (some n) none (.load (.t k) none)
abbrev z_ (n e a b : Nat) : MIx := .op (some n) none (.idxs e (.t a) (.t b))
abbrev j_ (n k : Nat) : MIx := .op (some n) none (.bin .add (.t k) (.k (.int .i64 1)))
attribute [go_sem] a_ x_ p_ r_ b_ e_ w_ n_ s_ c_ d_ v_ y_ z_ j_
def mf14 : SF := ⟨149,[(.t 4)],
 (.seq (.reg [o_ 3 (.box (.t 1) 4),o_ 4 (b_ false)])
 (.seq (.seq (.reg [v_ 17 0,o_ 18 (n_ 17),o_ 19 (.bin .gtr (.t 18) (i_ 20))])
 (.cond (.t 19) (.seq (.reg [c_ 20 16 [],v_ 4 20])
 .ret)
 .skip))
 (.seq (.reg [v_ 22 0,o_ 23 (w_ 3 4),c_ 24 28 [(.t 22),(.t 23)],v_ 21 24,o_ 25 (e_ 21 0),o_ 26 (e_ 21 1),o_ 27 (e_ 21 2),o_ 6 (.alloc [(.int .i64 0),(.int .i64 0),(.int .i64 0),(.int .i64 0)]),v_ 5 25,s_ 6 26 4,v_ 7 27])
 (.seq (.reg [v_ 29 0,o_ 30 (w_ 3 4),c_ 31 55 [(.t 29),(.t 30)],v_ 28 31,o_ 32 (e_ 28 0),o_ 33 (e_ 28 1),v_ 8 32,v_ 9 33])
 (.seq (.reg [v_ 35 0,o_ 36 (w_ 3 4),c_ 37 56 [(.t 35),(.t 36)],v_ 34 37,o_ 38 (e_ 34 0),o_ 39 (e_ 34 1),v_ 10 38,v_ 11 39])
 (.seq (.seq (.reg [v_ 40 0,o_ 41 (w_ 3 4),c_ 42 26 [(.t 40),(.t 41)],v_ 12 42])
 (.seq (.reg [v_ 43 12,o_ 44 (.bin .neq (.t 43) (i_ 0))])
 (.cond (.t 44) (.seq (.reg [v_ 45 7,v_ 46 12,o_ 47 (.bin .eql (.t 45) (.t 46)),v_ 48 47,q_ 49 48 true (m_ 9),q_ 50 48 true (m_ 12),q_ 51 48 true (.bin .eql (.t 49) (.t 50)),o_ 52 (p_ 48 51),v_ 53 52,q_ 54 53 true (m_ 11),q_ 55 53 true (m_ 12),q_ 56 53 true (.bin .eql (.t 54) (.t 55)),o_ 57 (p_ 53 56),v_ 58 57,q_ 59 58 true (m_ 5),q_ 60 58 true (.un .not (.t 59)),o_ 61 (p_ 58 60),v_ 62 61,q_ 63 62 true (w_ 6 4),q_ 64 62 true (.build [(.int .i64 0),(.int .i64 0),(.int .i64 0),(.int .i64 0)] []),q_ 65 62 true (.eqag [true,true,true,true] false (.t 63) (.t 64)),o_ 66 (p_ 62 65),v_ 67 66,q_ 68 67 true (m_ 8),q_ 69 67 true (.bin .eql (.t 68) (i_ 0)),o_ 70 (p_ 67 69),v_ 71 70,q_ 72 71 true (m_ 10),q_ 73 71 true (n_ 72),q_ 74 71 true (.bin .eql (.t 73) (i_ 0)),o_ 75 (p_ 71 74),v_ 76 75,d_ 77 76 true 16 [],o_ 78 (p_ 76 77),v_ 4 78])
 .ret)
 .skip)))
 (.seq (.reg [v_ 80 0,o_ 81 (w_ 3 4),c_ 82 57 [(.t 80),(.t 81)],v_ 79 82,o_ 83 (e_ 79 0),o_ 84 (e_ 79 1),o_ 14 (.alloc [(.int .i64 0),(.int .i64 0),(.int .i64 0),(.int .i64 0)]),v_ 13 83,s_ 14 84 4])
 (.seq (.seq (.reg [v_ 85 7,o_ 86 (.bin .neq (.t 85) (i_ 0)),v_ 87 86,q_ 88 87 false (m_ 5),q_ 89 87 false (m_ 13),q_ 90 87 false (.eqb true (.t 88) (.t 89)),o_ 91 (r_ 87 90),v_ 92 91,q_ 93 92 false (w_ 6 4),q_ 94 92 false (w_ 14 4),q_ 95 92 false (.eqag [true,true,true,true] true (.t 93) (.t 94)),o_ 96 (r_ 92 95)])
 (.cond (.t 96) (.seq (.reg [o_ 4 (b_ false)])
 .ret)
 .skip))
 (.seq (.seq (.reg [v_ 97 13,o_ 98 (.un .not (.t 97)),v_ 99 98,q_ 100 99 true (m_ 9),q_ 101 99 true (.bin .neq (.t 100) (i_ 7)),q_ 102 99 true (m_ 101),q_ 103 102 false (m_ 8),q_ 104 102 false (.bin .neq (.t 103) (i_ 0)),q_ 105 99 true (r_ 102 104),o_ 106 (p_ 99 105),v_ 107 106,q_ 108 107 false (m_ 13),q_ 109 107 false (m_ 108),q_ 110 109 true (m_ 9),q_ 111 109 true (.bin .neq (.t 110) (i_ 0)),q_ 112 109 true (m_ 111),q_ 113 112 false (m_ 8),q_ 114 112 false (m_ 0),q_ 115 112 false (w_ 3 4),d_ 116 112 false 58 [(.t 114),(.t 115)],q_ 117 112 false (.bin .neq (.t 113) (.t 116)),q_ 118 109 true (r_ 112 117),q_ 119 107 false (p_ 109 118),o_ 120 (r_ 107 119)])
 (.cond (.t 120) (.seq (.reg [o_ 4 (b_ false)])
 .ret)
 .skip))
 (.seq (.reg [v_ 122 0,o_ 123 (w_ 3 4),c_ 124 59 [(.t 122),(.t 123)],v_ 121 124,o_ 125 (e_ 121 0),o_ 126 (e_ 121 1),v_ 15 125,v_ 16 126])
 (.seq (.seq (.reg [v_ 127 16,o_ 128 (.un .not (.t 127))])
 (.cond (.t 128) (.seq (.reg [v_ 129 11,o_ 130 (.bin .eql (.t 129) (i_ 5)),v_ 131 130,q_ 132 131 true (m_ 10),q_ 133 131 true (n_ 132),q_ 134 131 true (.bin .eql (.t 133) (i_ 0)),o_ 135 (p_ 131 134),v_ 136 135,d_ 137 136 true 16 [],o_ 138 (p_ 136 137),v_ 4 138])
 .ret)
 .skip))
 (.seq (.reg [v_ 139 11,o_ 140 (.bin .eql (.t 139) (i_ 0)),v_ 141 140,q_ 142 141 true (m_ 10),q_ 143 141 true (m_ 15),d_ 144 141 true 21 [(.t 142),(.t 143)],o_ 145 (p_ 141 144),v_ 146 145,d_ 147 146 true 16 [],o_ 148 (p_ 146 147),v_ 4 148])
 .ret))))))))))))⟩
def mf16 : SF := ⟨131,[(.t 0)],
 (.seq (.reg [o_ 0 (b_ false)])
 (.seq (.reg [c_ 19 63 [],c_ 20 17 [(.t 19),(i_ 3)],v_ 18 20,o_ 21 (e_ 18 0),o_ 22 (e_ 18 1),v_ 1 21,v_ 2 22])
 (.seq (.reg [c_ 24 63 [],c_ 25 18 [(.t 24),(i_ 2)],v_ 23 25,o_ 26 (e_ 23 0),o_ 27 (e_ 23 1),o_ 28 (e_ 23 2),v_ 3 26,v_ 4 27,v_ 5 28])
 (.seq (.reg [c_ 30 64 [],o_ 31 (.build [(.int .i64 0),(.int .i64 0)] [(0,1,(i_ (-400))),(1,1,(i_ 400))]),o_ 32 (.build [(.int .i64 0),(.int .i64 0)] [(0,1,(i_ (-301))),(1,1,(i_ 300))]),o_ 33 (.build [(.int .i64 0),(.int .i64 0),(.int .i64 0),(.int .i64 0)] [(0,2,(.t 31)),(2,2,(.t 32))]),c_ 34 28 [(.t 30),(.t 33)],v_ 29 34,o_ 35 (e_ 29 0),o_ 36 (e_ 29 1),o_ 37 (e_ 29 2),o_ 7 (.alloc [(.int .i64 0),(.int .i64 0),(.int .i64 0),(.int .i64 0)]),v_ 6 35,s_ 7 36 4,v_ 8 37])
 (.seq (.reg [c_ 39 65 [],c_ 40 47 [(i_ 1),(.t 39)],v_ 38 40,o_ 41 (e_ 38 0),o_ 42 (e_ 38 1),v_ 9 41,v_ 10 42])
 (.seq (.reg [c_ 44 66 [],c_ 45 36 [(i_ 2),(.t 44)],v_ 43 45,o_ 46 (e_ 43 0),o_ 47 (e_ 43 1),o_ 48 (e_ 43 2),v_ 11 46,v_ 12 47,v_ 13 48])
 (.seq (.reg [o_ 50 (.bslice 1 [(.int .i64 0)] 2 [(0,1,(i_ 10)),(1,1,(i_ 5))]),o_ 51 (.build [(.int .i64 0),(.int .i64 0),(.int .i64 0),(.int .i64 0)] [(2,1,(i_ 3)),(3,1,(i_ 3))]),o_ 52 (.build [(.int .i64 0),(.int .i64 0),(.int .i64 0),(.int .i64 0)] [(0,1,(i_ 1)),(2,1,(i_ (-2))),(3,1,(i_ (-1)))]),o_ 53 (.bslice 4 [(.int .i64 0),(.int .i64 0),(.int .i64 0),(.int .i64 0)] 2 [(0,4,(.t 51)),(4,4,(.t 52))]),c_ 54 67 [(.t 50),(i_ 1),(.t 53)],v_ 49 54,o_ 55 (e_ 49 0),o_ 56 (e_ 49 1),o_ 57 (e_ 49 2),o_ 58 (e_ 49 3),v_ 14 55,v_ 15 56,v_ 16 57,v_ 17 58])
 (.seq (.seq (.reg [v_ 59 2,o_ 60 (.bin .neq (.t 59) (i_ 0)),v_ 61 60,q_ 62 61 false (m_ 5),q_ 63 61 false (.bin .neq (.t 62) (i_ 0)),o_ 64 (r_ 61 63),v_ 65 64,q_ 66 65 false (m_ 8),q_ 67 65 false (.bin .neq (.t 66) (i_ 0)),o_ 68 (r_ 65 67),v_ 69 68,q_ 70 69 false (m_ 10),q_ 71 69 false (.bin .neq (.t 70) (i_ 0)),o_ 72 (r_ 69 71),v_ 73 72,q_ 74 73 false (m_ 13),q_ 75 73 false (.bin .neq (.t 74) (i_ 0)),o_ 76 (r_ 73 75),v_ 77 76,q_ 78 77 false (m_ 17),q_ 79 77 false (.bin .neq (.t 78) (i_ 0)),o_ 80 (r_ 77 79),v_ 81 80,q_ 82 81 false (m_ 3),q_ 83 81 false (.bin .neq (.t 82) (i_ 730)),o_ 84 (r_ 81 83),v_ 85 84,q_ 86 85 false (m_ 6),o_ 87 (r_ 85 86),v_ 88 87,q_ 89 88 false (m_ 14),q_ 90 88 false (.bin .neq (.t 89) (i_ 1)),o_ 91 (r_ 88 90)])
 (.cond (.t 91) (.seq (.reg [o_ 0 (b_ false)])
 .ret)
 .skip))
 (.seq (.reg [v_ 92 1,o_ 93 (.bslice 1 [(.int .i64 0)] 4 [(0,1,(i_ 0)),(1,1,(i_ 1)),(2,1,(i_ 0)),(3,1,(i_ 2))]),c_ 94 21 [(.t 92),(.t 93)],v_ 95 94,q_ 96 95 true (m_ 4),q_ 97 95 true (.bslice 1 [(.int .i64 0)] 3 [(0,1,(i_ 1)),(1,1,(i_ 2)),(2,1,(i_ 3))]),d_ 98 95 true 21 [(.t 96),(.t 97)],o_ 99 (p_ 95 98),v_ 100 99,q_ 101 100 true (w_ 7 4),q_ 102 100 true (.build [(.int .i64 0),(.int .i64 0),(.int .i64 0),(.int .i64 0)] [(0,1,(i_ (-400))),(1,1,(i_ (-301))),(3,1,(i_ 10))]),q_ 103 100 true (.eqag [true,true,true,true] false (.t 101) (.t 102)),o_ 104 (p_ 100 103),v_ 105 104,q_ 106 105 true (m_ 9),q_ 107 105 true (.bslice 1 [(.int .i64 0)] 3 [(0,1,(i_ 1)),(1,1,(i_ 0)),(2,1,(i_ 2))]),d_ 108 105 true 21 [(.t 106),(.t 107)],o_ 109 (p_ 105 108),v_ 110 109,q_ 111 110 true (m_ 11),q_ 112 110 true (.bslice 1 [(.int .i64 0)] 2 [(0,1,(i_ 0)),(1,1,(i_ 1))]),d_ 113 110 true 21 [(.t 111),(.t 112)],o_ 114 (p_ 110 113),v_ 115 114,q_ 116 115 true (m_ 12),q_ 117 115 true (.bslice 1 [(.int .i64 0)] 3 [(0,1,(i_ 0)),(1,1,(i_ 1)),(2,1,(i_ 0))]),d_ 118 115 true 21 [(.t 116),(.t 117)],o_ 119 (p_ 115 118),v_ 120 119,q_ 121 120 true (m_ 15),q_ 122 120 true (.build [(.int .i64 0),(.int .i64 0)] [(0,1,(i_ 3)),(1,1,(i_ 3))]),q_ 123 120 true (.bslice 2 [(.int .i64 0),(.int .i64 0)] 1 [(0,2,(.t 122))]),d_ 124 120 true 68 [(.t 121),(.t 123)],o_ 125 (p_ 120 124),v_ 126 125,q_ 127 126 true (m_ 16),q_ 128 126 true (.bslice 1 [(.int .i64 0)] 2 [(0,1,(i_ 7)),(1,1,(i_ 5))]),d_ 129 126 true 21 [(.t 127),(.t 128)],o_ 130 (p_ 126 129),v_ 0 130])
 .ret)))))))))⟩
def mf17 : SF := ⟨28,[(.t 4),(.t 5)],
 (.seq (.reg [o_ 2 (.box (.t 0) 1),o_ 3 (.box (.t 1) 1),o_ 4 (.mov (.k .nilS)),o_ 5 (.mov (i_ 0))])
 (.seq (.seq (.reg [y_ 11 2,y_ 12 3,c_ 13 69 [(.t 11),(.t 12)],v_ 6 13])
 (.seq (.reg [v_ 14 6,o_ 15 (.bin .neq (.t 14) (i_ 0))])
 (.cond (.t 15) (.seq (.reg [v_ 16 6,o_ 4 (.mov (.k .nilS)),v_ 5 16])
 .ret)
 .skip)))
 (.seq (.seq (.reg [y_ 18 2,y_ 19 3,c_ 20 70 [(.t 18),(.t 19)],v_ 17 20,o_ 21 (e_ 17 0),o_ 22 (e_ 17 1),v_ 7 21,v_ 8 22])
 (.seq (.reg [v_ 23 8])
 (.cond (.t 23) (.seq (.reg [o_ 4 (.mov (.k .nilS)),o_ 5 (.mov (i_ 5))])
 .ret)
 .skip)))
 (.seq (.reg [o_ 9 (.alloc [.nilS])])
 (.seq (.reg [o_ 10 (.alloc [.nilF])])
 (.seq (.reg [o_ 24 (.mkfn (.func 71) [] [(.t 9),(.t 2),(.t 3),(.t 10)]),s_ 10 24 1])
 (.seq (.reg [y_ 25 10,.call (some 26) none (.t 25) []])
 (.seq (.reg [y_ 27 9,v_ 4 27,o_ 5 (.mov (i_ 0))])
 .ret))))))))⟩
def mf18 : SF := ⟨28,[(.t 4),(.t 5),(.t 6)],
 (.seq (.reg [o_ 4 (.mov (i_ 0)),o_ 5 (.mov (.k .nilS)),o_ 6 (.mov (i_ 0))])
 (.seq (.seq (.reg [v_ 10 0,v_ 11 1,c_ 12 69 [(.t 10),(.t 11)],v_ 7 12])
 (.seq (.reg [v_ 13 7,o_ 14 (.bin .neq (.t 13) (i_ 0))])
 (.cond (.t 14) (.seq (.reg [v_ 15 7,o_ 4 (.mov (i_ 0)),o_ 5 (.mov (.k .nilS)),v_ 6 15])
 .ret)
 .skip)))
 (.seq (.reg [v_ 17 0,v_ 18 1,c_ 19 70 [(.t 17),(.t 18)],v_ 16 19,o_ 20 (e_ 16 0),o_ 21 (e_ 16 1),v_ 8 20,v_ 9 21])
 (.seq (.seq (.reg [v_ 22 9,o_ 23 (.un .not (.t 22))])
 (.cond (.t 23) (.seq (.reg [o_ 4 (.mov (i_ 0)),o_ 5 (.mov (.k .nilS)),o_ 6 (.mov (i_ 6))])
 .ret)
 .skip))
 (.seq (.reg [v_ 24 8,v_ 25 0,v_ 26 8,c_ 27 73 [(.t 25),(.t 26)],v_ 4 24,v_ 5 27,o_ 6 (.mov (i_ 0))])
 .ret)))))⟩
def L21_0 : SC := (.seq (.seq (.reg [v_ 11 5,v_ 12 0,o_ 13 (n_ 12),o_ 14 (.bin .lss (.t 11) (.t 13))])
 (.cond (.t 14) .skip
 (.exit 0)))
 (.seq (.blk 1 (.seq (.draw [true] [v_ 17 0,v_ 18 5,z_ 19 1 17 18,y_ 20 19,v_ 21 1,v_ 22 5,z_ 23 1 21 22,y_ 24 23,o_ 25 (.bin .neq (.t 20) (.t 24))] [[],[],[0,1],[2,0,1],[],[],[4,5],[6,4,5],[3,2,0,1,7,6,4,5]])
 (.cond (.t 25) (.seq (.reg [o_ 4 (b_ false)])
 .ret)
 .skip)))
 (.reg [v_ 15 5,j_ 16 15,v_ 5 16])))
def mf21 : SF := ⟨26,[(.t 4)],
 (.seq (.reg [o_ 4 (b_ false)])
 (.seq (.seq (.reg [v_ 6 0,o_ 7 (n_ 6),v_ 8 1,o_ 9 (n_ 8),o_ 10 (.bin .neq (.t 7) (.t 9))])
 (.cond (.t 10) (.seq (.reg [o_ 4 (b_ false)])
 .ret)
 .skip))
 (.seq (.seq (.reg [o_ 5 (.mov (i_ 0))])
 (.blk 0 (.loop [0,1,5] L21_0)))
 (.seq (.reg [o_ 4 (b_ true)])
 .ret))))⟩
def mf26 : SF := ⟨16,[(.t 4)],
 (.seq (.reg [o_ 3 (.box (.t 1) 4),o_ 4 (.mov (i_ 0))])
 (.seq (.seq (.reg [v_ 5 0,o_ 6 (n_ 5),o_ 7 (.bin .gtr (.t 6) (i_ 8))])
 (.cond (.t 7) (.seq (.reg [o_ 4 (.mov (i_ 3))])
 .ret)
 .skip))
 (.seq (.seq (.reg [v_ 8 0,c_ 9 38 [(.t 8)],o_ 10 (.un .not (.t 9)),v_ 11 10,q_ 12 11 false (w_ 3 4),d_ 13 11 false 78 [(.t 12)],q_ 14 11 false (.un .not (.t 13)),o_ 15 (r_ 11 14)])
 (.cond (.t 15) (.seq (.reg [o_ 4 (.mov (i_ 2))])
 .ret)
 .skip))
 (.seq (.reg [o_ 4 (.mov (i_ 0))])
 .ret))))⟩
def mf28 : SF := ⟨25,[(.t 4),(.c 5 (some 4)),(.t 6)],
 (.seq (.reg [o_ 3 (.box (.t 1) 4),o_ 4 (b_ false),o_ 5 (.alloc [(.int .i64 0),(.int .i64 0),(.int .i64 0),(.int .i64 0)]),o_ 6 (.mov (i_ 0))])
 (.seq (.seq (.reg [v_ 10 0,o_ 11 (w_ 3 4),c_ 12 79 [(.t 10),(.t 11)],v_ 7 12])
 (.seq (.reg [v_ 13 7,o_ 14 (.bin .neq (.t 13) (i_ 0))])
 (.cond (.t 14) (.seq (.reg [o_ 15 (.build [(.int .i64 0),(.int .i64 0),(.int .i64 0),(.int .i64 0)] []),v_ 16 7,o_ 4 (b_ false),s_ 5 15 4,v_ 6 16])
 .ret)
 .skip)))
 (.seq (.reg [o_ 18 (w_ 3 4),v_ 19 0,c_ 20 80 [(.t 18),(.t 19)],v_ 17 20,o_ 21 (e_ 17 0),o_ 22 (e_ 17 1),o_ 9 (.alloc [(.int .i64 0),(.int .i64 0),(.int .i64 0),(.int .i64 0)]),v_ 8 21,s_ 9 22 4])
 (.seq (.draw [true] [v_ 23 8,o_ 24 (w_ 9 4),v_ 4 23,s_ 5 24 4,o_ 6 (.mov (i_ 0))] [[],[],[0],[1,2,0],[3,1,2,0]])
 .ret))))⟩
def D29_0 : List MIx := [o_ 5 (.addr (.t 3) 2),o_ 6 (l_ 5),o_ 7 (.addr (.t 3) 0),o_ 8 (l_ 7),o_ 9 (.bin .mul (.t 6) (.t 8)),o_ 10 (.addr (.t 3) 3),o_ 11 (l_ 10),o_ 12 (.addr (.t 3) 1),o_ 13 (l_ 12),o_ 14 (.bin .mul (.t 11) (.t 13)),o_ 15 (.bin .add (.t 9) (.t 14)),o_ 16 (.un .neg (.t 15)),o_ 17 (m_ 0),o_ 18 (.addr (.t 3) 2),o_ 19 (l_ 18),o_ 20 (.addr (.t 3) 3),o_ 21 (l_ 20),.call (some 22) none (f_ 81) [(.t 17),(.t 19),(.t 21)],o_ 23 (.bin .gtr (.t 16) (.t 22)),o_ 4 (m_ 23)]
def B29_0 : List (List Nat) := [[],[0],[],[2],[1,0,3,2],[],[5],[],[7],[6,5,8,7],[4,1,0,3,2,9,6,5,8,7],[10,4,1,0,3,2,9,6,5,8,7],[],[],[13],[],[15],[12,14,13,16,15],[11,10,4,1,0,3,2,9,6,5,8,7,17,12,14,13,16,15],[18,11,10,4,1,0,3,2,9,6,5,8,7,17,12,14,13,16,15]]
def mf29 : SF := ⟨24,[(.t 4)],
 (.seq (.reg [o_ 3 (.box (.t 1) 4),o_ 4 (b_ false)])
 (.seq (.draw [] D29_0 B29_0)
 .ret))⟩
def D36_0 : List MIx := [o_ 86 (m_ 9),o_ 87 (.load (.t 15) (some 8)),o_ 88 (.addr (.t 10) 8),o_ 89 (l_ 88),.call (some 90) none (f_ 90) [(.t 89)],o_ 91 (m_ 14),o_ 92 (.bslice 1 [(.int .i64 0)] 1 [(0,1,(.t 91))]),o_ 93 (.app 1 [(.int .i64 0)] 8 (.t 90) (.t 92)),o_ 94 (.build [(.int .i64 0),(.int .i64 0),(.int .i64 0),(.int .i64 0),(.int .i64 0),(.int .i64 0),(.int .i64 0),(.int .i64 0),.nilS] [(0,8,(.t 87)),(8,1,(.t 93))]),.call (some 95) none (f_ 86) [(.t 86),(.t 94)]]
def B36_0 : List (List Nat) := [[],[],[],[2],[3,2],[],[5],[4,3,2,6,5],[1,7,4,3,2,6,5],[0,8,1,7,4,3,2,6,5]]
def L36_0 : SC := (.seq (.reg [o_ 50 (.bin .lss (.t 49) (.t 48))])
 (.seq (.cond (.t 50) .skip
 (.exit 2))
 (.seq (.blk 3 (.seq (.reg [v_ 51 49,v_ 14 51])
 (.seq (.reg [o_ 53 (a_ 10 0),o_ 54 (w_ 53 8),v_ 55 1,v_ 56 14,c_ 57 88 [(.t 54),(.t 55),(.t 56)],v_ 52 57,o_ 58 (e_ 52 0),o_ 59 (e_ 52 1),o_ 15 (.alloc [(.int .i64 0),(.int .i64 0),(.int .i64 0),(.int .i64 0),(.int .i64 0),(.int .i64 0),(.int .i64 0),(.int .i64 0)]),s_ 15 58 8,v_ 16 59])
 (.seq (.seq (.reg [o_ 61 (a_ 10 0),o_ 62 (w_ 61 8),v_ 63 1,v_ 64 14,c_ 65 89 [(.t 62),(.t 63),(.t 64)],v_ 60 65,o_ 66 (e_ 60 0),o_ 67 (e_ 60 1),o_ 17 (.alloc [(.int .i64 0),(.int .i64 0)]),s_ 17 66 2,v_ 18 67])
 (.seq (.reg [v_ 68 18,v_ 69 68,q_ 70 69 true (m_ 16),q_ 71 69 true (.un .not (.t 70)),o_ 72 (p_ 69 71),v_ 73 72,q_ 74 73 true (m_ 12),q_ 75 73 true (.bin .eql (.t 74) (i_ (-1))),o_ 76 (p_ 73 75)])
 (.cond (.t 76) (.reg [v_ 77 14,v_ 12 77])
 .skip)))
 (.seq (.seq (.reg [v_ 78 16,o_ 79 (.un .not (.t 78))])
 (.cond (.t 79) (.exit 3)
 .skip))
 (.seq (.reg [o_ 13 (b_ true)])
 (.seq (.reg [v_ 80 8,o_ 81 (w_ 15 8),o_ 82 (.look (true,[true,true,true,true,true,true,true,true]) (.bool false) false (.t 80) (.t 81)),o_ 83 (.un .not (.t 82))])
 (.cond (.t 83) (.seq (.reg [v_ 84 8,o_ 85 (w_ 15 8),.op none none (.mput (true,[true,true,true,true,true,true,true,true]) (.t 84) (.t 85) (.k (.bool true)))])
 (.draw [] D36_0 B36_0))
 .skip))))))))
 (.reg [j_ 96 49,v_ 49 96]))))
def D36_1 : List MIx := [o_ 103 (.addr (.t 10) 8),o_ 104 (l_ 103),o_ 105 (.addr (.t 10) 0),o_ 106 (.load (.t 105) (some 8)),o_ 107 (m_ 1),o_ 108 (m_ 12),.call (some 109) none (f_ 91) [(.t 106),(.t 107),(.t 108)],o_ 4 (m_ 104),o_ 5 (m_ 109),o_ 6 (.mov (i_ 0))]
def B36_1 : List (List Nat) := [[],[0],[],[2],[],[],[3,2,4,5],[1,0,6,3,2,4,5],[6,3,2,4,5,7,1,0],[8,6,3,2,4,5,7,1,0]]
def L36_1 : SC := (.seq (.seq (.reg [v_ 41 11])
 (.cond (.t 41) .skip
 (.exit 0)))
 (.seq (.blk 1 (.seq (.reg [o_ 12 (.mov (i_ (-1))),o_ 13 (b_ false)])
 (.seq (.seq (.reg [v_ 47 1,o_ 48 (n_ 47),o_ 49 (.mov (i_ 0))])
 (.blk 2 (.loop [1,8,9,10,12,13,48,49] L36_0)))
 (.seq (.reg [v_ 97 12,o_ 98 (.bin .neq (.t 97) (i_ (-1))),v_ 99 98,q_ 100 99 true (m_ 13),q_ 101 99 true (.un .not (.t 100)),o_ 102 (p_ 99 101)])
 (.cond (.t 102) (.seq (.draw [] D36_1 B36_1)
 .ret)
 .skip)))))
 (.seq (.seq (.reg [o_ 110 (w_ 10 9)])
 (.reg [o_ 10 (.alloc [(.int .i64 0),(.int .i64 0),(.int .i64 0),(.int .i64 0),(.int .i64 0),(.int .i64 0),(.int .i64 0),(.int .i64 0),.nilS]),s_ 10 110 9]))
 (.reg [v_ 43 9,c_ 44 87 [(.t 43)],v_ 42 44,o_ 45 (e_ 42 0),o_ 46 (e_ 42 1),s_ 10 45 9,v_ 11 46]))))
def mf36 : SF := ⟨111,[(.t 4),(.t 5),(.t 6)],
 (.seq (.reg [o_ 4 (.mov (.k .nilS)),o_ 5 (.mov (.k .nilS)),o_ 6 (.mov (i_ 0))])
 (.seq (.seq (.reg [v_ 19 1,c_ 20 83 [(.t 19)]])
 (.cond (.t 20) (.seq (.reg [o_ 4 (.mov (.k .nilS)),o_ 5 (.mov (.k .nilS)),o_ 6 (.mov (i_ 3))])
 .ret)
 .skip))
 (.seq (.seq (.reg [v_ 21 0,v_ 22 1,c_ 23 84 [(.t 21),(.t 22)],o_ 24 (.un .not (.t 23))])
 (.cond (.t 24) (.seq (.reg [o_ 4 (.mov (.k .nilS)),o_ 5 (.mov (.k .nilS)),o_ 6 (.mov (i_ 2))])
 .ret)
 .skip))
 (.seq (.reg [c_ 25 85 [],o_ 26 (.build [(.int .i64 0),(.int .i64 0),(.int .i64 0),(.int .i64 0),(.int .i64 0),(.int .i64 0),(.int .i64 0),(.int .i64 0)] [(4,4,(.t 25))]),o_ 7 (.alloc [(.int .i64 0),(.int .i64 0),(.int .i64 0),(.int .i64 0),(.int .i64 0),(.int .i64 0),(.int .i64 0),(.int .i64 0)]),s_ 7 26 8])
 (.seq (.reg [o_ 27 .mkmap,o_ 28 (w_ 7 8),.op none none (.mput (true,[true,true,true,true,true,true,true,true]) (.t 27) (.t 28) (.k (.bool true))),v_ 29 27,v_ 8 29])
 (.seq (.reg [o_ 30 (.build [.nilS] []),o_ 31 (.box (.t 30) 1),v_ 9 31])
 (.seq (.reg [v_ 32 9,o_ 33 (w_ 7 8),o_ 34 (.build [(.int .i64 0),(.int .i64 0),(.int .i64 0),(.int .i64 0),(.int .i64 0),(.int .i64 0),(.int .i64 0),(.int .i64 0),.nilS] [(0,8,(.t 33))]),c_ 35 86 [(.t 32),(.t 34)]])
 (.seq (.seq (.reg [v_ 37 9,c_ 38 87 [(.t 37)],v_ 36 38,o_ 39 (e_ 36 0),o_ 40 (e_ 36 1),o_ 10 (.alloc [(.int .i64 0),(.int .i64 0),(.int .i64 0),(.int .i64 0),(.int .i64 0),(.int .i64 0),(.int .i64 0),(.int .i64 0),.nilS]),s_ 10 39 9,v_ 11 40])
 (.blk 0 (.loop [1,8,9,10,11] L36_1)))
 (.seq (.reg [o_ 4 (.mov (.k .nilS)),o_ 5 (.mov (.k .nilS)),o_ 6 (.mov (i_ 5))])
 .ret)))))))))⟩
def L38_0 : SC := (.seq (.seq (.reg [v_ 5 3,v_ 6 0,o_ 7 (n_ 6),o_ 8 (.bin .lss (.t 5) (.t 7))])
 (.cond (.t 8) .skip
 (.exit 0)))
 (.seq (.blk 1 (.seq (.reg [v_ 11 0,v_ 12 3,z_ 13 3 11 12,o_ 14 (w_ 13 3),o_ 4 (.alloc [(.int .i64 0),(.int .i64 0),(.int .i64 0)]),s_ 4 14 3])
 (.seq (.reg [o_ 15 (a_ 4 0),y_ 16 15,c_ 17 82 [(.t 16),(i_ (-100)),(i_ 100)],o_ 18 (.un .not (.t 17)),v_ 19 18,q_ 20 19 false (a_ 4 1),q_ 21 19 false (l_ 20),d_ 22 19 false 82 [(.t 21),(i_ (-100)),(i_ 100)],q_ 23 19 false (.un .not (.t 22)),o_ 24 (r_ 19 23),v_ 25 24,q_ 26 25 false (a_ 4 0),q_ 27 25 false (l_ 26),q_ 28 25 false (.bin .eql (.t 27) (i_ 0)),q_ 29 25 false (m_ 28),q_ 30 29 true (a_ 4 1),q_ 31 29 true (l_ 30),q_ 32 29 true (.bin .eql (.t 31) (i_ 0)),q_ 33 25 false (p_ 29 32),o_ 34 (r_ 25 33),v_ 35 34,q_ 36 35 false (a_ 4 2),q_ 37 35 false (l_ 36),d_ 38 35 false 82 [(.t 37),(i_ 0),(i_ 1000000)],q_ 39 35 false (.un .not (.t 38)),o_ 40 (r_ 35 39)])
 (.cond (.t 40) (.seq (.reg [o_ 2 (b_ false)])
 .ret)
 .skip))))
 (.reg [v_ 9 3,j_ 10 9,v_ 3 10])))
def mf38 : SF := ⟨41,[(.t 2)],
 (.seq (.reg [o_ 2 (b_ false)])
 (.seq (.seq (.reg [o_ 3 (.mov (i_ 0))])
 (.blk 0 (.loop [0,3] L38_0)))
 (.seq (.reg [o_ 2 (b_ true)])
 .ret)))⟩
def mf47 : SF := ⟨29,[(.t 4),(.t 5)],
 (.seq (.reg [o_ 4 (.mov (.k .nilS)),o_ 5 (.mov (i_ 0))])
 (.seq (.seq (.reg [v_ 8 0,v_ 9 1,c_ 10 98 [(.t 8),(.t 9)],v_ 6 10])
 (.seq (.reg [v_ 11 6,o_ 12 (.bin .neq (.t 11) (i_ 0))])
 (.cond (.t 12) (.seq (.reg [v_ 13 6,o_ 4 (.mov (.k .nilS)),v_ 5 13])
 .ret)
 .skip)))
 (.seq (.reg [v_ 14 1,c_ 15 99 [],o_ 16 (.build [.nilS,.nilM] [(0,1,(.t 14)),(1,1,(.t 15))]),o_ 17 .mkmap,o_ 18 (.build [.nilS,.nilM,.nilS,.nilM] [(0,2,(.t 16)),(3,1,(.t 17))]),o_ 19 (.box (.t 18) 4),v_ 7 19])
 (.seq (.seq (.reg [v_ 20 7,c_ 21 85 [],o_ 22 (.build [(.int .i64 0),(.int .i64 0),(.int .i64 0),(.int .i64 0),(.int .i64 0)] [(1,4,(.t 21))]),c_ 23 100 [(.t 20),(.t 22)],o_ 24 (.un .not (.t 23))])
 (.cond (.t 24) (.seq (.reg [o_ 4 (.mov (.k .nilS)),o_ 5 (.mov (i_ 5))])
 .ret)
 .skip))
 (.seq (.reg [v_ 25 7,o_ 26 (.nilck (.t 25)),o_ 27 (a_ 26 2),y_ 28 27,v_ 4 28,o_ 5 (.mov (i_ 0))])
 .ret)))))⟩
def D55_0 : List MIx := [o_ 32 (.load (.t 3) (some 4)),o_ 33 (m_ 0),.call (some 34) none (f_ 105) [(.t 33)],o_ 35 (m_ 9),o_ 36 (m_ 9),o_ 37 (.bin .add (.t 36) (i_ 1)),.call (some 38) none (f_ 104) [(.t 34),(.t 35),(.t 37)],.call (some 39) none (f_ 80) [(.t 32),(.t 38)],o_ 31 (m_ 39),o_ 40 (.ext (.t 31) 0),o_ 41 (.ext (.t 31) 1),o_ 11 (.alloc [(.int .i64 0),(.int .i64 0),(.int .i64 0),(.int .i64 0)]),o_ 10 (m_ 40),.op none none (.store (.t 11) (.t 41) 4)]
def B55_0 : List (List Nat) := [[],[],[1],[],[],[4],[2,1,3,5,4],[0,6,2,1,3,5,4],[7,0,6,2,1,3,5,4],[8,7,0,6,2,1,3,5,4],[8,7,0,6,2,1,3,5,4],[],[9,8,7,0,6,2,1,3,5,4,11],[11,10,8,7,0,6,2,1,3,5,4,12,9]]
def L55_0 : SC := (.seq (.reg [o_ 29 (.bin .lss (.t 28) (.t 27))])
 (.seq (.cond (.t 29) .skip
 (.exit 0))
 (.seq (.blk 1 (.seq (.reg [v_ 30 28,v_ 9 30])
 (.seq (.draw [] D55_0 B55_0)
 (.seq (.reg [v_ 42 10,o_ 43 (.un .not (.t 42))])
 (.cond (.t 43) (.seq (.reg [v_ 44 9,v_ 4 44,o_ 5 (.mov (i_ 0))])
 .ret)
 .skip)))))
 (.reg [j_ 45 28,v_ 28 45]))))
def mf55 : SF := ⟨46,[(.t 4),(.t 5)],
 (.seq (.reg [o_ 3 (.box (.t 1) 4),o_ 4 (.mov (i_ 0)),o_ 5 (.mov (i_ 0))])
 (.seq (.seq (.reg [v_ 12 0,o_ 13 (w_ 3 4),c_ 14 79 [(.t 12),(.t 13)],v_ 6 14])
 (.seq (.reg [v_ 15 6,o_ 16 (.bin .neq (.t 15) (i_ 0))])
 (.cond (.t 16) (.seq (.reg [v_ 17 6,o_ 4 (.mov (i_ 0)),v_ 5 17])
 .ret)
 .skip)))
 (.seq (.seq (.reg [o_ 19 (w_ 3 4),v_ 20 0,c_ 21 80 [(.t 19),(.t 20)],v_ 18 21,o_ 22 (e_ 18 0),o_ 23 (e_ 18 1),o_ 8 (.alloc [(.int .i64 0),(.int .i64 0),(.int .i64 0),(.int .i64 0)]),v_ 7 22,s_ 8 23 4])
 (.seq (.reg [v_ 24 7,o_ 25 (.un .not (.t 24))])
 (.cond (.t 25) (.seq (.reg [o_ 4 (.mov (i_ 0)),o_ 5 (.mov (i_ 7))])
 .ret)
 .skip)))
 (.seq (.seq (.reg [v_ 26 0,o_ 27 (n_ 26),o_ 28 (.mov (i_ 0))])
 (.blk 0 (.loop [0,3,27,28] L55_0)))
 (.seq (.reg [o_ 4 (.mov (i_ (-1))),o_ 5 (.mov (i_ 0))])
 .ret)))))⟩
def D56_0 : List MIx := [o_ 40 (m_ 10),o_ 41 (m_ 12),o_ 42 (.bslice 1 [(.int .i64 0)] 1 [(0,1,(.t 41))]),o_ 43 (.app 1 [(.int .i64 0)] 8 (.t 40) (.t 42)),o_ 44 (m_ 11),o_ 45 (.load (.t 13) (some 3)),o_ 46 (.bslice 3 [(.int .i64 0),(.int .i64 0),(.int .i64 0)] 1 [(0,3,(.t 45))]),o_ 47 (.app 3 [(.int .i64 0),(.int .i64 0),(.int .i64 0)] 24 (.t 44) (.t 46)),o_ 10 (m_ 43),o_ 11 (m_ 47)]
def B56_0 : List (List Nat) := [[],[],[1],[0,2,1],[],[],[5],[4,6,5,3,0,2,1],[3,0,2,1,7,4,6,5],[7,4,6,5,3,0,2,1,8]]
def L56_0 : SC := (.seq (.reg [o_ 31 (.bin .lss (.t 30) (.t 29))])
 (.seq (.cond (.t 31) .skip
 (.exit 2))
 (.seq (.blk 3 (.seq (.reg [v_ 32 30,z_ 33 3 28 30,o_ 34 (w_ 33 3),o_ 13 (.alloc [(.int .i64 0),(.int .i64 0),(.int .i64 0)]),v_ 12 32,s_ 13 34 3])
 (.seq (.reg [v_ 35 9,v_ 36 12,o_ 37 (.bin .shr (.t 35) (.t 36)),o_ 38 (.bin .and (.t 37) (i_ 1)),o_ 39 (.bin .eql (.t 38) (i_ 1))])
 (.cond (.t 39) (.draw [] D56_0 B56_0)
 .skip))))
 (.reg [j_ 48 30,v_ 30 48]))))
def L56_1 : SC := (.seq (.reg [o_ 26 (.bin .lss (.t 25) (.t 24))])
 (.seq (.cond (.t 26) .skip
 (.exit 0))
 (.seq (.blk 1 (.seq (.reg [v_ 27 25,v_ 9 27])
 (.seq (.reg [o_ 10 (.mov (.k .nilS))])
 (.seq (.reg [o_ 11 (.mov (.k .nilS))])
 (.seq (.seq (.reg [v_ 28 0,o_ 29 (n_ 28),o_ 30 (.mov (i_ 0))])
 (.blk 2 (.loop [0,3,7,8,9,10,11,24,25,28,29,30] L56_0)))
 (.seq (.seq (.reg [v_ 49 8,v_ 50 49,q_ 51 50 true (m_ 10),q_ 52 50 true (n_ 51),q_ 53 50 true (m_ 7),q_ 54 50 true (n_ 53),q_ 55 50 true (.bin .gtr (.t 52) (.t 54)),q_ 56 50 true (m_ 55),q_ 57 56 false (m_ 10),q_ 58 56 false (n_ 57),q_ 59 56 false (m_ 7),q_ 60 56 false (n_ 59),q_ 61 56 false (.bin .eql (.t 58) (.t 60)),q_ 62 56 false (m_ 61),q_ 63 62 true (m_ 10),q_ 64 62 true (m_ 7),d_ 65 62 true 106 [(.t 63),(.t 64)],q_ 66 62 true (.bin .geq (.t 65) (i_ 0)),q_ 67 56 false (p_ 62 66),q_ 68 50 true (r_ 56 67),o_ 69 (p_ 50 68)])
 (.cond (.t 69) (.exit 1)
 .skip))
 (.seq (.reg [o_ 71 (w_ 3 4),v_ 72 11,c_ 73 80 [(.t 71),(.t 72)],v_ 70 73,o_ 74 (e_ 70 0),o_ 75 (e_ 70 1),o_ 15 (.alloc [(.int .i64 0),(.int .i64 0),(.int .i64 0),(.int .i64 0)]),v_ 14 74,s_ 15 75 4])
 (.seq (.reg [v_ 76 14])
 (.cond (.t 76) (.reg [v_ 77 10,v_ 7 77,o_ 8 (b_ true)])
 .skip)))))))))
 (.reg [j_ 78 25,v_ 25 78]))))
def mf56 : SF := ⟨82,[(.t 4),(.t 5)],
 (.seq (.reg [o_ 3 (.box (.t 1) 4),o_ 4 (.mov (.k .nilS)),o_ 5 (.mov (i_ 0))])
 (.scope (.seq (.seq (.reg [v_ 16 0,o_ 17 (w_ 3 4),c_ 18 79 [(.t 16),(.t 17)],v_ 6 18])
 (.seq (.reg [v_ 19 6,o_ 20 (.bin .neq (.t 19) (i_ 0))])
 (.cond (.t 20) (.seq (.reg [v_ 21 6,o_ 4 (.mov (.k .nilS)),v_ 5 21])
 .ret)
 .skip)))
 (.seq (.reg [o_ 7 (.mov (.k .nilS))])
 (.seq (.reg [o_ 8 (b_ false)])
 (.seq (.lab 0)
 (.seq (.seq (.reg [v_ 22 0,o_ 23 (n_ 22),o_ 24 (.bin .shl (i_ 1) (.t 23)),o_ 25 (.mov (i_ 0))])
 (.blk 0 (.loop [0,3,7,8,24,25] L56_1)))
 (.seq (.seq (.reg [v_ 79 8,o_ 80 (.un .not (.t 79))])
 (.cond (.t 80) (.seq (.reg [o_ 4 (.mov (.k .nilS)),o_ 5 (.mov (i_ 5))])
 .ret)
 .skip))
 (.seq (.reg [v_ 81 7,v_ 4 81,o_ 5 (.mov (i_ 0))])
 .ret)))))))))⟩
def L57_0 : SC := (.seq (.seq (.reg [v_ 21 9,v_ 22 7,o_ 23 (n_ 22),o_ 24 (.bin .lss (.t 21) (.t 23))])
 (.cond (.t 24) .skip
 (.exit 2)))
 (.seq (.blk 3 (.seq (.draw [true] [v_ 27 6,v_ 28 8,z_ 29 1 27 28,y_ 30 29,o_ 31 (.idxs 1 (.t 30) (i_ 0)),y_ 32 31,v_ 33 6,v_ 34 8,z_ 35 1 33 34,y_ 36 35,o_ 37 (.idxs 1 (.t 36) (i_ 1)),y_ 38 37,v_ 39 7,v_ 40 9,z_ 41 1 39 40,y_ 42 41,o_ 43 (.idxs 1 (.t 42) (i_ 0)),y_ 44 43,v_ 45 7,v_ 46 9,z_ 47 1 45 46,y_ 48 47,o_ 49 (.idxs 1 (.t 48) (i_ 1)),y_ 50 49,o_ 51 (.build [(.int .i64 0),(.int .i64 0),(.int .i64 0),(.int .i64 0)] [(0,1,(.t 32)),(1,1,(.t 38)),(2,1,(.t 44)),(3,1,(.t 50))]),o_ 10 (.alloc [(.int .i64 0),(.int .i64 0),(.int .i64 0),(.int .i64 0)]),s_ 10 51 4] [[],[],[0,1],[2,0,1],[3,2,0,1],[4,3,2,0,1],[],[],[6,7],[8,6,7],[9,8,6,7],[10,9,8,6,7],[],[],[12,13],[14,12,13],[15,14,12,13],[16,15,14,12,13],[],[],[18,19],[20,18,19],[21,20,18,19],[22,21,20,18,19],[5,4,3,2,0,1,11,10,9,8,6,7,17,16,15,14,12,13,23,22,21,20,18,19],[],[25,24,5,4,3,2,0,1,11,10,9,8,6,7,17,16,15,14,12,13,23,22,21,20,18,19]])
 (.seq (.reg [v_ 52 0,o_ 53 (w_ 10 4),c_ 54 29 [(.t 52),(.t 53)]])
 (.cond (.t 54) (.seq (.draw [true] [o_ 55 (w_ 10 4),o_ 4 (b_ false),s_ 5 55 4] [[],[],[0,1]])
 .ret)
 .skip))))
 (.reg [v_ 25 9,j_ 26 25,v_ 9 26])))
def L57_1 : SC := (.seq (.seq (.reg [v_ 15 8,v_ 16 6,o_ 17 (n_ 16),o_ 18 (.bin .lss (.t 15) (.t 17))])
 (.cond (.t 18) .skip
 (.exit 0)))
 (.seq (.blk 1 (.seq (.reg [o_ 9 (.mov (i_ 0))])
 (.blk 2 (.loop [0,5,6,7,8,9] L57_0))))
 (.reg [v_ 19 8,j_ 20 19,v_ 8 20])))
def mf57 : SF := ⟨57,[(.t 4),(.c 5 (some 4))],
 (.seq (.reg [o_ 3 (.box (.t 1) 4),o_ 4 (b_ false),o_ 5 (.alloc [(.int .i64 0),(.int .i64 0),(.int .i64 0),(.int .i64 0)])])
 (.seq (.reg [o_ 11 (w_ 3 4),c_ 12 107 [(.t 11)],v_ 13 0,c_ 14 108 [(.t 13)],v_ 6 12,v_ 7 14])
 (.seq (.seq (.reg [o_ 8 (.mov (i_ 0))])
 (.blk 0 (.loop [0,5,6,7,8] L57_1)))
 (.seq (.reg [o_ 56 (.build [(.int .i64 0),(.int .i64 0),(.int .i64 0),(.int .i64 0)] []),o_ 4 (b_ true),s_ 5 56 4])
 .ret))))⟩
def D58_0 : List MIx := [o_ 15 (m_ 0),o_ 16 (m_ 5),.call (some 17) none (f_ 62) [(.t 15),(.t 16)],o_ 18 (.load (.t 3) (some 4)),.call (some 19) none (f_ 57) [(.t 17),(.t 18)],o_ 14 (m_ 19),o_ 20 (.ext (.t 14) 0),o_ 21 (.ext (.t 14) 1),o_ 7 (.alloc [(.int .i64 0),(.int .i64 0),(.int .i64 0),(.int .i64 0)]),o_ 6 (m_ 20),.op none none (.store (.t 7) (.t 21) 4)]
def B58_0 : List (List Nat) := [[],[],[0,1],[],[2,0,1,3],[4,2,0,1,3],[5,4,2,0,1,3],[5,4,2,0,1,3],[],[6,5,4,2,0,1,3,8],[8,7,5,4,2,0,1,3,9,6]]
def L58_0 : SC := (.seq (.seq (.reg [v_ 8 5,v_ 9 0,o_ 10 (n_ 9),o_ 11 (.bin .lss (.t 8) (.t 10))])
 (.cond (.t 11) .skip
 (.exit 0)))
 (.seq (.blk 1 (.seq (.draw [] D58_0 B58_0)
 (.seq (.reg [v_ 22 6,o_ 23 (.un .not (.t 22))])
 (.cond (.t 23) (.seq (.reg [v_ 24 5,v_ 4 24])
 .ret)
 .skip))))
 (.reg [v_ 12 5,j_ 13 12,v_ 5 13])))
def mf58 : SF := ⟨25,[(.t 4)],
 (.seq (.reg [o_ 3 (.box (.t 1) 4),o_ 4 (.mov (i_ 0))])
 (.seq (.seq (.reg [o_ 5 (.mov (i_ 0))])
 (.blk 0 (.loop [0,3,5] L58_0)))
 (.seq (.reg [o_ 4 (.mov (i_ (-1)))])
 .ret)))⟩
def D59_0 : List MIx := [o_ 28 (m_ 0),o_ 29 (m_ 7),o_ 30 (m_ 8),o_ 31 (.idxs 1 (.t 29) (.t 30)),o_ 32 (l_ 31),.call (some 33) none (f_ 61) [(.t 28),(.t 32)],o_ 34 (.load (.t 3) (some 4)),.call (some 35) none (f_ 57) [(.t 33),(.t 34)],o_ 27 (m_ 35),o_ 36 (.ext (.t 27) 0),o_ 37 (.ext (.t 27) 1),o_ 10 (.alloc [(.int .i64 0),(.int .i64 0),(.int .i64 0),(.int .i64 0)]),o_ 9 (m_ 36),.op none none (.store (.t 10) (.t 37) 4)]
def B59_0 : List (List Nat) := [[],[],[],[1,2],[3,1,2],[0,4,3,1,2],[],[5,0,4,3,1,2,6],[7,5,0,4,3,1,2,6],[8,7,5,0,4,3,1,2,6],[8,7,5,0,4,3,1,2,6],[],[9,8,7,5,0,4,3,1,2,6,11],[11,10,8,7,5,0,4,3,1,2,6,12,9]]
def L59_0 : SC := (.seq (.seq (.reg [v_ 21 8,v_ 22 7,o_ 23 (n_ 22),o_ 24 (.bin .lss (.t 21) (.t 23))])
 (.cond (.t 24) .skip
 (.exit 2)))
 (.seq (.blk 3 (.seq (.draw [] D59_0 B59_0)
 (.seq (.reg [v_ 38 9])
 (.cond (.t 38) (.seq (.reg [v_ 39 7,v_ 40 8,z_ 41 1 39 40,y_ 42 41,v_ 4 42,o_ 5 (b_ true)])
 .ret)
 .skip))))
 (.reg [v_ 25 8,j_ 26 25,v_ 8 26])))
def L59_1 : SC := (.seq (.seq (.reg [v_ 11 6,v_ 12 0,o_ 13 (n_ 12),o_ 14 (.bin .leq (.t 11) (.t 13))])
 (.cond (.t 14) .skip
 (.exit 0)))
 (.seq (.blk 1 (.seq (.reg [v_ 17 0,o_ 18 (n_ 17),v_ 19 6,c_ 20 109 [(.t 18),(.t 19)],v_ 7 20])
 (.seq (.reg [o_ 8 (.mov (i_ 0))])
 (.blk 2 (.loop [0,3,6,7,8] L59_0)))))
 (.reg [v_ 15 6,j_ 16 15,v_ 6 16])))
def mf59 : SF := ⟨43,[(.t 4),(.t 5)],
 (.seq (.reg [o_ 3 (.box (.t 1) 4),o_ 4 (.mov (.k .nilS)),o_ 5 (b_ false)])
 (.seq (.seq (.reg [o_ 6 (.mov (i_ 0))])
 (.blk 0 (.loop [0,3,6] L59_1)))
 (.seq (.reg [o_ 4 (.mov (.k .nilS)),o_ 5 (b_ false)])
 .ret)))⟩
def L61_0 : SC := (.seq (.seq (.reg [v_ 7 6,v_ 8 1,o_ 9 (n_ 8),o_ 10 (.bin .lss (.t 7) (.t 9))])
 (.cond (.t 10) .skip
 (.exit 0)))
 (.seq (.blk 1 (.reg [v_ 13 5,v_ 14 0,v_ 15 1,v_ 16 6,z_ 17 1 15 16,y_ 18 17,z_ 19 3 14 18,o_ 20 (w_ 19 3),o_ 21 (.bslice 3 [(.int .i64 0),(.int .i64 0),(.int .i64 0)] 1 [(0,3,(.t 20))]),o_ 22 (.app 3 [(.int .i64 0),(.int .i64 0),(.int .i64 0)] 24 (.t 13) (.t 21)),v_ 5 22]))
 (.reg [v_ 11 6,j_ 12 11,v_ 6 12])))
def mf61 : SF := ⟨24,[(.t 4)],
 (.seq (.reg [o_ 4 (.mov (.k .nilS))])
 (.seq (.reg [o_ 5 (.mov (.k .nilS))])
 (.seq (.seq (.reg [o_ 6 (.mov (i_ 0))])
 (.blk 0 (.loop [0,1,5,6] L61_0)))
 (.seq (.reg [v_ 23 5,v_ 4 23])
 .ret))))⟩
def mf62 : SF := ⟨14,[(.t 4)],
 (.seq (.reg [o_ 4 (.mov (.k .nilS))])
 (.seq (.draw [true] [v_ 5 0,v_ 6 1,o_ 7 (.slc 3 (.t 5) none (some (.t 6)) none),o_ 8 (.app 3 [(.int .i64 0),(.int .i64 0),(.int .i64 0)] 24 (.k .nilS) (.t 7)),v_ 9 0,v_ 10 1,j_ 11 10,o_ 12 (.slc 3 (.t 9) (some (.t 11)) none none),o_ 13 (.app 3 [(.int .i64 0),(.int .i64 0),(.int .i64 0)] 24 (.t 8) (.t 12)),v_ 4 13] [[],[],[0,1],[2,0,1],[],[],[5],[4,6,5],[3,2,0,1,7,4,6,5],[8,3,2,0,1,7,4,6,5]])
 .ret))⟩
def mf63 : SF := ⟨14,[(.t 0)],
 (.seq (.reg [o_ 0 (.mov (.k .nilS))])
 (.seq (.reg [o_ 1 (.build [(.int .i64 0),(.int .i64 0)] [(0,1,(i_ 600)),(1,1,(i_ 620))]),o_ 2 (.build [(.int .i64 0),(.int .i64 0)] [(0,1,(i_ 700)),(1,1,(i_ 710))]),o_ 3 (.build [(.int .i64 0),(.int .i64 0),(.int .i64 0),(.int .i64 0)] [(0,2,(.t 1)),(2,2,(.t 2))]),o_ 4 (.build [(.int .i64 0),(.int .i64 0)] [(0,1,(i_ 650)),(1,1,(i_ 660))]),o_ 5 (.build [(.int .i64 0),(.int .i64 0)] [(0,1,(i_ 720)),(1,1,(i_ 730))]),o_ 6 (.build [(.int .i64 0),(.int .i64 0),(.int .i64 0),(.int .i64 0)] [(0,2,(.t 4)),(2,2,(.t 5))]),o_ 7 (.build [(.int .i64 0),(.int .i64 0)] [(0,1,(i_ 711)),(1,1,(i_ 715))]),o_ 8 (.build [(.int .i64 0),(.int .i64 0)] [(0,1,(i_ 800)),(1,1,(i_ 800))]),o_ 9 (.build [(.int .i64 0),(.int .i64 0),(.int .i64 0),(.int .i64 0)] [(0,2,(.t 7)),(2,2,(.t 8))]),o_ 10 (.build [(.int .i64 0),(.int .i64 0)] [(0,1,(i_ 730)),(1,1,(i_ 740))]),o_ 11 (.build [(.int .i64 0),(.int .i64 0)] [(0,1,(i_ 760)),(1,1,(i_ 765))]),o_ 12 (.build [(.int .i64 0),(.int .i64 0),(.int .i64 0),(.int .i64 0)] [(0,2,(.t 10)),(2,2,(.t 11))]),o_ 13 (.bslice 4 [(.int .i64 0),(.int .i64 0),(.int .i64 0),(.int .i64 0)] 4 [(0,4,(.t 3)),(4,4,(.t 6)),(8,4,(.t 9)),(12,4,(.t 12))]),v_ 0 13])
 .ret))⟩
def mf64 : SF := ⟨6,[(.t 0)],
 (.seq (.reg [o_ 0 (.mov (.k .nilS))])
 (.seq (.reg [o_ 1 (.build [(.int .i64 0),(.int .i64 0),(.int .i64 0)] [(0,1,(i_ 10)),(2,1,(i_ 50))]),o_ 2 (.build [(.int .i64 0),(.int .i64 0),(.int .i64 0)] [(0,1,(i_ (-10))),(2,1,(i_ 50))]),o_ 3 (.build [(.int .i64 0),(.int .i64 0),(.int .i64 0)] [(1,1,(i_ 10)),(2,1,(i_ 30))]),o_ 4 (.build [(.int .i64 0),(.int .i64 0),(.int .i64 0)] [(1,1,(i_ (-10))),(2,1,(i_ 30))]),o_ 5 (.bslice 3 [(.int .i64 0),(.int .i64 0),(.int .i64 0)] 4 [(0,3,(.t 1)),(3,3,(.t 2)),(6,3,(.t 3)),(9,3,(.t 4))]),v_ 0 5])
 .ret))⟩
def mf65 : SF := ⟨5,[(.t 0)],
 (.seq (.reg [o_ 0 (.mov (.k .nilS))])
 (.seq (.reg [o_ 1 (.build [(.int .i64 0),(.int .i64 0),(.int .i64 0),(.int .i64 0),(.int .i64 0),(.int .i64 0),(.int .i64 0)] [(0,1,(i_ 0)),(1,1,(i_ 1)),(4,1,(i_ 1)),(5,1,(i_ 4))]),o_ 2 (.build [(.int .i64 0),(.int .i64 0),(.int .i64 0),(.int .i64 0),(.int .i64 0),(.int .i64 0),(.int .i64 0)] [(0,1,(i_ 1)),(1,1,(i_ 1)),(4,1,(i_ 2)),(5,1,(i_ 3)),(6,1,(i_ 1))]),o_ 3 (.build [(.int .i64 0),(.int .i64 0),(.int .i64 0),(.int .i64 0),(.int .i64 0),(.int .i64 0),(.int .i64 0)] [(0,1,(i_ 0)),(1,1,(i_ 3)),(4,1,(i_ 5)),(5,1,(i_ 6)),(6,1,(i_ 1))]),o_ 4 (.bslice 7 [(.int .i64 0),(.int .i64 0),(.int .i64 0),(.int .i64 0),(.int .i64 0),(.int .i64 0),(.int .i64 0)] 3 [(0,7,(.t 1)),(7,7,(.t 2)),(14,7,(.t 3))]),v_ 0 4])
 .ret))⟩
def mf66 : SF := ⟨22,[(.t 0)],
 (.seq (.reg [o_ 0 (.mov (.k .nilS))])
 (.seq (.reg [o_ 1 (.mov (i_ 1)),o_ 2 (.mov (i_ 2))])
 (.seq (.reg [v_ 3 1,o_ 4 (.build [(.int .i64 0),(.int .i64 0)] [(0,1,(.t 3)),(1,1,(i_ 0))]),v_ 5 1,o_ 6 (.build [(.int .i64 0),(.int .i64 0)] [(0,1,(.t 5)),(1,1,(i_ 1))]),v_ 7 2,o_ 8 (.build [(.int .i64 0),(.int .i64 0)] [(0,1,(.t 7)),(1,1,(i_ 1))]),v_ 9 2,o_ 10 (.build [(.int .i64 0),(.int .i64 0)] [(0,1,(.t 9)),(1,1,(i_ 0))]),o_ 11 (.bslice 2 [(.int .i64 0),(.int .i64 0)] 4 [(0,2,(.t 4)),(2,2,(.t 6)),(4,2,(.t 8)),(6,2,(.t 10))]),v_ 12 1,o_ 13 (.build [(.int .i64 0),(.int .i64 0)] [(0,1,(.t 12)),(1,1,(i_ 1))]),v_ 14 1,o_ 15 (.build [(.int .i64 0),(.int .i64 0)] [(0,1,(.t 14)),(1,1,(i_ 0))]),v_ 16 2,o_ 17 (.build [(.int .i64 0),(.int .i64 0)] [(0,1,(.t 16)),(1,1,(i_ 0))]),v_ 18 2,o_ 19 (.build [(.int .i64 0),(.int .i64 0)] [(0,1,(.t 18)),(1,1,(i_ 1))]),o_ 20 (.bslice 2 [(.int .i64 0),(.int .i64 0)] 4 [(0,2,(.t 13)),(2,2,(.t 15)),(4,2,(.t 17)),(6,2,(.t 19))]),o_ 21 (.bslice 1 [.nilS] 2 [(0,1,(.t 11)),(1,1,(.t 20))]),v_ 0 21])
 .ret)))⟩
def L67_0 : SC := (.seq (.reg [o_ 47 (.bin .lss (.t 46) (.t 45))])
 (.seq (.cond (.t 47) .skip
 (.exit 0))
 (.seq (.blk 1 (.seq (.reg [v_ 48 46,z_ 49 4 44 46,o_ 50 (w_ 49 4),o_ 14 (.alloc [(.int .i64 0),(.int .i64 0),(.int .i64 0),(.int .i64 0)]),v_ 13 48,s_ 14 50 4])
 (.seq (.reg [v_ 51 12,o_ 52 (a_ 14 1),y_ 53 52,z_ 54 2 51 53,o_ 55 (w_ 54 2),o_ 15 (.alloc [(.int .i64 0),(.int .i64 0)]),s_ 15 55 2])
 (.seq (.reg [o_ 56 (a_ 15 0),y_ 57 56,o_ 58 (a_ 14 2),y_ 59 58,o_ 60 (.bin .add (.t 57) (.t 59)),o_ 61 (a_ 15 0),s_ 61 60 1])
 (.seq (.reg [o_ 62 (a_ 15 1),y_ 63 62,o_ 64 (a_ 14 3),y_ 65 64,o_ 66 (.bin .add (.t 63) (.t 65)),o_ 67 (a_ 15 1),s_ 67 66 1])
 (.seq (.seq (.draw [true] [o_ 68 (a_ 15 0),y_ 69 68,o_ 70 (.bin .lss (.t 69) (i_ 0)),v_ 71 70,q_ 72 71 false (a_ 15 1),q_ 73 71 false (l_ 72),q_ 74 71 false (.bin .lss (.t 73) (i_ 0)),o_ 75 (r_ 71 74),v_ 76 75,q_ 77 76 false (m_ 11),q_ 78 76 false (a_ 14 0),q_ 79 76 false (l_ 78),q_ 80 76 false (x_ 1 77 79),q_ 81 76 false (l_ 80),q_ 82 76 false (a_ 14 3),q_ 83 76 false (l_ 82),q_ 84 76 false (.bin .lss (.t 81) (.t 83)),o_ 85 (r_ 76 84),v_ 86 85,q_ 87 86 false (a_ 15 0),q_ 88 86 false (l_ 87),q_ 89 86 false (a_ 15 1),q_ 90 86 false (l_ 89),q_ 91 86 false (.bin .neq (.t 88) (.t 90)),o_ 92 (r_ 86 91)] [[],[0],[1,0],[2,1,0],[3,2,1,0],[4,3,2,1,0],[5,4,3,2,1,0],[3,2,1,0,6,5,4],[7,3,2,1,0,6,5,4],[8,7,3,2,1,0,6,5,4],[8,7,3,2,1,0,6,5,4],[10,8,7,3,2,1,0,6,5,4],[9,8,7,3,2,1,0,6,5,4,11,10],[12,9,8,7,3,2,1,0,6,5,4,11,10],[8,7,3,2,1,0,6,5,4],[14,8,7,3,2,1,0,6,5,4],[13,12,9,8,7,3,2,1,0,6,5,4,11,10,15,14],[8,7,3,2,1,0,6,5,4,16,13,12,9,11,10,15,14],[17,8,7,3,2,1,0,6,5,4,16,13,12,9,11,10,15,14],[18,17,8,7,3,2,1,0,6,5,4,16,13,12,9,11,10,15,14],[19,18,17,8,7,3,2,1,0,6,5,4,16,13,12,9,11,10,15,14],[18,17,8,7,3,2,1,0,6,5,4,16,13,12,9,11,10,15,14],[21,18,17,8,7,3,2,1,0,6,5,4,16,13,12,9,11,10,15,14],[20,19,18,17,8,7,3,2,1,0,6,5,4,16,13,12,9,11,10,15,14,22,21],[18,17,8,7,3,2,1,0,6,5,4,16,13,12,9,11,10,15,14,23,20,19,22,21]])
 (.cond (.t 92) (.seq (.reg [v_ 93 13,v_ 94 12,v_ 95 11,v_ 6 93,v_ 7 94,v_ 8 95,o_ 9 (.mov (i_ 0))])
 .ret)
 .skip))
 (.seq (.reg [v_ 96 12,o_ 97 (a_ 14 1),y_ 98 97,o_ 99 (w_ 15 2),z_ 100 2 96 98,s_ 100 99 2])
 (.draw [true] [v_ 101 11,o_ 102 (a_ 14 0),y_ 103 102,z_ 104 1 101 103,y_ 105 104,o_ 106 (a_ 14 3),y_ 107 106,o_ 108 (.bin .sub (.t 105) (.t 107)),z_ 109 1 101 103,s_ 109 108 1] [[],[],[1],[0,2,1],[3,0,2,1],[],[5],[4,3,0,2,1,6,5],[0,2,1,3,4,5,6,7],[8,0,2,1,3,4,5,6,7]]))))))))
 (.reg [j_ 110 46,v_ 46 110]))))
def mf67 : SF := ⟨113,[(.t 6),(.t 7),(.t 8),(.t 9)],
 (.seq (.reg [o_ 3 (.box (.t 0) 1),o_ 4 (.box (.t 1) 1),o_ 6 (.mov (i_ 0)),o_ 7 (.mov (.k .nilS)),o_ 8 (.mov (.k .nilS)),o_ 9 (.mov (i_ 0))])
 (.seq (.seq (.reg [v_ 16 2,o_ 17 (n_ 16),o_ 18 (.bin .gtr (.t 17) (i_ 100))])
 (.cond (.t 18) (.seq (.reg [o_ 6 (.mov (i_ (-1))),o_ 7 (.mov (.k .nilS)),o_ 8 (.mov (.k .nilS)),o_ 9 (.mov (i_ 3))])
 .ret)
 .skip))
 (.seq (.reg [v_ 19 2,o_ 20 (.mkfn (.func 111) [] [(.t 3),(.t 4)]),c_ 21 110 [(.t 19),(.t 20)],v_ 10 21])
 (.seq (.seq (.reg [y_ 22 3,o_ 23 (n_ 22),c_ 24 97 [(.t 23),(i_ 1),(i_ 6)],o_ 25 (.un .not (.t 24)),v_ 26 25,q_ 27 26 false (l_ 3),d_ 28 26 false 112 [(i_ 0),(.t 27)],q_ 29 26 false (.un .not (.t 28)),o_ 30 (r_ 26 29),v_ 31 30,q_ 32 31 false (l_ 4),d_ 33 31 false 97 [(.t 32),(i_ 0),(i_ 6)],q_ 34 31 false (.un .not (.t 33)),o_ 35 (r_ 31 34),v_ 36 35,q_ 37 36 false (m_ 10),q_ 38 36 false (.un .not (.t 37)),o_ 39 (r_ 36 38)])
 (.cond (.t 39) (.seq (.reg [o_ 6 (.mov (i_ (-1))),o_ 7 (.mov (.k .nilS)),o_ 8 (.mov (.k .nilS)),o_ 9 (.mov (i_ 2))])
 .ret)
 .skip))
 (.seq (.reg [y_ 40 3,c_ 41 90 [(.t 40)],v_ 11 41])
 (.seq (.reg [y_ 42 4,o_ 43 (.mksl 2 [(.int .i64 0),(.int .i64 0)] 16 (.t 42) (.t 42)),v_ 12 43])
 (.seq (.seq (.reg [v_ 44 2,o_ 45 (n_ 44),o_ 46 (.mov (i_ 0))])
 (.blk 0 (.loop [11,12,44,45,46] L67_0)))
 (.seq (.reg [v_ 111 12,v_ 112 11,o_ 6 (.mov (i_ (-1))),v_ 7 111,v_ 8 112,o_ 9 (.mov (i_ 0))])
 .ret))))))))⟩
def L68_0 : SC := (.seq (.seq (.reg [v_ 11 5,v_ 12 0,o_ 13 (n_ 12),o_ 14 (.bin .lss (.t 11) (.t 13))])
 (.cond (.t 14) .skip
 (.exit 0)))
 (.seq (.blk 1 (.seq (.draw [true] [v_ 17 0,v_ 18 5,z_ 19 2 17 18,o_ 20 (w_ 19 2),v_ 21 1,v_ 22 5,z_ 23 2 21 22,o_ 24 (w_ 23 2),o_ 25 (.eqag [true,true] true (.t 20) (.t 24))] [[],[],[0,1],[2,0,1],[],[],[4,5],[6,4,5],[3,2,0,1,7,6,4,5]])
 (.cond (.t 25) (.seq (.reg [o_ 4 (b_ false)])
 .ret)
 .skip)))
 (.reg [v_ 15 5,j_ 16 15,v_ 5 16])))
def mf68 : SF := ⟨26,[(.t 4)],
 (.seq (.reg [o_ 4 (b_ false)])
 (.seq (.seq (.reg [v_ 6 0,o_ 7 (n_ 6),v_ 8 1,o_ 9 (n_ 8),o_ 10 (.bin .neq (.t 7) (.t 9))])
 (.cond (.t 10) (.seq (.reg [o_ 4 (b_ false)])
 .ret)
 .skip))
 (.seq (.seq (.reg [o_ 5 (.mov (i_ 0))])
 (.blk 0 (.loop [0,1,5] L68_0)))
 (.seq (.reg [o_ 4 (b_ true)])
 .ret))))⟩
def mf69 : SF := ⟨16,[(.t 4)],
 (.seq (.reg [o_ 4 (.mov (i_ 0))])
 (.seq (.seq (.reg [v_ 5 0,o_ 6 (n_ 5),o_ 7 (.bin .gtr (.t 6) (i_ 12))])
 (.cond (.t 7) (.seq (.reg [o_ 4 (.mov (i_ 3))])
 .ret)
 .skip))
 (.seq (.seq (.reg [v_ 8 1,c_ 9 97 [(.t 8),(i_ 0),(i_ 6)],o_ 10 (.un .not (.t 9)),v_ 11 10,q_ 12 11 false (m_ 0),d_ 13 11 false 113 [(.t 12),(f_ 114)],q_ 14 11 false (.un .not (.t 13)),o_ 15 (r_ 11 14)])
 (.cond (.t 15) (.seq (.reg [o_ 4 (.mov (i_ 2))])
 .ret)
 .skip))
 (.seq (.reg [o_ 4 (.mov (i_ 0))])
 .ret))))⟩
def mf70 : SF := ⟨12,[(.t 4),(.t 5)],
 (.seq (.reg [o_ 2 (.box (.t 0) 1),o_ 3 (.box (.t 1) 1),o_ 4 (.mov (i_ 0)),o_ 5 (b_ false)])
 (.seq (.reg [y_ 6 2,c_ 7 117 [(.t 6)],o_ 8 (.mkfn (.func 118) [] [(.t 2),(.t 3)]),c_ 9 116 [(.t 7),(.t 8)],o_ 10 (e_ 9 0),o_ 11 (e_ 9 1),v_ 4 10,v_ 5 11])
 .ret))⟩
def L71_0 : SC := (.seq (.reg [o_ 22 (.bin .lss (.t 21) (.t 20))])
 (.seq (.cond (.t 22) .skip
 (.exit 2))
 (.seq (.blk 3 (.seq (.reg [v_ 23 21,z_ 24 1 19 21,y_ 25 24,v_ 7 23,v_ 8 25])
 (.seq (.draw [true] [v_ 26 8,v_ 27 6,o_ 28 (.bin .eql (.t 26) (.t 27)),v_ 29 28,q_ 30 29 true (l_ 1),q_ 31 29 true (m_ 7),q_ 32 29 true (x_ 4 30 31),q_ 33 29 true (w_ 32 4),q_ 34 29 true (l_ 1),q_ 35 29 true (m_ 5),q_ 36 29 true (x_ 4 34 35),q_ 37 29 true (w_ 36 4),d_ 38 29 true 72 [(.t 33),(.t 37)],o_ 39 (p_ 29 38)] [[],[],[0,1],[2,0,1],[3,2,0,1],[3,2,0,1],[4,3,2,0,1,5],[6,4,3,2,0,1,5],[3,2,0,1],[3,2,0,1],[8,3,2,0,1,9],[10,8,3,2,0,1,9],[7,6,4,3,2,0,1,5,11,10,8,9],[3,2,0,1,12,7,6,4,5,11,10,8,9]])
 (.cond (.t 39) (.exit 1)
 .skip))))
 (.reg [j_ 40 21,v_ 21 40]))))
def L71_1 : SC := (.seq (.reg [o_ 17 (.bin .lss (.t 16) (.t 15))])
 (.seq (.cond (.t 17) .skip
 (.exit 0))
 (.seq (.blk 1 (.seq (.reg [v_ 18 16,v_ 6 18])
 (.seq (.seq (.reg [y_ 19 0,o_ 20 (n_ 19),o_ 21 (.mov (i_ 0))])
 (.blk 2 (.loop [0,1,3,5,6,15,16,19,20,21] L71_0)))
 (.seq (.reg [y_ 41 0,v_ 42 6,o_ 43 (.bslice 1 [(.int .i64 0)] 1 [(0,1,(.t 42))]),o_ 44 (.app 1 [(.int .i64 0)] 8 (.t 41) (.t 43)),s_ 0 44 1])
 (.seq (.seq (.reg [y_ 45 3,.call (some 46) none (.t 45) []])
 (.cond (.t 46) (.seq (.reg [o_ 4 (b_ true)])
 .ret)
 .skip))
 (.reg [y_ 47 0,v_ 48 5,o_ 49 (.slc 1 (.t 47) none (some (.t 48)) none),s_ 0 49 1]))))))
 (.reg [j_ 50 16,v_ 16 50]))))
def mf71 : SF := ⟨51,[(.t 4)],
 (.seq (.reg [o_ 4 (b_ false)])
 (.scope (.seq (.reg [y_ 9 0,o_ 10 (n_ 9),v_ 5 10])
 (.seq (.seq (.reg [v_ 11 5,y_ 12 1,o_ 13 (n_ 12),o_ 14 (.bin .eql (.t 11) (.t 13))])
 (.cond (.t 14) (.seq (.reg [o_ 4 (b_ true)])
 .ret)
 .skip))
 (.seq (.lab 0)
 (.seq (.seq (.reg [y_ 15 2,o_ 16 (.mov (i_ 0))])
 (.blk 0 (.loop [0,1,3,5,15,16] L71_1)))
 (.seq (.reg [o_ 4 (b_ false)])
 .ret)))))))⟩
def mf72 : SF := ⟨17,[(.t 4)],
 (.seq (.reg [o_ 2 (.box (.t 0) 4),o_ 3 (.box (.t 1) 4),o_ 4 (b_ false)])
 (.seq (.reg [o_ 5 (w_ 2 4),o_ 6 (a_ 3 0),o_ 7 (a_ 6 0),y_ 8 7,c_ 9 119 [(.t 5),(.t 8)],v_ 10 9,q_ 11 10 false (w_ 3 4),q_ 12 10 false (a_ 2 0),q_ 13 10 false (a_ 12 0),q_ 14 10 false (l_ 13),d_ 15 10 false 119 [(.t 11),(.t 14)],o_ 16 (r_ 10 15),v_ 4 16])
 .ret))⟩
def L73_0 : SC := (.seq (.reg [o_ 11 (.bin .lss (.t 10) (.t 9))])
 (.seq (.cond (.t 11) .skip
 (.exit 0))
 (.seq (.blk 1 (.seq (.reg [v_ 12 10,z_ 13 4 8 10,o_ 14 (w_ 13 4),o_ 7 (.alloc [(.int .i64 0),(.int .i64 0),(.int .i64 0),(.int .i64 0)]),v_ 6 12,s_ 7 14 4])
 (.seq (.reg [o_ 15 (w_ 7 4),v_ 16 1,c_ 17 119 [(.t 15),(.t 16)]])
 (.cond (.t 17) (.reg [v_ 18 5,v_ 19 6,o_ 20 (.bslice 1 [(.int .i64 0)] 1 [(0,1,(.t 19))]),o_ 21 (.app 1 [(.int .i64 0)] 8 (.t 18) (.t 20)),v_ 5 21])
 .skip))))
 (.reg [j_ 22 10,v_ 10 22]))))
def mf73 : SF := ⟨24,[(.t 4)],
 (.seq (.reg [o_ 4 (.mov (.k .nilS))])
 (.seq (.reg [o_ 5 (.mov (.k .nilS))])
 (.seq (.seq (.reg [v_ 8 0,o_ 9 (n_ 8),o_ 10 (.mov (i_ 0))])
 (.blk 0 (.loop [1,5,8,9,10] L73_0)))
 (.seq (.reg [v_ 23 5,v_ 4 23])
 .ret))))⟩
def mf78 : SF := ⟨11,[(.t 2)],
 (.seq (.reg [o_ 1 (.box (.t 0) 4),o_ 2 (b_ false)])
 (.seq (.reg [o_ 3 (a_ 1 0),o_ 4 (w_ 3 2),c_ 5 120 [(.t 4)],v_ 6 5,q_ 7 6 true (a_ 1 2),q_ 8 6 true (w_ 7 2),d_ 9 6 true 120 [(.t 8)],o_ 10 (p_ 6 9),v_ 2 10])
 .ret))⟩
def mf79 : SF := ⟨25,[(.t 4)],
 (.seq (.reg [o_ 3 (.box (.t 1) 4),o_ 4 (.mov (i_ 0))])
 (.seq (.seq (.reg [v_ 6 0,o_ 7 (n_ 6),o_ 8 (.bin .gtr (.t 7) (i_ 8))])
 (.cond (.t 8) (.seq (.reg [o_ 4 (.mov (i_ 3))])
 .ret)
 .skip))
 (.seq (.reg [v_ 9 0,c_ 10 121 [(.t 9),(f_ 122)],v_ 5 10])
 (.seq (.seq (.reg [v_ 11 5,o_ 12 (.un .not (.t 11)),v_ 13 12,q_ 14 13 false (a_ 3 0),q_ 15 13 false (w_ 14 2),d_ 16 13 false 115 [(.t 15),(i_ (-1000000)),(i_ 1000000)],q_ 17 13 false (.un .not (.t 16)),o_ 18 (r_ 13 17),v_ 19 18,q_ 20 19 false (a_ 3 2),q_ 21 19 false (w_ 20 2),d_ 22 19 false 115 [(.t 21),(i_ (-1000000)),(i_ 1000000)],q_ 23 19 false (.un .not (.t 22)),o_ 24 (r_ 19 23)])
 (.cond (.t 24) (.seq (.reg [o_ 4 (.mov (i_ 2))])
 .ret)
 .skip))
 (.seq (.reg [o_ 4 (.mov (i_ 0))])
 .ret)))))⟩
def L80_0 : SC := (.seq (.reg [o_ 40 (.bin .lss (.t 39) (i_ 4))])
 (.seq (.cond (.t 40) .skip
 (.exit 0))
 (.seq (.blk 1 (.seq (.reg [o_ 41 (.idx 4 2 true (.t 38) (.t 39)),o_ 7 (.alloc [(.int .i64 0),(.int .i64 0)]),s_ 7 41 2])
 (.seq (.reg [y_ 43 3,c_ 44 124 [(.t 43)],o_ 45 (.mkfn (.func 125) [] [(.t 7),(.t 3)]),c_ 46 123 [(.t 44),(.t 45)],v_ 42 46,o_ 47 (e_ 42 0),o_ 48 (e_ 42 1),o_ 8 (.alloc [(.int .i64 0),(.int .i64 0)]),s_ 8 47 2,v_ 9 48])
 (.seq (.reg [v_ 49 9])
 (.cond (.t 49) (.seq (.draw [true] [o_ 50 (a_ 7 0),y_ 51 50,o_ 52 (a_ 7 1),y_ 53 52,o_ 54 (a_ 8 0),y_ 55 54,o_ 56 (a_ 8 1),y_ 57 56,o_ 58 (.build [(.int .i64 0),(.int .i64 0),(.int .i64 0),(.int .i64 0)] [(0,1,(.t 51)),(1,1,(.t 53)),(2,1,(.t 55)),(3,1,(.t 57))]),o_ 4 (b_ false),s_ 5 58 4] [[],[0],[],[2],[],[4],[],[6],[1,0,3,2,5,4,7,6],[],[8,1,0,3,2,5,4,7,6,9]])
 .ret)
 .skip)))))
 (.reg [j_ 59 39,v_ 39 59]))))
def mf80 : SF := ⟨61,[(.t 4),(.c 5 (some 4))],
 (.seq (.reg [o_ 2 (.box (.t 0) 4),o_ 3 (.box (.t 1) 1),o_ 4 (b_ false),o_ 5 (.alloc [(.int .i64 0),(.int .i64 0),(.int .i64 0),(.int .i64 0)])])
 (.seq (.seq (.reg [o_ 10 (a_ 2 0),o_ 11 (a_ 10 0),y_ 12 11,o_ 13 (a_ 2 2),o_ 14 (a_ 13 0),y_ 15 14,o_ 16 (.build [(.int .i64 0),(.int .i64 0)] [(0,1,(.t 12)),(1,1,(.t 15))]),o_ 17 (a_ 2 0),o_ 18 (a_ 17 0),y_ 19 18,o_ 20 (a_ 2 2),o_ 21 (a_ 20 1),y_ 22 21,o_ 23 (.build [(.int .i64 0),(.int .i64 0)] [(0,1,(.t 19)),(1,1,(.t 22))]),o_ 24 (a_ 2 0),o_ 25 (a_ 24 1),y_ 26 25,o_ 27 (a_ 2 2),o_ 28 (a_ 27 0),y_ 29 28,o_ 30 (.build [(.int .i64 0),(.int .i64 0)] [(0,1,(.t 26)),(1,1,(.t 29))]),o_ 31 (a_ 2 0),o_ 32 (a_ 31 1),y_ 33 32,o_ 34 (a_ 2 2),o_ 35 (a_ 34 1),y_ 36 35,o_ 37 (.build [(.int .i64 0),(.int .i64 0)] [(0,1,(.t 33)),(1,1,(.t 36))]),o_ 38 (.build [(.int .i64 0),(.int .i64 0),(.int .i64 0),(.int .i64 0),(.int .i64 0),(.int .i64 0),(.int .i64 0),(.int .i64 0)] [(0,2,(.t 16)),(2,2,(.t 23)),(4,2,(.t 30)),(6,2,(.t 37))]),o_ 39 (.mov (i_ 0))])
 (.blk 0 (.loop [3,5,38,39] L80_0)))
 (.seq (.reg [o_ 60 (.build [(.int .i64 0),(.int .i64 0),(.int .i64 0),(.int .i64 0)] []),o_ 4 (b_ true),s_ 5 60 4])
 .ret)))⟩
def L81_0 : SC := (.seq (.seq (.reg [v_ 9 8,v_ 10 0,o_ 11 (n_ 10),o_ 12 (.bin .lss (.t 9) (.t 11))])
 (.cond (.t 12) .skip
 (.exit 0)))
 (.seq (.blk 1 (.draw [true] [v_ 15 7,v_ 16 0,v_ 17 8,z_ 18 3 16 17,o_ 19 (a_ 18 2),y_ 20 19,v_ 21 1,v_ 22 0,v_ 23 8,z_ 24 3 22 23,o_ 25 (a_ 24 0),y_ 26 25,o_ 27 (.bin .mul (.t 21) (.t 26)),v_ 28 2,v_ 29 0,v_ 30 8,z_ 31 3 29 30,o_ 32 (a_ 31 1),y_ 33 32,o_ 34 (.bin .mul (.t 28) (.t 33)),o_ 35 (.bin .add (.t 27) (.t 34)),o_ 36 (.minmax false [(i_ 0),(.t 35)]),o_ 37 (.bin .mul (.t 20) (.t 36)),o_ 38 (.bin .add (.t 15) (.t 37)),v_ 7 38] [[],[],[],[1,2],[3,1,2],[4,3,1,2],[],[],[],[7,8],[9,7,8],[10,9,7,8],[6,11,10,9,7,8],[],[],[],[14,15],[16,14,15],[17,16,14,15],[13,18,17,16,14,15],[12,6,11,10,9,7,8,19,13,18,17,16,14,15],[20,12,6,11,10,9,7,8,19,13,18,17,16,14,15],[5,4,3,1,2,21,20,12,6,11,10,9,7,8,19,13,18,17,16,14,15],[0,22,5,4,3,1,2,21,20,12,6,11,10,9,7,8,19,13,18,17,16,14,15],[23,0,22,5,4,3,1,2,21,20,12,6,11,10,9,7,8,19,13,18,17,16,14,15]]))
 (.reg [v_ 13 8,j_ 14 13,v_ 8 14])))
def mf81 : SF := ⟨40,[(.t 6)],
 (.seq (.reg [o_ 6 (.mov (i_ 0))])
 (.seq (.reg [o_ 7 (.mov (i_ 0))])
 (.seq (.seq (.reg [o_ 8 (.mov (i_ 0))])
 (.blk 0 (.loop [0,1,2,7,8] L81_0)))
 (.seq (.reg [v_ 39 7,v_ 6 39])
 .ret))))⟩
def mf82 : SF := ⟨15,[(.t 6)],
 (.seq (.reg [o_ 6 (b_ false)])
 (.seq (.reg [v_ 7 0,v_ 8 1,o_ 9 (.bin .geq (.t 7) (.t 8)),v_ 10 9,q_ 11 10 true (m_ 0),q_ 12 10 true (m_ 2),q_ 13 10 true (.bin .leq (.t 11) (.t 12)),o_ 14 (p_ 10 13),v_ 6 14])
 .ret))⟩
def mf83 : SF := ⟨5,[(.t 2)],
 (.seq (.reg [o_ 2 (b_ false)])
 (.seq (.reg [v_ 3 0,c_ 4 128 [(.t 3),(f_ 129)],v_ 2 4])
 .ret))⟩
def L84_0 : SC := (.seq (.reg [o_ 20 (.bin .lss (.t 19) (.t 18))])
 (.seq (.cond (.t 20) .skip
 (.exit 2))
 (.seq (.blk 3 (.seq (.reg [z_ 21 2 17 19,o_ 22 (w_ 21 2),o_ 9 (.alloc [(.int .i64 0),(.int .i64 0)]),s_ 9 22 2])
 (.seq (.seq (.reg [o_ 23 (a_ 9 1),y_ 24 23,v_ 25 0,o_ 26 (.bin .sub (.t 25) (i_ 1)),c_ 27 97 [(.t 24),(i_ 0),(.t 26)],o_ 28 (.un .not (.t 27)),v_ 29 28,q_ 30 29 false (a_ 9 0),q_ 31 29 false (l_ 30),q_ 32 29 false (.bin .neq (.t 31) (i_ 1)),q_ 33 29 false (m_ 32),q_ 34 33 true (a_ 9 0),q_ 35 33 true (l_ 34),q_ 36 33 true (.bin .neq (.t 35) (i_ 2)),q_ 37 29 false (p_ 33 36),o_ 38 (r_ 29 37),v_ 39 38,q_ 40 39 false (m_ 7),q_ 41 39 false (a_ 9 1),q_ 42 39 false (l_ 41),q_ 43 39 false (.look (false,[true]) (.bool false) false (.t 40) (.t 42)),q_ 44 39 false (a_ 9 0),q_ 45 39 false (l_ 44),q_ 46 39 false (.bin .eql (.t 45) (i_ 2)),q_ 47 39 false (.eqb true (.t 43) (.t 46)),o_ 48 (r_ 39 47)])
 (.cond (.t 48) (.seq (.reg [o_ 4 (b_ false)])
 .ret)
 .skip))
 (.reg [v_ 49 7,o_ 50 (a_ 9 1),y_ 51 50,o_ 52 (a_ 9 0),y_ 53 52,o_ 54 (.bin .eql (.t 53) (i_ 1)),.op none none (.mput (false,[true]) (.t 49) (.t 51) (.t 54))]))))
 (.reg [j_ 55 19,v_ 19 55]))))
def L84_1 : SC := (.seq (.reg [o_ 13 (.bin .lss (.t 12) (.t 11))])
 (.seq (.cond (.t 13) .skip
 (.exit 0))
 (.seq (.blk 1 (.seq (.reg [z_ 14 1 10 12,y_ 15 14,v_ 6 15])
 (.seq (.reg [o_ 16 .mkmap,v_ 7 16])
 (.seq (.reg [v_ 17 6,o_ 18 (n_ 17),o_ 19 (.mov (i_ 0))])
 (.blk 2 (.loop [0,1,7,10,11,12,17,18,19] L84_0))))))
 (.reg [j_ 56 12,v_ 12 56]))))
def mf84 : SF := ⟨64,[(.t 4)],
 (.seq (.reg [o_ 4 (b_ false)])
 (.seq (.seq (.reg [v_ 10 1,o_ 11 (n_ 10),o_ 12 (.mov (i_ 0))])
 (.blk 0 (.loop [0,1,10,11,12] L84_1)))
 (.seq (.reg [v_ 57 0,c_ 58 97 [(.t 57),(i_ 1),(i_ 4)],v_ 59 58,q_ 60 59 true (m_ 1),q_ 61 59 true (n_ 60),d_ 62 59 true 97 [(.t 61),(i_ 1),(i_ 4)],o_ 63 (p_ 59 62),v_ 4 63])
 .ret)))⟩
def L85_0 : SC := (.seq (.reg [o_ 4 (.bin .lss (.t 3) (i_ 4))])
 (.seq (.cond (.t 4) .skip
 (.exit 0))
 (.seq (.blk 1 (.seq (.reg [v_ 5 3,v_ 2 5])
 (.reg [v_ 6 2,o_ 7 (.idxa 4 1 (.t 1) (.t 6)),.op none none (.store (.t 7) (i_ (-1)) 1)])))
 (.reg [j_ 8 3,v_ 3 8]))))
def mf85 : SF := ⟨10,[(.c 0 (some 4))],
 (.seq (.reg [o_ 0 (.alloc [(.int .i64 0),(.int .i64 0),(.int .i64 0),(.int .i64 0)])])
 (.seq (.reg [o_ 1 (.alloc [(.int .i64 0),(.int .i64 0),(.int .i64 0),(.int .i64 0)])])
 (.seq (.seq (.reg [o_ 3 (.mov (i_ 0))])
 (.blk 0 (.loop [0,1,3] L85_0)))
 (.seq (.reg [o_ 9 (w_ 1 4),s_ 0 9 4])
 .ret))))⟩
def mf86 : SF := ⟨14,[],
 (.seq (.reg [o_ 3 (.box (.t 1) 9)])
 (.draw [true] [v_ 4 0,v_ 5 0,o_ 6 (.nilck (.t 5)),o_ 7 (a_ 6 0),y_ 8 7,o_ 9 (w_ 3 9),o_ 10 (.bslice 9 [(.int .i64 0),(.int .i64 0),(.int .i64 0),(.int .i64 0),(.int .i64 0),(.int .i64 0),(.int .i64 0),(.int .i64 0),.nilS] 1 [(0,9,(.t 9))]),o_ 11 (.app 9 [(.int .i64 0),(.int .i64 0),(.int .i64 0),(.int .i64 0),(.int .i64 0),(.int .i64 0),(.int .i64 0),(.int .i64 0),.nilS] 88 (.t 8) (.t 10)),o_ 12 (.nilck (.t 4)),o_ 13 (a_ 12 0),s_ 13 11 1] [[],[],[1],[2,1],[3,2,1],[],[5],[4,3,2,1,6,5],[0,1,2,3,4,5,6,7],[8,0,1,2,3,4,5,6,7],[9,8,0,1,2,3,4,5,6,7]]))⟩
def mf87 : SF := ⟨27,[(.c 2 (some 9)),(.t 3)],
 (.seq (.reg [o_ 2 (.alloc [(.int .i64 0),(.int .i64 0),(.int .i64 0),(.int .i64 0),(.int .i64 0),(.int .i64 0),(.int .i64 0),(.int .i64 0),.nilS]),o_ 3 (b_ false)])
 (.seq (.reg [o_ 4 (.alloc [(.int .i64 0),(.int .i64 0),(.int .i64 0),(.int .i64 0),(.int .i64 0),(.int .i64 0),(.int .i64 0),(.int .i64 0),.nilS])])
 (.seq (.seq (.reg [v_ 5 0,o_ 6 (.nilck (.t 5)),o_ 7 (a_ 6 0),y_ 8 7,o_ 9 (n_ 8),o_ 10 (.bin .eql (.t 9) (i_ 0))])
 (.cond (.t 10) (.seq (.reg [o_ 11 (w_ 4 9),s_ 2 11 9,o_ 3 (b_ false)])
 .ret)
 .skip))
 (.seq (.reg [v_ 12 0,o_ 13 (.nilck (.t 12)),o_ 14 (a_ 13 0),y_ 15 14,o_ 16 (.idxs 9 (.t 15) (i_ 0)),o_ 17 (w_ 16 9),s_ 4 17 9])
 (.seq (.reg [v_ 18 0,v_ 19 0,o_ 20 (.nilck (.t 19)),o_ 21 (a_ 20 0),y_ 22 21,o_ 23 (.slc 9 (.t 22) (some (i_ 1)) none none),o_ 24 (.nilck (.t 18)),o_ 25 (a_ 24 0),s_ 25 23 1])
 (.seq (.reg [o_ 26 (w_ 4 9),s_ 2 26 9,o_ 3 (b_ true)])
 .ret))))))⟩
def mf88 : SF := ⟨53,[(.c 6 (some 8)),(.t 7)],
 (.seq (.reg [o_ 3 (.box (.t 0) 8),o_ 6 (.alloc [(.int .i64 0),(.int .i64 0),(.int .i64 0),(.int .i64 0),(.int .i64 0),(.int .i64 0),(.int .i64 0),(.int .i64 0)]),o_ 7 (b_ false)])
 (.seq (.reg [o_ 11 (w_ 3 8),v_ 12 1,v_ 13 2,c_ 14 89 [(.t 11),(.t 12),(.t 13)],v_ 10 14,o_ 15 (e_ 10 0),o_ 16 (e_ 10 1),o_ 8 (.alloc [(.int .i64 0),(.int .i64 0)]),s_ 8 15 2,v_ 9 16])
 (.seq (.seq (.reg [v_ 17 9,o_ 18 (.un .not (.t 17)),v_ 19 18,q_ 20 19 false (a_ 8 0),q_ 21 19 false (l_ 20),q_ 22 19 false (.bin .eql (.t 21) (i_ 1)),q_ 23 19 false (m_ 22),q_ 24 23 true (a_ 8 1),q_ 25 23 true (l_ 24),q_ 26 23 true (a_ 3 4),q_ 27 23 true (.idxa 4 1 (.t 26) (.t 25)),q_ 28 23 true (l_ 27),q_ 29 23 true (.bin .neq (.t 28) (i_ (-1))),q_ 30 19 false (p_ 23 29),o_ 31 (r_ 19 30)])
 (.cond (.t 31) (.seq (.reg [o_ 32 (w_ 3 8),s_ 6 32 8,o_ 7 (b_ false)])
 .ret)
 .skip))
 (.seq (.reg [v_ 33 2,o_ 34 (a_ 3 0),o_ 35 (.idxa 4 1 (.t 34) (.t 33)),y_ 36 35,j_ 37 36,o_ 38 (a_ 3 0),o_ 39 (.idxa 4 1 (.t 38) (.t 33)),s_ 39 37 1])
 (.seq (.reg [o_ 40 (a_ 8 1),y_ 41 40,o_ 42 (a_ 3 4),o_ 43 (.idxa 4 1 (.t 42) (.t 41)),.op none none (.store (.t 43) (i_ (-1)) 1)])
 (.seq (.seq (.reg [o_ 44 (a_ 8 0),y_ 45 44,o_ 46 (.bin .eql (.t 45) (i_ 1))])
 (.cond (.t 46) (.reg [o_ 47 (a_ 8 1),y_ 48 47,v_ 49 2,o_ 50 (a_ 3 4),o_ 51 (.idxa 4 1 (.t 50) (.t 48)),s_ 51 49 1])
 .skip))
 (.seq (.reg [o_ 52 (w_ 3 8),s_ 6 52 8,o_ 7 (b_ true)])
 .ret)))))))⟩
def mf89 : SF := ⟨29,[(.c 6 (some 2)),(.t 7)],
 (.seq (.reg [o_ 3 (.box (.t 0) 8),o_ 6 (.alloc [(.int .i64 0),(.int .i64 0)]),o_ 7 (b_ false)])
 (.seq (.seq (.draw [true] [v_ 8 2,o_ 9 (a_ 3 0),o_ 10 (.idxa 4 1 (.t 9) (.t 8)),y_ 11 10,v_ 12 1,v_ 13 2,z_ 14 1 12 13,y_ 15 14,o_ 16 (n_ 15),o_ 17 (.bin .eql (.t 11) (.t 16))] [[],[],[1,0],[2,1,0],[],[],[4,5],[6,4,5],[7,6,4,5],[3,2,1,0,8,7,6,4,5]])
 (.cond (.t 17) (.seq (.reg [o_ 18 (.build [(.int .i64 0),(.int .i64 0)] []),s_ 6 18 2,o_ 7 (b_ false)])
 .ret)
 .skip))
 (.seq (.draw [true] [v_ 19 1,v_ 20 2,z_ 21 1 19 20,y_ 22 21,v_ 23 2,o_ 24 (a_ 3 0),o_ 25 (.idxa 4 1 (.t 24) (.t 23)),y_ 26 25,z_ 27 2 22 26,o_ 28 (w_ 27 2),s_ 6 28 2,o_ 7 (b_ true)] [[],[],[0,1],[2,0,1],[],[],[5,4],[6,5,4],[3,2,0,1,7,6,5,4],[8,3,2,0,1,7,6,5,4],[9,8,3,2,0,1,7,6,5,4],[10,9,8,3,2,0,1,7,6,5,4]])
 .ret)))⟩
def mf90 : SF := ⟨8,[(.t 2)],
 (.seq (.reg [o_ 2 (.mov (.k .nilS))])
 (.seq (.seq (.reg [v_ 3 0,o_ 4 (.eqnil true false (.t 3))])
 (.cond (.t 4) (.seq (.reg [o_ 2 (.mov (.k .nilS))])
 .ret)
 .skip))
 (.seq (.reg [o_ 5 (.bslice 1 [(.int .i64 0)] 0 []),v_ 6 0,o_ 7 (.app 1 [(.int .i64 0)] 8 (.t 5) (.t 6)),v_ 2 7])
 .ret)))⟩
def L91_0 : SC := (.blk 1 (.seq (.reg [v_ 11 7,v_ 12 2,c_ 13 130 [(.t 11),(.t 12)],v_ 8 13])
 (.seq (.reg [v_ 14 7,v_ 15 2,o_ 16 (.bslice 1 [(.int .i64 0)] 1 [(0,1,(.t 15))]),o_ 17 (.app 1 [(.int .i64 0)] 8 (.t 14) (.t 16)),v_ 7 17])
 (.seq (.reg [o_ 19 (w_ 3 8),v_ 20 1,v_ 21 2,c_ 22 89 [(.t 19),(.t 20),(.t 21)],v_ 18 22,o_ 23 (e_ 18 0),o_ 24 (e_ 18 1),o_ 9 (.alloc [(.int .i64 0),(.int .i64 0)]),s_ 9 23 2,v_ 10 24])
 (.seq (.seq (.reg [v_ 25 8,v_ 26 25,q_ 27 26 false (m_ 10),q_ 28 26 false (.un .not (.t 27)),o_ 29 (r_ 26 28)])
 (.cond (.t 29) (.seq (.reg [v_ 30 7,v_ 6 30])
 .ret)
 .skip))
 (.reg [o_ 31 (a_ 9 1),y_ 32 31,o_ 33 (a_ 3 4),o_ 34 (.idxa 4 1 (.t 33) (.t 32)),y_ 35 34,v_ 2 35]))))))
def mf91 : SF := ⟨36,[(.t 6)],
 (.seq (.reg [o_ 3 (.box (.t 0) 8),o_ 6 (.mov (.k .nilS))])
 (.seq (.reg [o_ 7 (.mov (.k .nilS))])
 (.blk 0 (.loop [1,2,3,7] L91_0))))⟩
def L95_0 : SC := (.seq (.reg [o_ 10 (.bin .lss (.t 9) (.t 8))])
 (.seq (.cond (.t 10) .skip
 (.exit 0))
 (.seq (.blk 1 (.seq (.reg [z_ 11 1 7 9,y_ 12 11,v_ 6 12])
 (.seq (.reg [v_ 13 1,v_ 14 6,.call (some 15) none (.t 13) [(.t 14)],o_ 16 (.un .not (.t 15))])
 (.cond (.t 16) (.seq (.reg [o_ 4 (b_ false)])
 .ret)
 .skip))))
 (.reg [j_ 17 9,v_ 9 17]))))
def mf95 : SF := ⟨18,[(.t 4)],
 (.seq (.reg [o_ 4 (b_ false)])
 (.seq (.seq (.reg [v_ 7 0,o_ 8 (n_ 7),o_ 9 (.mov (i_ 0))])
 (.blk 0 (.loop [1,7,8,9] L95_0)))
 (.seq (.reg [o_ 4 (b_ true)])
 .ret)))⟩
def mf97 : SF := ⟨15,[(.t 6)],
 (.seq (.reg [o_ 6 (b_ false)])
 (.seq (.reg [v_ 7 0,v_ 8 1,o_ 9 (.bin .geq (.t 7) (.t 8)),v_ 10 9,q_ 11 10 true (m_ 0),q_ 12 10 true (m_ 2),q_ 13 10 true (.bin .leq (.t 11) (.t 12)),o_ 14 (p_ 10 13),v_ 6 14])
 .ret))⟩
def mf98 : SF := ⟨21,[(.t 4)],
 (.seq (.reg [o_ 2 (.box (.t 0) 1),o_ 4 (.mov (i_ 0))])
 (.seq (.seq (.reg [v_ 7 1,o_ 8 (n_ 7),o_ 9 (.bin .gtr (.t 8) (i_ 7))])
 (.cond (.t 9) (.seq (.reg [o_ 4 (.mov (i_ 3))])
 .ret)
 .skip))
 (.seq (.reg [o_ 10 (.mkfn (.func 131) [] [(.t 2)]),o_ 5 (.alloc [.nilF]),s_ 5 10 1])
 (.seq (.reg [v_ 11 1,o_ 12 (.mkfn (.func 133) [] [(.t 5)]),c_ 13 132 [(.t 11),(.t 12)],v_ 6 13])
 (.seq (.seq (.reg [y_ 14 2,c_ 15 97 [(.t 14),(i_ 1),(i_ 4)],o_ 16 (.un .not (.t 15)),v_ 17 16,q_ 18 17 false (m_ 6),q_ 19 17 false (.un .not (.t 18)),o_ 20 (r_ 17 19)])
 (.cond (.t 20) (.seq (.reg [o_ 4 (.mov (i_ 2))])
 .ret)
 .skip))
 (.seq (.reg [o_ 4 (.mov (i_ 0))])
 .ret))))))⟩
def mf99 : SF := ⟨3,[(.t 0)],
 (.seq (.reg [o_ 0 (.mov (.k .nilM))])
 (.seq (.reg [o_ 1 .mkmap,.op none none (.mput (false,[true]) (.t 1) (i_ 1) (f_ 134)),.op none none (.mput (false,[true]) (.t 1) (i_ 2) (f_ 135)),.op none none (.mput (false,[true]) (.t 1) (i_ 3) (f_ 136)),.op none none (.mput (false,[true]) (.t 1) (i_ 4) (f_ 137)),v_ 2 1,v_ 0 2])
 .ret))⟩
def L100_0 : SC := (.seq (.reg [o_ 33 (.bin .lss (.t 32) (.t 31))])
 (.seq (.cond (.t 33) .skip
 (.exit 0))
 (.seq (.blk 1 (.seq (.reg [v_ 34 32,v_ 5 34])
 (.seq (.seq (.reg [o_ 35 (a_ 3 0),y_ 36 35,v_ 37 5,o_ 38 (.bin .shr (.t 36) (.t 37)),o_ 39 (.bin .and (.t 38) (i_ 1)),o_ 40 (.bin .eql (.t 39) (i_ 1))])
 (.cond (.t 40) (.exit 1)
 .skip))
 (.seq (.draw [true] [v_ 42 0,o_ 43 (.nilck (.t 42)),o_ 44 (a_ 43 0),o_ 45 (w_ 44 2),o_ 46 (w_ 3 5),v_ 47 5,c_ 48 101 [(.t 45),(.t 46),(.t 47)],v_ 41 48,o_ 49 (e_ 41 0),o_ 50 (e_ 41 1),o_ 6 (.alloc [(.int .i64 0),(.int .i64 0),(.int .i64 0),(.int .i64 0),(.int .i64 0)]),s_ 6 49 5,v_ 7 50] [[],[0],[1,0],[2,1,0],[],[],[3,2,1,0,4,5],[6,3,2,1,0,4,5],[7,6,3,2,1,0,4,5],[7,6,3,2,1,0,4,5],[],[10,8,7,6,3,2,1,0,4,5],[9,7,6,3,2,1,0,4,5,11,10,8]])
 (.seq (.reg [v_ 51 7])
 (.cond (.t 51) (.seq (.reg [v_ 52 0,v_ 53 0,o_ 54 (.nilck (.t 53)),o_ 55 (a_ 54 2),y_ 56 55,v_ 57 5,o_ 58 (.bslice 1 [(.int .i64 0)] 1 [(0,1,(.t 57))]),o_ 59 (.app 1 [(.int .i64 0)] 8 (.t 56) (.t 58)),o_ 60 (.nilck (.t 52)),o_ 61 (a_ 60 2),s_ 61 59 1])
 (.seq (.seq (.reg [v_ 62 0,o_ 63 (w_ 6 5),c_ 64 100 [(.t 62),(.t 63)]])
 (.cond (.t 64) (.seq (.reg [o_ 4 (b_ true)])
 .ret)
 .skip))
 (.draw [true] [v_ 65 0,v_ 66 0,o_ 67 (.nilck (.t 66)),o_ 68 (a_ 67 2),y_ 69 68,v_ 70 0,o_ 71 (.nilck (.t 70)),o_ 72 (a_ 71 2),y_ 73 72,o_ 74 (n_ 73),o_ 75 (.bin .sub (.t 74) (i_ 1)),o_ 76 (.slc 1 (.t 69) none (some (.t 75)) none),o_ 77 (.nilck (.t 65)),o_ 78 (a_ 77 2),s_ 78 76 1] [[],[],[1],[2,1],[3,2,1],[],[5],[6,5],[7,6,5],[8,7,6,5],[9,8,7,6,5],[4,3,2,1,10,9,8,7,6,5],[0,1,2,3,4,5,6,7,8,9,10,11],[12,0,1,2,3,4,5,6,7,8,9,10,11],[13,12,0,1,2,3,4,5,6,7,8,9,10,11]])))
 .skip))))))
 (.reg [j_ 79 32,v_ 32 79]))))
def mf100 : SF := ⟨85,[(.t 4)],
 (.seq (.reg [o_ 3 (.box (.t 1) 5),o_ 4 (b_ false)])
 (.seq (.seq (.draw [true] [v_ 8 0,o_ 9 (.nilck (.t 8)),o_ 10 (a_ 9 2),y_ 11 10,o_ 12 (n_ 11),v_ 13 0,o_ 14 (.nilck (.t 13)),o_ 15 (a_ 14 0),o_ 16 (a_ 15 0),y_ 17 16,o_ 18 (n_ 17),o_ 19 (.bin .eql (.t 12) (.t 18))] [[],[0],[1,0],[2,1,0],[3,2,1,0],[],[5],[6,5],[7,6,5],[8,7,6,5],[9,8,7,6,5],[4,3,2,1,0,10,9,8,7,6,5]])
 (.cond (.t 19) (.seq (.reg [o_ 4 (b_ true)])
 .ret)
 .skip))
 (.seq (.seq (.draw [true] [v_ 20 0,o_ 21 (.nilck (.t 20)),o_ 22 (a_ 21 3),y_ 23 22,o_ 24 (w_ 3 5),o_ 25 (.look (true,[true,true,true,true,true]) (.bool false) false (.t 23) (.t 24))] [[],[0],[1,0],[2,1,0],[],[3,2,1,0,4]])
 (.cond (.t 25) (.seq (.reg [o_ 4 (b_ false)])
 .ret)
 .skip))
 (.seq (.seq (.reg [v_ 26 0,o_ 27 (.nilck (.t 26)),o_ 28 (a_ 27 0),o_ 29 (a_ 28 0),y_ 30 29,o_ 31 (n_ 30),o_ 32 (.mov (i_ 0))])
 (.blk 0 (.loop [0,3,31,32] L100_0)))
 (.seq (.draw [true] [v_ 80 0,o_ 81 (.nilck (.t 80)),o_ 82 (a_ 81 3),y_ 83 82,o_ 84 (w_ 3 5),.op none none (.mput (true,[true,true,true,true,true]) (.t 83) (.t 84) (.k (.bool true)))] [[],[0],[1,0],[2,1,0],[],[3,2,1,0,4]])
 (.seq (.reg [o_ 4 (b_ false)])
 .ret))))))⟩
def L101_0 : SC := (.seq (.reg [o_ 15 (.bin .lss (.t 14) (.t 13))])
 (.seq (.cond (.t 15) .skip
 (.exit 0))
 (.seq (.blk 1 (.seq (.reg [v_ 16 14,z_ 17 7 12 14,o_ 18 (w_ 17 7),o_ 9 (.alloc [(.int .i64 0),(.int .i64 0),(.int .i64 0),(.int .i64 0),(.int .i64 0),(.int .i64 0),(.int .i64 0)]),v_ 8 16,s_ 9 18 7])
 (.seq (.draw [true] [o_ 19 (a_ 4 0),y_ 20 19,v_ 21 8,o_ 22 (.bin .shr (.t 20) (.t 21)),o_ 23 (.bin .and (.t 22) (i_ 1)),o_ 24 (.bin .eql (.t 23) (i_ 0)),v_ 25 24,q_ 26 25 true (a_ 9 5),q_ 27 25 true (l_ 26),q_ 28 25 true (a_ 3 0),q_ 29 25 true (l_ 28),q_ 30 25 true (m_ 2),q_ 31 25 true (x_ 7 29 30),q_ 32 25 true (a_ 31 4),q_ 33 25 true (l_ 32),q_ 34 25 true (.bin .lss (.t 27) (.t 33)),o_ 35 (p_ 25 34)] [[],[0],[],[1,0,2],[3,1,0,2],[4,3,1,0,2],[5,4,3,1,0,2],[6,5,4,3,1,0,2],[7,6,5,4,3,1,0,2],[6,5,4,3,1,0,2],[9,6,5,4,3,1,0,2],[6,5,4,3,1,0,2],[10,9,6,5,4,3,1,0,2,11],[12,10,9,6,5,4,3,1,0,2,11],[13,12,10,9,6,5,4,3,1,0,2,11],[8,7,6,5,4,3,1,0,2,14,13,12,10,9,11],[6,5,4,3,1,0,2,15,8,7,14,13,12,10,9,11]])
 (.cond (.t 35) (.seq (.reg [o_ 36 (w_ 4 5),s_ 6 36 5,o_ 7 (b_ false)])
 .ret)
 .skip))))
 (.reg [j_ 37 14,v_ 14 37]))))
def D101_0 : List MIx := [o_ 43 (.addr (.t 3) 1),o_ 44 (l_ 43),o_ 45 (.addr (.t 10) 1),o_ 46 (l_ 45),o_ 47 (.look (false,[true]) .nilF false (.t 44) (.t 46)),o_ 48 (.addr (.t 4) 1),o_ 49 (.load (.t 10) (some 7)),.call (some 50) none (.t 47) [(.t 48),(.t 49)],o_ 51 (.addr (.t 10) 6),o_ 52 (l_ 51),o_ 53 (.bin .neq (.t 50) (.t 52))]
def B101_0 : List (List Nat) := [[],[0],[],[2],[1,0,3,2],[],[],[4,1,0,3,2,5,6],[],[8],[7,4,1,0,3,2,5,6,9,8]]
def mf101 : SF := ⟨62,[(.c 6 (some 5)),(.t 7)],
 (.seq (.reg [o_ 3 (.box (.t 0) 2),o_ 4 (.box (.t 1) 5),o_ 6 (.alloc [(.int .i64 0),(.int .i64 0),(.int .i64 0),(.int .i64 0),(.int .i64 0)]),o_ 7 (b_ false)])
 (.seq (.seq (.reg [o_ 11 (a_ 3 0),y_ 12 11,o_ 13 (n_ 12),o_ 14 (.mov (i_ 0))])
 (.blk 0 (.loop [2,3,4,6,12,13,14] L101_0)))
 (.seq (.reg [o_ 38 (a_ 3 0),y_ 39 38,v_ 40 2,z_ 41 7 39 40,o_ 42 (w_ 41 7),o_ 10 (.alloc [(.int .i64 0),(.int .i64 0),(.int .i64 0),(.int .i64 0),(.int .i64 0),(.int .i64 0),(.int .i64 0)]),s_ 10 42 7])
 (.seq (.seq (.draw [] D101_0 B101_0)
 (.cond (.t 53) (.seq (.reg [o_ 54 (w_ 4 5),s_ 6 54 5,o_ 7 (b_ false)])
 .ret)
 .skip))
 (.seq (.draw [true] [o_ 55 (a_ 4 0),y_ 56 55,v_ 57 2,o_ 58 (.bin .shl (i_ 1) (.t 57)),o_ 59 (.bin .or (.t 56) (.t 58)),o_ 60 (a_ 4 0),s_ 60 59 1] [[],[0],[],[2],[1,0,3,2],[0,1,2,3,4],[5,0,1,2,3,4]])
 (.seq (.reg [o_ 61 (w_ 4 5),s_ 6 61 5,o_ 7 (b_ true)])
 .ret))))))⟩
def mf105 : SF := ⟨8,[(.t 2)],
 (.seq (.reg [o_ 2 (.mov (.k .nilS))])
 (.seq (.seq (.reg [v_ 3 0,o_ 4 (.eqnil true false (.t 3))])
 (.cond (.t 4) (.seq (.reg [o_ 2 (.mov (.k .nilS))])
 .ret)
 .skip))
 (.seq (.reg [o_ 5 (.bslice 3 [(.int .i64 0),(.int .i64 0),(.int .i64 0)] 0 []),v_ 6 0,o_ 7 (.app 3 [(.int .i64 0),(.int .i64 0),(.int .i64 0)] 24 (.t 5) (.t 6)),v_ 2 7])
 .ret)))⟩
def L106_0 : SC := (.seq (.reg [o_ 12 (.bin .lss (.t 11) (.t 10))])
 (.seq (.cond (.t 12) .skip
 (.exit 0))
 (.seq (.blk 1 (.seq (.reg [v_ 13 11,z_ 14 1 9 11,y_ 15 14,v_ 5 13,v_ 6 15])
 (.seq (.seq (.reg [v_ 16 5,v_ 17 1,o_ 18 (n_ 17),o_ 19 (.bin .geq (.t 16) (.t 18))])
 (.cond (.t 19) (.seq (.reg [o_ 4 (.mov (i_ 1))])
 .ret)
 .skip))
 (.seq (.reg [v_ 20 1,v_ 21 5,z_ 22 1 20 21,y_ 23 22,v_ 7 23])
 (.seq (.reg [v_ 24 6,v_ 25 7,c_ 26 138 [(.t 24),(.t 25)],v_ 8 26])
 (.seq (.reg [v_ 27 8,o_ 28 (.bin .neq (.t 27) (i_ 0))])
 (.cond (.t 28) (.seq (.reg [v_ 29 8,v_ 4 29])
 .ret)
 .skip)))))))
 (.reg [j_ 30 11,v_ 11 30]))))
def mf106 : SF := ⟨36,[(.t 4)],
 (.seq (.reg [o_ 4 (.mov (i_ 0))])
 (.seq (.seq (.reg [v_ 9 0,o_ 10 (n_ 9),o_ 11 (.mov (i_ 0))])
 (.blk 0 (.loop [0,1,9,10,11] L106_0)))
 (.seq (.seq (.reg [v_ 31 0,o_ 32 (n_ 31),v_ 33 1,o_ 34 (n_ 33),o_ 35 (.bin .lss (.t 32) (.t 34))])
 (.cond (.t 35) (.seq (.reg [o_ 4 (.mov (i_ (-1)))])
 .ret)
 .skip))
 (.seq (.reg [o_ 4 (.mov (i_ 0))])
 .ret))))⟩
def mf107 : SF := ⟨32,[(.t 2)],
 (.seq (.reg [o_ 1 (.box (.t 0) 4),o_ 2 (.mov (.k .nilS))])
 (.seq (.reg [o_ 3 (a_ 1 0),o_ 4 (a_ 3 0),y_ 5 4,o_ 6 (a_ 1 2),o_ 7 (a_ 6 0),y_ 8 7,o_ 9 (.bslice 1 [(.int .i64 0)] 2 [(0,1,(.t 5)),(1,1,(.t 8))]),o_ 10 (a_ 1 0),o_ 11 (a_ 10 0),y_ 12 11,o_ 13 (a_ 1 2),o_ 14 (a_ 13 1),y_ 15 14,o_ 16 (.bslice 1 [(.int .i64 0)] 2 [(0,1,(.t 12)),(1,1,(.t 15))]),o_ 17 (a_ 1 0),o_ 18 (a_ 17 1),y_ 19 18,o_ 20 (a_ 1 2),o_ 21 (a_ 20 0),y_ 22 21,o_ 23 (.bslice 1 [(.int .i64 0)] 2 [(0,1,(.t 19)),(1,1,(.t 22))]),o_ 24 (a_ 1 0),o_ 25 (a_ 24 1),y_ 26 25,o_ 27 (a_ 1 2),o_ 28 (a_ 27 1),y_ 29 28,o_ 30 (.bslice 1 [(.int .i64 0)] 2 [(0,1,(.t 26)),(1,1,(.t 29))]),o_ 31 (.bslice 1 [.nilS] 4 [(0,1,(.t 9)),(1,1,(.t 16)),(2,1,(.t 23)),(3,1,(.t 30))]),v_ 2 31])
 .ret))⟩
def L108_0 : SC := (.seq (.seq (.reg [v_ 7 4,v_ 8 0,o_ 9 (n_ 8),o_ 10 (.bin .lss (.t 7) (.t 9))])
 (.cond (.t 10) .skip
 (.exit 0)))
 (.seq (.blk 1 (.seq (.draw [true] [v_ 13 0,v_ 14 4,z_ 15 3 13 14,o_ 16 (a_ 15 0),y_ 17 16,v_ 18 0,v_ 19 4,z_ 20 3 18 19,o_ 21 (a_ 20 1),y_ 22 21,v_ 5 17,v_ 6 22] [[],[],[0,1],[2,0,1],[3,2,0,1],[],[],[5,6],[7,5,6],[8,7,5,6],[4,3,2,0,1],[9,8,7,5,6,10,4,3,2,0,1]])
 (.reg [v_ 23 3,v_ 24 6,o_ 25 (.un .neg (.t 24)),v_ 26 5,o_ 27 (.bslice 1 [(.int .i64 0)] 2 [(0,1,(.t 25)),(1,1,(.t 26))]),v_ 28 6,v_ 29 5,o_ 30 (.un .neg (.t 29)),o_ 31 (.bslice 1 [(.int .i64 0)] 2 [(0,1,(.t 28)),(1,1,(.t 30))]),v_ 32 5,v_ 33 6,o_ 34 (.bslice 1 [(.int .i64 0)] 2 [(0,1,(.t 32)),(1,1,(.t 33))]),v_ 35 5,o_ 36 (.un .neg (.t 35)),v_ 37 6,o_ 38 (.un .neg (.t 37)),o_ 39 (.bslice 1 [(.int .i64 0)] 2 [(0,1,(.t 36)),(1,1,(.t 38))]),o_ 40 (.bslice 1 [.nilS] 4 [(0,1,(.t 27)),(1,1,(.t 31)),(2,1,(.t 34)),(3,1,(.t 39))]),o_ 41 (.app 1 [.nilS] 24 (.t 23) (.t 40)),v_ 3 41])))
 (.reg [v_ 11 4,j_ 12 11,v_ 4 12])))
def mf108 : SF := ⟨49,[(.t 2)],
 (.seq (.reg [o_ 2 (.mov (.k .nilS))])
 (.seq (.reg [o_ 3 (.mov (.k .nilS))])
 (.seq (.seq (.reg [o_ 4 (.mov (i_ 0))])
 (.blk 0 (.loop [0,3,4] L108_0)))
 (.seq (.reg [v_ 42 3,o_ 43 (.bslice 1 [(.int .i64 0)] 2 [(0,1,(i_ 1)),(1,1,(i_ 0))]),o_ 44 (.bslice 1 [(.int .i64 0)] 2 [(0,1,(i_ (-1))),(1,1,(i_ 0))]),o_ 45 (.bslice 1 [(.int .i64 0)] 2 [(0,1,(i_ 0)),(1,1,(i_ 1))]),o_ 46 (.bslice 1 [(.int .i64 0)] 2 [(0,1,(i_ 0)),(1,1,(i_ (-1)))]),o_ 47 (.bslice 1 [.nilS] 4 [(0,1,(.t 43)),(1,1,(.t 44)),(2,1,(.t 45)),(3,1,(.t 46))]),o_ 48 (.app 1 [.nilS] 24 (.t 42) (.t 47)),v_ 2 48])
 .ret))))⟩
def L109_0 : SC := (.seq (.seq (.reg [v_ 35 10,v_ 36 0,o_ 37 (.bin .lss (.t 35) (.t 36))])
 (.cond (.t 37) .skip
 (.exit 4)))
 (.seq (.blk 5 (.reg [v_ 40 7,v_ 41 5,v_ 42 8,z_ 43 1 41 42,y_ 44 43,o_ 45 (.app 1 [(.int .i64 0)] 8 (.k .nilS) (.t 44)),v_ 46 10,o_ 47 (.bslice 1 [(.int .i64 0)] 1 [(0,1,(.t 46))]),o_ 48 (.app 1 [(.int .i64 0)] 8 (.t 45) (.t 47)),o_ 49 (.bslice 1 [.nilS] 1 [(0,1,(.t 48))]),o_ 50 (.app 1 [.nilS] 24 (.t 40) (.t 49)),v_ 7 50]))
 (.reg [v_ 38 10,j_ 39 38,v_ 10 39])))
def L109_1 : SC := (.seq (.seq (.reg [v_ 17 8,v_ 18 5,o_ 19 (n_ 18),o_ 20 (.bin .lss (.t 17) (.t 19))])
 (.cond (.t 20) .skip
 (.exit 2)))
 (.seq (.blk 3 (.seq (.reg [o_ 9 (.mov (i_ 0))])
 (.seq (.seq (.reg [v_ 23 6,o_ 24 (.bin .gtr (.t 23) (i_ 0))])
 (.cond (.t 24) (.reg [v_ 25 5,v_ 26 8,z_ 27 1 25 26,y_ 28 27,v_ 29 6,o_ 30 (.bin .sub (.t 29) (i_ 1)),z_ 31 1 28 30,y_ 32 31,j_ 33 32,v_ 9 33])
 .skip))
 (.seq (.reg [v_ 34 9,v_ 10 34])
 (.blk 4 (.loop [0,1,5,6,7,8,10] L109_0))))))
 (.reg [v_ 21 8,j_ 22 21,v_ 8 22])))
def L109_2 : SC := (.seq (.seq (.reg [v_ 12 6,v_ 13 1,o_ 14 (.bin .lss (.t 12) (.t 13))])
 (.cond (.t 14) .skip
 (.exit 0)))
 (.seq (.blk 1 (.seq (.reg [o_ 7 (.mov (.k .nilS))])
 (.seq (.seq (.reg [o_ 8 (.mov (i_ 0))])
 (.blk 2 (.loop [0,1,5,6,7,8] L109_1)))
 (.reg [v_ 51 7,v_ 5 51]))))
 (.reg [v_ 15 6,j_ 16 15,v_ 6 16])))
def mf109 : SF := ⟨53,[(.t 4)],
 (.seq (.reg [o_ 4 (.mov (.k .nilS))])
 (.seq (.reg [o_ 11 (.bslice 1 [.nilS] 1 [(0,1,(.k .nilS))]),v_ 5 11])
 (.seq (.seq (.reg [o_ 6 (.mov (i_ 0))])
 (.blk 0 (.loop [0,1,5,6] L109_2)))
 (.seq (.reg [v_ 52 5,v_ 4 52])
 .ret))))⟩
def L110_0 : SC := (.seq (.reg [o_ 10 (.bin .lss (.t 9) (.t 8))])
 (.seq (.cond (.t 10) .skip
 (.exit 0))
 (.seq (.blk 1 (.seq (.reg [z_ 11 4 7 9,o_ 12 (w_ 11 4),o_ 6 (.alloc [(.int .i64 0),(.int .i64 0),(.int .i64 0),(.int .i64 0)]),s_ 6 12 4])
 (.seq (.reg [v_ 13 1,o_ 14 (w_ 6 4),.call (some 15) none (.t 13) [(.t 14)],o_ 16 (.un .not (.t 15))])
 (.cond (.t 16) (.seq (.reg [o_ 4 (b_ false)])
 .ret)
 .skip))))
 (.reg [j_ 17 9,v_ 9 17]))))
def mf110 : SF := ⟨18,[(.t 4)],
 (.seq (.reg [o_ 4 (b_ false)])
 (.seq (.seq (.reg [v_ 7 0,o_ 8 (n_ 7),o_ 9 (.mov (i_ 0))])
 (.blk 0 (.loop [1,7,8,9] L110_0)))
 (.seq (.reg [o_ 4 (b_ true)])
 .ret)))⟩
def mf111 : SF := ⟨26,[(.t 4)],
 (.seq (.reg [o_ 3 (.box (.t 0) 4),o_ 4 (b_ false)])
 (.seq (.reg [o_ 5 (a_ 3 0),y_ 6 5,y_ 7 1,o_ 8 (n_ 7),o_ 9 (.bin .sub (.t 8) (i_ 1)),c_ 10 97 [(.t 6),(i_ 0),(.t 9)],v_ 11 10,q_ 12 11 true (a_ 3 1),q_ 13 11 true (l_ 12),q_ 14 11 true (l_ 2),q_ 15 11 true (.bin .sub (.t 14) (i_ 1)),d_ 16 11 true 97 [(.t 13),(i_ 0),(.t 15)],o_ 17 (p_ 11 16),v_ 18 17,q_ 19 18 true (a_ 3 2),q_ 20 18 true (l_ 19),q_ 21 18 true (a_ 3 3),q_ 22 18 true (l_ 21),q_ 23 18 true (.bslice 1 [(.int .i64 0)] 2 [(0,1,(.t 20)),(1,1,(.t 22))]),d_ 24 18 true 112 [(i_ (-100000)),(.t 23)],o_ 25 (p_ 18 24),v_ 4 25])
 .ret))⟩
def mf112 : SF := ⟨8,[(.t 4)],
 (.seq (.reg [o_ 2 (.box (.t 0) 1),o_ 4 (b_ false)])
 (.seq (.reg [v_ 5 1,o_ 6 (.mkfn (.func 139) [] [(.t 2)]),c_ 7 95 [(.t 5),(.t 6)],v_ 4 7])
 .ret))⟩
def L113_0 : SC := (.seq (.reg [o_ 10 (.bin .lss (.t 9) (.t 8))])
 (.seq (.cond (.t 10) .skip
 (.exit 0))
 (.seq (.blk 1 (.seq (.reg [z_ 11 4 7 9,o_ 12 (w_ 11 4),o_ 6 (.alloc [(.int .i64 0),(.int .i64 0),(.int .i64 0),(.int .i64 0)]),s_ 6 12 4])
 (.seq (.reg [v_ 13 1,o_ 14 (w_ 6 4),.call (some 15) none (.t 13) [(.t 14)],o_ 16 (.un .not (.t 15))])
 (.cond (.t 16) (.seq (.reg [o_ 4 (b_ false)])
 .ret)
 .skip))))
 (.reg [j_ 17 9,v_ 9 17]))))
def mf113 : SF := ⟨18,[(.t 4)],
 (.seq (.reg [o_ 4 (b_ false)])
 (.seq (.seq (.reg [v_ 7 0,o_ 8 (n_ 7),o_ 9 (.mov (i_ 0))])
 (.blk 0 (.loop [1,7,8,9] L113_0)))
 (.seq (.reg [o_ 4 (b_ true)])
 .ret)))⟩
def mf114 : SF := ⟨29,[(.t 2)],
 (.seq (.reg [o_ 1 (.box (.t 0) 4),o_ 2 (b_ false)])
 (.seq (.reg [o_ 3 (a_ 1 0),o_ 4 (w_ 3 2),c_ 5 115 [(.t 4),(i_ 0),(i_ 1440)],v_ 6 5,q_ 7 6 true (a_ 1 2),q_ 8 6 true (w_ 7 2),d_ 9 6 true 115 [(.t 8),(i_ 0),(i_ 1440)],o_ 10 (p_ 6 9),v_ 11 10,q_ 12 11 true (a_ 1 0),q_ 13 11 true (a_ 12 0),q_ 14 11 true (l_ 13),q_ 15 11 true (a_ 1 2),q_ 16 11 true (a_ 15 0),q_ 17 11 true (l_ 16),q_ 18 11 true (.bin .leq (.t 14) (.t 17)),o_ 19 (p_ 11 18),v_ 20 19,q_ 21 20 true (a_ 1 0),q_ 22 20 true (a_ 21 1),q_ 23 20 true (l_ 22),q_ 24 20 true (a_ 1 2),q_ 25 20 true (a_ 24 1),q_ 26 20 true (l_ 25),q_ 27 20 true (.bin .leq (.t 23) (.t 26)),o_ 28 (p_ 20 27),v_ 2 28])
 .ret))⟩
def mf115 : SF := ⟨24,[(.t 6)],
 (.seq (.reg [o_ 3 (.box (.t 0) 2),o_ 6 (b_ false)])
 (.seq (.reg [o_ 7 (a_ 3 0),y_ 8 7,v_ 9 1,o_ 10 (.bin .geq (.t 8) (.t 9)),v_ 11 10,q_ 12 11 true (a_ 3 0),q_ 13 11 true (l_ 12),q_ 14 11 true (a_ 3 1),q_ 15 11 true (l_ 14),q_ 16 11 true (.bin .leq (.t 13) (.t 15)),o_ 17 (p_ 11 16),v_ 18 17,q_ 19 18 true (a_ 3 1),q_ 20 18 true (l_ 19),q_ 21 18 true (m_ 2),q_ 22 18 true (.bin .leq (.t 20) (.t 21)),o_ 23 (p_ 18 22),v_ 6 23])
 .ret))⟩
def zB : SC := (.reg [v_ 6 9])
def R116_0b : SC := (.blk 1 (.seq (.reg [y_ 10 3,v_ 11 6,.call (some 12) none (.t 10) [(.t 11)]])
 (.cond (.t 12) (.seq (.reg [v_ 13 6,s_ 4 13 1,.op none none (.store (.t 5) (.k (.bool true)) 1)])
 .ret)
 .skip)))
def mf116 : SF := ⟨15,[(.c 4 none),(.c 5 none)],
 (.seq (.reg [o_ 3 (.box (.t 1) 1),o_ 4 (.alloc [(.int .i64 0)]),o_ 5 (.alloc [(.bool false)])])
 (.seq (.seq (.reg [v_ 8 0])
 (.blk 0 (.rng (.t 8) #[9] (bO (cZ 116) [1,0,1,0,0]) (bO (cZ 116) [1,0,1,0,1]) zB R116_0b)))
 (.seq (.reg [o_ 7 (.mov (i_ 0))])
 (.seq (.reg [v_ 14 7,s_ 4 14 1,.op none none (.store (.t 5) (.k (.bool false)) 1)])
 .ret))))⟩
def L117_0 : SC := (.seq (.reg [o_ 10 (.bin .lss (.t 9) (.t 8))])
 (.seq (.cond (.t 10) .skip
 (.exit 0))
 (.seq (.blk 1 (.seq (.reg [z_ 11 4 7 9,o_ 12 (w_ 11 4),o_ 5 (.alloc [(.int .i64 0),(.int .i64 0),(.int .i64 0),(.int .i64 0)]),s_ 5 12 4])
 (.reg [v_ 13 3,o_ 14 (a_ 5 0),o_ 15 (a_ 14 0),y_ 16 15,.op none none (.mput (false,[true]) (.t 13) (.t 16) (.k (.bool true)))])))
 (.reg [j_ 17 9,v_ 9 17]))))
def mf117 : SF := ⟨22,[(.t 2)],
 (.seq (.reg [o_ 2 (.mov (.k .nilF))])
 (.seq (.reg [o_ 6 .mkmap,v_ 3 6])
 (.seq (.seq (.reg [v_ 7 0,o_ 8 (n_ 7),o_ 9 (.mov (i_ 0))])
 (.blk 0 (.loop [3,7,8,9] L117_0)))
 (.seq (.reg [v_ 18 3,c_ 19 142 [(.t 18)],c_ 20 141 [(.t 19)],c_ 21 140 [(.t 20)],v_ 2 21])
 .ret))))⟩
def D118_0 : List MIx := [o_ 5 (l_ 1),o_ 6 (m_ 0),.call (some 7) none (f_ 73) [(.t 5),(.t 6)],o_ 8 (.len (.t 7)),o_ 9 (l_ 2),o_ 10 (.bin .gtr (.t 8) (.t 9)),o_ 4 (m_ 10)]
def B118_0 : List (List Nat) := [[],[],[0,1],[2,0,1],[],[3,2,0,1,4],[5,3,2,0,1,4]]
def mf118 : SF := ⟨11,[(.t 4)],
 (.seq (.reg [o_ 4 (b_ false)])
 (.seq (.draw [] D118_0 B118_0)
 .ret))⟩
def mf119 : SF := ⟨13,[(.t 4)],
 (.seq (.reg [o_ 2 (.box (.t 0) 4),o_ 4 (b_ false)])
 (.seq (.reg [v_ 5 1,o_ 6 (a_ 2 0),o_ 7 (a_ 6 0),y_ 8 7,o_ 9 (a_ 2 2),o_ 10 (a_ 9 1),y_ 11 10,c_ 12 97 [(.t 5),(.t 8),(.t 11)],v_ 4 12])
 .ret))⟩
def mf120 : SF := ⟨18,[(.t 2)],
 (.seq (.reg [o_ 1 (.box (.t 0) 2),o_ 2 (b_ false)])
 (.seq (.reg [o_ 3 (a_ 1 0),y_ 4 3,o_ 5 (.bin .geq (.t 4) (i_ (-1000000))),v_ 6 5,q_ 7 6 true (a_ 1 0),q_ 8 6 true (l_ 7),q_ 9 6 true (a_ 1 1),q_ 10 6 true (l_ 9),q_ 11 6 true (.bin .leq (.t 8) (.t 10)),o_ 12 (p_ 6 11),v_ 13 12,q_ 14 13 true (a_ 1 1),q_ 15 13 true (l_ 14),q_ 16 13 true (.bin .leq (.t 15) (i_ 1000000)),o_ 17 (p_ 13 16),v_ 2 17])
 .ret))⟩
def L121_0 : SC := (.seq (.reg [o_ 10 (.bin .lss (.t 9) (.t 8))])
 (.seq (.cond (.t 10) .skip
 (.exit 0))
 (.seq (.blk 1 (.seq (.reg [z_ 11 3 7 9,o_ 12 (w_ 11 3),o_ 6 (.alloc [(.int .i64 0),(.int .i64 0),(.int .i64 0)]),s_ 6 12 3])
 (.seq (.reg [v_ 13 1,o_ 14 (w_ 6 3),.call (some 15) none (.t 13) [(.t 14)],o_ 16 (.un .not (.t 15))])
 (.cond (.t 16) (.seq (.reg [o_ 4 (b_ false)])
 .ret)
 .skip))))
 (.reg [j_ 17 9,v_ 9 17]))))
def mf121 : SF := ⟨18,[(.t 4)],
 (.seq (.reg [o_ 4 (b_ false)])
 (.seq (.seq (.reg [v_ 7 0,o_ 8 (n_ 7),o_ 9 (.mov (i_ 0))])
 (.blk 0 (.loop [1,7,8,9] L121_0)))
 (.seq (.reg [o_ 4 (b_ true)])
 .ret)))⟩
def mf122 : SF := ⟨26,[(.t 2)],
 (.seq (.reg [o_ 1 (.box (.t 0) 3),o_ 2 (b_ false)])
 (.seq (.reg [o_ 3 (a_ 1 0),y_ 4 3,c_ 5 97 [(.t 4),(i_ (-100)),(i_ 100)],v_ 6 5,q_ 7 6 true (a_ 1 1),q_ 8 6 true (l_ 7),d_ 9 6 true 97 [(.t 8),(i_ (-100)),(i_ 100)],o_ 10 (p_ 6 9),v_ 11 10,q_ 12 11 true (a_ 1 0),q_ 13 11 true (l_ 12),q_ 14 11 true (.bin .neq (.t 13) (i_ 0)),q_ 15 11 true (m_ 14),q_ 16 15 false (a_ 1 1),q_ 17 15 false (l_ 16),q_ 18 15 false (.bin .neq (.t 17) (i_ 0)),q_ 19 11 true (r_ 15 18),o_ 20 (p_ 11 19),v_ 21 20,q_ 22 21 true (a_ 1 2),q_ 23 21 true (l_ 22),d_ 24 21 true 97 [(.t 23),(i_ 0),(i_ 1000000)],o_ 25 (p_ 21 24),v_ 2 25])
 .ret))⟩
def rF : SC := (.reg [o_ 6 (.alloc [(.int .i64 0),(.int .i64 0)]),s_ 6 9 2])
def R123_0b : SC := (.blk 1 (.seq (.reg [y_ 10 3,o_ 11 (w_ 6 2),.call (some 12) none (.t 10) [(.t 11)]])
 (.cond (.t 12) (.seq (.reg [o_ 13 (w_ 6 2),s_ 4 13 2,.op none none (.store (.t 5) (.k (.bool true)) 1)])
 .ret)
 .skip)))
def mf123 : SF := ⟨15,[(.c 4 (some 2)),(.c 5 none)],
 (.seq (.reg [o_ 3 (.box (.t 1) 1),o_ 4 (.alloc [(.int .i64 0),(.int .i64 0)]),o_ 5 (.alloc [(.bool false)])])
 (.seq (.seq (.reg [v_ 8 0])
 (.blk 0 (.rng (.t 8) #[9] (bO (cZ 123) [1,0,1,0,0]) (bO (cZ 123) [1,0,1,0,1]) rF R123_0b)))
 (.seq (.reg [o_ 7 (.alloc [(.int .i64 0),(.int .i64 0)])])
 (.seq (.reg [o_ 14 (w_ 7 2),s_ 4 14 2,.op none none (.store (.t 5) (.k (.bool false)) 1)])
 .ret))))⟩
def mf124 : SF := ⟨4,[(.t 2)],
 (.seq (.reg [o_ 1 (.box (.t 0) 1),o_ 2 (.mov (.k .nilF))])
 (.seq (.reg [o_ 3 (.mkfn (.func 143) [] [(.t 1)]),v_ 2 3])
 .ret))⟩
def D125_0 : List MIx := [o_ 5 (.load (.t 3) (some 2)),o_ 6 (.load (.t 1) (some 2)),.call (some 7) none (f_ 126) [(.t 5),(.t 6)],o_ 8 (.un .neg (.t 7)),o_ 9 (.load (.t 3) (some 2)),o_ 10 (l_ 2),.call (some 11) none (f_ 127) [(.t 9),(.t 10)],o_ 12 (.bin .gtr (.t 8) (.t 11)),o_ 4 (m_ 12)]
def B125_0 : List (List Nat) := [[],[],[0,1],[2,0,1],[],[],[4,5,2,0,1],[3,2,0,1,6,4,5],[7,3,2,0,1,6,4,5]]
def mf125 : SF := ⟨13,[(.t 4)],
 (.seq (.reg [o_ 3 (.box (.t 0) 2),o_ 4 (b_ false)])
 (.seq (.draw [] D125_0 B125_0)
 .ret))⟩
def mf126 : SF := ⟨16,[(.t 4)],
 (.seq (.reg [o_ 2 (.box (.t 0) 2),o_ 3 (.box (.t 1) 2),o_ 4 (.mov (i_ 0))])
 (.seq (.reg [o_ 5 (a_ 2 0),y_ 6 5,o_ 7 (a_ 3 0),y_ 8 7,o_ 9 (.bin .mul (.t 6) (.t 8)),o_ 10 (a_ 2 1),y_ 11 10,o_ 12 (a_ 3 1),y_ 13 12,o_ 14 (.bin .mul (.t 11) (.t 13)),o_ 15 (.bin .add (.t 9) (.t 14)),v_ 4 15])
 .ret))⟩
def D127_0 : List MIx := [o_ 14 (m_ 5),o_ 15 (.addr (.t 7) 2),o_ 16 (l_ 15),o_ 17 (.load (.t 2) (some 2)),o_ 18 (.addr (.t 7) 0),o_ 19 (l_ 18),o_ 20 (.addr (.t 7) 1),o_ 21 (l_ 20),o_ 22 (.build [(.int .i64 0),(.int .i64 0)] [(0,1,(.t 19)),(1,1,(.t 21))]),.call (some 23) none (f_ 126) [(.t 17),(.t 22)],o_ 24 (.minmax false [(i_ 0),(.t 23)]),o_ 25 (.bin .mul (.t 16) (.t 24)),o_ 26 (.bin .add (.t 14) (.t 25)),o_ 5 (m_ 26)]
def B127_0 : List (List Nat) := [[],[],[1],[],[],[4],[],[6],[5,4,7,6],[3,8,5,4,7,6],[9,3,8,5,4,7,6],[2,1,10,9,3,8,5,4,7,6],[0,11,2,1,10,9,3,8,5,4,7,6],[12,0,11,2,1,10,9,3,8,5,4,7,6]]
def L127_0 : SC := (.seq (.reg [o_ 11 (.bin .lss (.t 10) (.t 9))])
 (.seq (.cond (.t 11) .skip
 (.exit 0))
 (.seq (.blk 1 (.seq (.reg [z_ 12 3 8 10,o_ 13 (w_ 12 3),o_ 7 (.alloc [(.int .i64 0),(.int .i64 0),(.int .i64 0)]),s_ 7 13 3])
 (.draw [] D127_0 B127_0)))
 (.reg [j_ 27 10,v_ 10 27]))))
def mf127 : SF := ⟨29,[(.t 4)],
 (.seq (.reg [o_ 2 (.box (.t 0) 2),o_ 4 (.mov (i_ 0))])
 (.seq (.reg [o_ 5 (.mov (i_ 0))])
 (.seq (.seq (.reg [v_ 8 1,o_ 9 (n_ 8),o_ 10 (.mov (i_ 0))])
 (.blk 0 (.loop [2,5,8,9,10] L127_0)))
 (.seq (.reg [v_ 28 5,v_ 4 28])
 .ret))))⟩
def mf128 : SF := ⟨9,[(.t 4)],
 (.seq (.reg [o_ 4 (b_ false)])
 (.seq (.reg [v_ 5 0,v_ 6 1,c_ 7 144 [(.t 5),(.t 6)],o_ 8 (.bin .geq (.t 7) (i_ 0)),v_ 4 8])
 .ret))⟩
def mf129 : SF := ⟨6,[(.t 2)],
 (.seq (.reg [o_ 2 (b_ false)])
 (.seq (.reg [v_ 3 0,o_ 4 (n_ 3),o_ 5 (.bin .gtr (.t 4) (i_ 6)),v_ 2 5])
 .ret))⟩
def mf130 : SF := ⟨9,[(.t 4)],
 (.seq (.reg [o_ 4 (b_ false)])
 (.seq (.reg [v_ 5 0,v_ 6 1,c_ 7 145 [(.t 5),(.t 6)],o_ 8 (.bin .geq (.t 7) (i_ 0)),v_ 4 8])
 .ret))⟩
def mf131 : SF := ⟨8,[(.t 3)],
 (.seq (.reg [o_ 3 (b_ false)])
 (.seq (.reg [v_ 4 0,y_ 5 1,o_ 6 (.bin .sub (.t 5) (i_ 1)),c_ 7 97 [(.t 4),(i_ 0),(.t 6)],v_ 3 7])
 .ret))⟩
def L132_0 : SC := (.seq (.reg [o_ 10 (.bin .lss (.t 9) (.t 8))])
 (.seq (.cond (.t 10) .skip
 (.exit 0))
 (.seq (.blk 1 (.seq (.reg [z_ 11 7 7 9,o_ 12 (w_ 11 7),o_ 6 (.alloc [(.int .i64 0),(.int .i64 0),(.int .i64 0),(.int .i64 0),(.int .i64 0),(.int .i64 0),(.int .i64 0)]),s_ 6 12 7])
 (.seq (.reg [v_ 13 1,o_ 14 (w_ 6 7),.call (some 15) none (.t 13) [(.t 14)],o_ 16 (.un .not (.t 15))])
 (.cond (.t 16) (.seq (.reg [o_ 4 (b_ false)])
 .ret)
 .skip))))
 (.reg [j_ 17 9,v_ 9 17]))))
def mf132 : SF := ⟨18,[(.t 4)],
 (.seq (.reg [o_ 4 (b_ false)])
 (.seq (.seq (.reg [v_ 7 0,o_ 8 (n_ 7),o_ 9 (.mov (i_ 0))])
 (.blk 0 (.loop [1,7,8,9] L132_0)))
 (.seq (.reg [o_ 4 (b_ true)])
 .ret)))⟩
def mf133 : SF := ⟨66,[(.t 3)],
 (.seq (.reg [o_ 2 (.box (.t 0) 7),o_ 3 (b_ false)])
 (.seq (.reg [o_ 5 (a_ 2 3),y_ 6 5,o_ 7 (.bin .eql (.t 6) (i_ 0)),v_ 4 7])
 (.seq (.seq (.reg [o_ 8 (a_ 2 1),y_ 9 8,o_ 10 (.bin .eql (.t 9) (i_ 4))])
 (.cond (.t 10) (.reg [y_ 11 1,o_ 12 (a_ 2 3),y_ 13 12,.call (some 14) none (.t 11) [(.t 13)],v_ 15 14,q_ 16 15 true (a_ 2 3),q_ 17 15 true (l_ 16),q_ 18 15 true (a_ 2 2),q_ 19 15 true (l_ 18),q_ 20 15 true (.bin .neq (.t 17) (.t 19)),o_ 21 (p_ 15 20),v_ 4 21])
 .skip))
 (.seq (.reg [o_ 22 (a_ 2 0),y_ 23 22,c_ 24 97 [(.t 23),(i_ 0),(i_ 3)],v_ 25 24,q_ 26 25 true (a_ 2 1),q_ 27 25 true (l_ 26),q_ 28 25 true (.bin .geq (.t 27) (i_ 1)),o_ 29 (p_ 25 28),v_ 30 29,q_ 31 30 true (a_ 2 1),q_ 32 30 true (l_ 31),q_ 33 30 true (.bin .leq (.t 32) (i_ 4)),o_ 34 (p_ 30 33),v_ 35 34,q_ 36 35 true (l_ 1),q_ 37 35 true (a_ 2 2),q_ 38 35 true (l_ 37),.call (some 39) (some (35,true)) (.t 36) [(.t 38)],o_ 40 (p_ 35 39),v_ 41 40,q_ 42 41 true (m_ 4),o_ 43 (p_ 41 42),v_ 44 43,q_ 45 44 true (a_ 2 4),q_ 46 44 true (l_ 45),q_ 47 44 true (.bin .geq (.t 46) (i_ 0)),o_ 48 (p_ 44 47),v_ 49 48,q_ 50 49 true (a_ 2 4),q_ 51 49 true (l_ 50),q_ 52 49 true (a_ 2 5),q_ 53 49 true (l_ 52),q_ 54 49 true (.bin .lss (.t 51) (.t 53)),o_ 55 (p_ 49 54),v_ 56 55,q_ 57 56 true (a_ 2 5),q_ 58 56 true (l_ 57),q_ 59 56 true (.bin .leq (.t 58) (i_ 1000)),o_ 60 (p_ 56 59),v_ 61 60,q_ 62 61 true (a_ 2 6),q_ 63 61 true (l_ 62),d_ 64 61 true 97 [(.t 63),(i_ (-1)),(i_ 3)],o_ 65 (p_ 61 64),v_ 3 65])
 .ret))))⟩
def mf134 : SF := ⟨23,[(.t 4)],
 (.seq (.reg [o_ 3 (.box (.t 1) 7),o_ 4 (.mov (i_ 0))])
 (.seq (.draw [true] [v_ 6 0,o_ 7 (a_ 3 2),y_ 8 7,o_ 9 (.nilck (.t 6)),o_ 10 (.idxa 4 1 (.t 9) (.t 8)),y_ 11 10,o_ 12 (.bin .eql (.t 11) (i_ (-1))),v_ 5 12] [[],[],[1],[0],[3,0,2,1],[4,3,0,2,1],[5,4,3,0,2,1],[6,5,4,3,0,2,1]])
 (.seq (.seq (.reg [v_ 13 5])
 (.cond (.t 13) (.draw [true] [v_ 14 0,o_ 15 (a_ 3 2),y_ 16 15,o_ 17 (a_ 3 0),y_ 18 17,o_ 19 (.nilck (.t 14)),o_ 20 (.idxa 4 1 (.t 19) (.t 16)),s_ 20 18 1] [[],[],[1],[],[3],[0],[5,0,2,1,3,4],[6,5,0,2,1,3,4]])
 .skip))
 (.seq (.reg [v_ 21 5,c_ 22 146 [(.t 21)],v_ 4 22])
 .ret))))⟩
def mf135 : SF := ⟨23,[(.t 4)],
 (.seq (.reg [o_ 3 (.box (.t 1) 7),o_ 4 (.mov (i_ 0))])
 (.seq (.draw [true] [v_ 6 0,o_ 7 (a_ 3 2),y_ 8 7,o_ 9 (.nilck (.t 6)),o_ 10 (.idxa 4 1 (.t 9) (.t 8)),y_ 11 10,o_ 12 (a_ 3 0),y_ 13 12,o_ 14 (.bin .eql (.t 11) (.t 13)),v_ 5 14] [[],[],[1],[0],[3,0,2,1],[4,3,0,2,1],[],[6],[5,4,3,0,2,1,7,6],[8,5,4,3,0,2,1,7,6]])
 (.seq (.seq (.reg [v_ 15 5])
 (.cond (.t 15) (.draw [true] [v_ 16 0,o_ 17 (a_ 3 2),y_ 18 17,o_ 19 (.nilck (.t 16)),o_ 20 (.idxa 4 1 (.t 19) (.t 18)),.op none none (.store (.t 20) (i_ (-1)) 1)] [[],[],[1],[0],[3,0,2,1],[4,3,0,2,1]])
 .skip))
 (.seq (.reg [v_ 21 5,c_ 22 146 [(.t 21)],v_ 4 22])
 .ret))))⟩
def mf136 : SF := ⟨11,[(.t 4)],
 (.seq (.reg [o_ 3 (.box (.t 1) 7),o_ 4 (.mov (i_ 0))])
 (.seq (.draw [true] [v_ 5 0,o_ 6 (a_ 3 2),y_ 7 6,o_ 8 (.nilck (.t 5)),o_ 9 (.idxa 4 1 (.t 8) (.t 7)),y_ 10 9,v_ 4 10] [[],[],[1],[0],[3,0,2,1],[4,3,0,2,1],[5,4,3,0,2,1]])
 .ret))⟩
def D137_0 : List MIx := [o_ 25 (m_ 0),o_ 26 (.addr (.t 3) 2),o_ 27 (l_ 26),o_ 28 (m_ 0),o_ 29 (.addr (.t 3) 3),o_ 30 (l_ 29),o_ 31 (.addr (.t 3) 0),o_ 32 (l_ 31),o_ 33 (.nilck (.t 25)),o_ 34 (.idxa 4 1 (.t 33) (.t 27)),.op none none (.store (.t 34) (i_ (-1)) 1),o_ 35 (.nilck (.t 28)),o_ 36 (.idxa 4 1 (.t 35) (.t 30)),.op none none (.store (.t 36) (.t 32) 1)]
def B137_0 : List (List Nat) := [[],[],[1],[],[],[4],[],[6],[0],[8,0,2,1],[9,8,0,2,1],[3],[11,3,5,4,0,1,2,6,7,8,9,10],[12,11,3,5,4,0,1,2,6,7,8,9,10]]
def mf137 : SF := ⟨39,[(.t 4)],
 (.seq (.reg [o_ 3 (.box (.t 1) 7),o_ 4 (.mov (i_ 0))])
 (.seq (.draw [true] [v_ 6 0,o_ 7 (a_ 3 2),y_ 8 7,o_ 9 (.nilck (.t 6)),o_ 10 (.idxa 4 1 (.t 9) (.t 8)),y_ 11 10,o_ 12 (a_ 3 0),y_ 13 12,o_ 14 (.bin .eql (.t 11) (.t 13)),v_ 15 14,q_ 16 15 true (m_ 0),q_ 17 15 true (a_ 3 3),q_ 18 15 true (l_ 17),q_ 19 15 true (.nilck (.t 16)),q_ 20 15 true (.idxa 4 1 (.t 19) (.t 18)),q_ 21 15 true (l_ 20),q_ 22 15 true (.bin .eql (.t 21) (i_ (-1))),o_ 23 (p_ 15 22),v_ 5 23] [[],[],[1],[0],[3,0,2,1],[4,3,0,2,1],[],[6],[5,4,3,0,2,1,7,6],[8,5,4,3,0,2,1,7,6],[9,8,5,4,3,0,2,1,7,6],[9,8,5,4,3,0,2,1,7,6],[11,9,8,5,4,3,0,2,1,7,6],[10,9,8,5,4,3,0,2,1,7,6],[13,10,9,8,5,4,3,0,2,1,7,6,12,11],[14,13,10,9,8,5,4,3,0,2,1,7,6,12,11],[15,14,13,10,9,8,5,4,3,0,2,1,7,6,12,11],[9,8,5,4,3,0,2,1,7,6,16,15,14,13,10,12,11],[17,9,8,5,4,3,0,2,1,7,6,16,15,14,13,10,12,11]])
 (.seq (.seq (.reg [v_ 24 5])
 (.cond (.t 24) (.draw [] D137_0 B137_0)
 .skip))
 (.seq (.reg [v_ 37 5,c_ 38 146 [(.t 37)],v_ 4 38])
 .ret))))⟩
def mf138 : SF := ⟨20,[(.t 4)],
 (.seq (.reg [o_ 4 (.mov (i_ 0))])
 (.seq (.reg [v_ 7 0,c_ 8 147 [(.t 7)],v_ 5 8])
 (.seq (.reg [v_ 9 1,c_ 10 147 [(.t 9)],v_ 6 10])
 (.seq (.seq (.reg [v_ 11 5])
 (.cond (.t 11) (.seq (.seq (.reg [v_ 12 6])
 (.cond (.t 12) (.seq (.reg [o_ 4 (.mov (i_ 0))])
 .ret)
 .skip))
 (.seq (.reg [o_ 4 (.mov (i_ (-1)))])
 .ret))
 .skip))
 (.seq (.seq (.reg [v_ 13 6])
 (.cond (.t 13) (.seq (.reg [o_ 4 (.mov (i_ 1))])
 .ret)
 .skip))
 (.seq (.seq (.reg [v_ 14 0,v_ 15 1,o_ 16 (.bin .lss (.t 14) (.t 15))])
 (.cond (.t 16) (.seq (.reg [o_ 4 (.mov (i_ (-1)))])
 .ret)
 .skip))
 (.seq (.seq (.reg [v_ 17 0,v_ 18 1,o_ 19 (.bin .gtr (.t 17) (.t 18))])
 (.cond (.t 19) (.seq (.reg [o_ 4 (.mov (i_ 1))])
 .ret)
 .skip))
 (.seq (.reg [o_ 4 (.mov (i_ 0))])
 .ret))))))))⟩
def mf139 : SF := ⟨7,[(.t 3)],
 (.seq (.reg [o_ 3 (b_ false)])
 (.seq (.reg [v_ 4 0,y_ 5 1,c_ 6 97 [(.t 4),(.t 5),(i_ 100000)],v_ 3 6])
 .ret))⟩
def mf140 : SF := ⟨4,[(.t 2)],
 (.seq (.reg [o_ 1 (.box (.t 0) 1),o_ 2 (.mov (.k .nilF))])
 (.seq (.reg [o_ 3 (.mkfn (.func 148) [] [(.t 1)]),v_ 2 3])
 .ret))⟩
def mf141 : SF := ⟨9,[(.t 2)],
 (.seq (.reg [o_ 2 (.mov (.k .nilS))])
 (.seq (.reg [v_ 4 0,c_ 5 149 [(.t 4)],v_ 3 5])
 (.seq (.reg [v_ 6 3,c_ 7 150 [(.t 6)]])
 (.seq (.reg [v_ 8 3,v_ 2 8])
 .ret))))⟩
def mf142 : SF := ⟨4,[(.t 2)],
 (.seq (.reg [o_ 1 (.box (.t 0) 1),o_ 2 (.mov (.k .nilF))])
 (.seq (.reg [o_ 3 (.mkfn (.func 151) [] [(.t 1)]),v_ 2 3])
 .ret))⟩
def L143_0 : SC := (.seq (.reg [o_ 41 (.bin .lss (.t 40) (i_ 4))])
 (.seq (.cond (.t 41) .skip
 (.exit 2))
 (.seq (.blk 3 (.seq (.reg [o_ 42 (.idx 4 2 true (.t 39) (.t 40)),o_ 6 (.alloc [(.int .i64 0),(.int .i64 0)]),s_ 6 42 2])
 (.seq (.reg [v_ 43 0,o_ 44 (w_ 6 2),.call (some 45) none (.t 43) [(.t 44)],o_ 46 (.un .not (.t 45))])
 (.cond (.t 46) .ret
 .skip))))
 (.reg [j_ 47 40,v_ 40 47]))))
def L143_1 : SC := (.seq (.reg [o_ 12 (.bin .lss (.t 11) (.t 10))])
 (.seq (.cond (.t 12) .skip
 (.exit 0))
 (.seq (.blk 1 (.seq (.reg [z_ 13 3 9 11,o_ 14 (w_ 13 3),o_ 4 (.alloc [(.int .i64 0),(.int .i64 0),(.int .i64 0)]),s_ 4 14 3])
 (.seq (.reg [o_ 15 (a_ 4 1),y_ 16 15,o_ 17 (.un .neg (.t 16)),o_ 18 (a_ 4 0),y_ 19 18,o_ 20 (.build [(.int .i64 0),(.int .i64 0)] [(0,1,(.t 17)),(1,1,(.t 19))]),o_ 21 (a_ 4 1),y_ 22 21,o_ 23 (a_ 4 0),y_ 24 23,o_ 25 (.un .neg (.t 24)),o_ 26 (.build [(.int .i64 0),(.int .i64 0)] [(0,1,(.t 22)),(1,1,(.t 25))]),o_ 27 (a_ 4 0),y_ 28 27,o_ 29 (a_ 4 1),y_ 30 29,o_ 31 (.build [(.int .i64 0),(.int .i64 0)] [(0,1,(.t 28)),(1,1,(.t 30))]),o_ 32 (a_ 4 0),y_ 33 32,o_ 34 (.un .neg (.t 33)),o_ 35 (a_ 4 1),y_ 36 35,o_ 37 (.un .neg (.t 36)),o_ 38 (.build [(.int .i64 0),(.int .i64 0)] [(0,1,(.t 34)),(1,1,(.t 37))]),o_ 39 (.build [(.int .i64 0),(.int .i64 0),(.int .i64 0),(.int .i64 0),(.int .i64 0),(.int .i64 0),(.int .i64 0),(.int .i64 0)] [(0,2,(.t 20)),(2,2,(.t 26)),(4,2,(.t 31)),(6,2,(.t 38))]),o_ 40 (.mov (i_ 0))])
 (.blk 2 (.loop [0,9,10,11,39,40] L143_0)))))
 (.reg [j_ 48 11,v_ 11 48]))))
def L143_2 : SC := (.seq (.reg [o_ 55 (.bin .lss (.t 54) (i_ 4))])
 (.seq (.cond (.t 55) .skip
 (.exit 4))
 (.seq (.blk 5 (.seq (.reg [o_ 56 (.idx 4 2 true (.t 53) (.t 54)),o_ 8 (.alloc [(.int .i64 0),(.int .i64 0)]),s_ 8 56 2])
 (.seq (.reg [v_ 57 0,o_ 58 (w_ 8 2),.call (some 59) none (.t 57) [(.t 58)],o_ 60 (.un .not (.t 59))])
 (.cond (.t 60) .ret
 .skip))))
 (.reg [j_ 61 54,v_ 54 61]))))
def mf143 : SF := ⟨62,[],
 (.seq (.seq (.reg [y_ 9 1,o_ 10 (n_ 9),o_ 11 (.mov (i_ 0))])
 (.blk 0 (.loop [0,9,10,11] L143_1)))
 (.seq (.reg [o_ 49 (.build [(.int .i64 0),(.int .i64 0)] [(0,1,(i_ 1)),(1,1,(i_ 0))]),o_ 50 (.build [(.int .i64 0),(.int .i64 0)] [(0,1,(i_ (-1))),(1,1,(i_ 0))]),o_ 51 (.build [(.int .i64 0),(.int .i64 0)] [(0,1,(i_ 0)),(1,1,(i_ 1))]),o_ 52 (.build [(.int .i64 0),(.int .i64 0)] [(0,1,(i_ 0)),(1,1,(i_ (-1)))]),o_ 53 (.build [(.int .i64 0),(.int .i64 0),(.int .i64 0),(.int .i64 0),(.int .i64 0),(.int .i64 0),(.int .i64 0),(.int .i64 0)] [(0,2,(.t 49)),(2,2,(.t 50)),(4,2,(.t 51)),(6,2,(.t 52))]),o_ 54 (.mov (i_ 0))])
 (.blk 4 (.loop [0,53,54] L143_2))))⟩
def L144_0 : SC := (.seq (.reg [o_ 9 (.bin .lss (.t 8) (.t 7))])
 (.seq (.cond (.t 9) .skip
 (.exit 0))
 (.seq (.blk 1 (.seq (.reg [v_ 10 8,v_ 5 10])
 (.seq (.reg [v_ 11 1,v_ 12 0,v_ 13 5,z_ 14 1 12 13,y_ 15 14,.call (some 16) none (.t 11) [(.t 15)]])
 (.cond (.t 16) (.seq (.reg [v_ 17 5,v_ 4 17])
 .ret)
 .skip))))
 (.reg [j_ 18 8,v_ 8 18]))))
def mf144 : SF := ⟨19,[(.t 4)],
 (.seq (.reg [o_ 4 (.mov (i_ 0))])
 (.seq (.seq (.reg [v_ 6 0,o_ 7 (n_ 6),o_ 8 (.mov (i_ 0))])
 (.blk 0 (.loop [0,1,7,8] L144_0)))
 (.seq (.reg [o_ 4 (.mov (i_ (-1)))])
 .ret)))⟩
def L145_0 : SC := (.seq (.reg [o_ 9 (.bin .lss (.t 8) (.t 7))])
 (.seq (.cond (.t 9) .skip
 (.exit 0))
 (.seq (.blk 1 (.seq (.reg [v_ 10 8,v_ 5 10])
 (.seq (.reg [v_ 11 1,v_ 12 0,v_ 13 5,z_ 14 1 12 13,y_ 15 14,o_ 16 (.bin .eql (.t 11) (.t 15))])
 (.cond (.t 16) (.seq (.reg [v_ 17 5,v_ 4 17])
 .ret)
 .skip))))
 (.reg [j_ 18 8,v_ 8 18]))))
def mf145 : SF := ⟨19,[(.t 4)],
 (.seq (.reg [o_ 4 (.mov (i_ 0))])
 (.seq (.seq (.reg [v_ 6 0,o_ 7 (n_ 6),o_ 8 (.mov (i_ 0))])
 (.blk 0 (.loop [0,1,7,8] L145_0)))
 (.seq (.reg [o_ 4 (.mov (i_ (-1)))])
 .ret)))⟩
def mf146 : SF := ⟨4,[(.t 2)],
 (.seq (.reg [o_ 2 (.mov (i_ 0))])
 (.seq (.seq (.reg [v_ 3 0])
 (.cond (.t 3) (.seq (.reg [o_ 2 (.mov (i_ 1))])
 .ret)
 .skip))
 (.seq (.reg [o_ 2 (.mov (i_ 0))])
 .ret)))⟩
def mf147 : SF := ⟨6,[(.t 2)],
 (.seq (.reg [o_ 2 (b_ false)])
 (.seq (.reg [v_ 3 0,v_ 4 0,o_ 5 (.bin .neq (.t 3) (.t 4)),v_ 2 5])
 .ret))⟩
def L148_0 : SC := (.seq (.reg [o_ 8 (.bin .lss (.t 7) (.t 6))])
 (.seq (.cond (.t 8) .skip
 (.exit 0))
 (.seq (.blk 1 (.seq (.reg [z_ 9 1 5 7,y_ 10 9,v_ 4 10])
 (.seq (.reg [v_ 11 0,v_ 12 4,.call (some 13) none (.t 11) [(.t 12)],o_ 14 (.un .not (.t 13))])
 (.cond (.t 14) .ret
 .skip))))
 (.reg [j_ 15 7,v_ 7 15]))))
def mf148 : SF := ⟨16,[],
 (.seq (.reg [y_ 5 1,o_ 6 (n_ 5),o_ 7 (.mov (i_ 0))])
 (.blk 0 (.loop [0,5,6,7] L148_0)))⟩
def mf149 : SF := ⟨5,[(.t 2)],
 (.seq (.reg [o_ 2 (.mov (.k .nilS))])
 (.seq (.reg [v_ 3 0,c_ 4 152 [(.k .nilS),(.t 3)],v_ 2 4])
 .ret))⟩
def mf150 : SF := ⟨11,[],
 (.seq (.reg [v_ 3 0,o_ 4 (n_ 3),v_ 2 4])
 (.reg [v_ 5 0,v_ 6 2,v_ 7 2,o_ 8 (.conv .u64 (.t 7)),c_ 9 154 [(.t 8)],c_ 10 153 [(.t 5),(i_ 0),(.t 6),(.t 9)]]))⟩
def rE : SC := (.reg [v_ 5 7])
def rD : SC := (.blk 1 (.reg [y_ 8 2,v_ 9 5,o_ 10 (.bslice 1 [(.int .i64 0)] 1 [(0,1,(.t 9))]),o_ 11 (.app 1 [(.int .i64 0)] 8 (.t 8) (.t 10)),s_ 2 11 1]))
def mf152 : SF := ⟨13,[(.t 4)],
 (.seq (.reg [o_ 2 (.box (.t 0) 1),o_ 4 (.mov (.k .nilS))])
 (.seq (.seq (.reg [v_ 6 1])
 (.blk 0 (.rng (.t 6) #[7] (bO (cZ 152) [1,0,1,0,0]) (bO (cZ 152) [1,0,1,0,1]) rE rD)))
 (.seq (.reg [y_ 12 2,v_ 4 12])
 .ret)))⟩
def L153_0 : SC := (.blk 1 (.seq (.reg [v_ 19 2,v_ 20 1,o_ 21 (.bin .sub (.t 19) (.t 20)),v_ 10 21])
 (.seq (.seq (.reg [v_ 22 10,o_ 23 (.bin .leq (.t 22) (i_ 12))])
 (.cond (.t 23) (.seq (.reg [v_ 24 0,v_ 25 1,v_ 26 2,c_ 27 155 [(.t 24),(.t 25),(.t 26)]])
 .ret)
 .skip))
 (.seq (.seq (.reg [v_ 28 3,o_ 29 (.bin .eql (.t 28) (i_ 0))])
 (.cond (.t 29) (.seq (.reg [v_ 30 0,v_ 31 1,v_ 32 2,c_ 33 156 [(.t 30),(.t 31),(.t 32)]])
 .ret)
 .skip))
 (.seq (.seq (.reg [v_ 34 8,o_ 35 (.un .not (.t 34))])
 (.cond (.t 35) (.seq (.reg [v_ 36 0,v_ 37 1,v_ 38 2,c_ 39 157 [(.t 36),(.t 37),(.t 38)]])
 (.reg [v_ 40 3,o_ 41 (.bin .sub (.t 40) (i_ 1)),v_ 3 41]))
 .skip))
 (.seq (.reg [v_ 43 0,v_ 44 1,v_ 45 2,c_ 46 158 [(.t 43),(.t 44),(.t 45)],v_ 42 46,o_ 47 (e_ 42 0),o_ 48 (e_ 42 1),v_ 11 47,v_ 12 48])
 (.seq (.seq (.reg [v_ 49 12,o_ 50 (.bin .eql (.t 49) (i_ 2))])
 (.cond (.t 50) (.seq (.reg [v_ 51 0,v_ 52 1,v_ 53 2,c_ 54 159 [(.t 51),(.t 52),(.t 53)]])
 (.seq (.reg [v_ 55 2,o_ 56 (.bin .sub (.t 55) (i_ 1)),v_ 57 11,v_ 58 1,o_ 59 (.bin .sub (.t 57) (.t 58)),o_ 60 (.bin .sub (.t 56) (.t 59)),v_ 11 60])
 (.reg [o_ 12 (.mov (i_ 1))])))
 .skip))
 (.seq (.seq (.reg [v_ 61 8,v_ 62 61,q_ 63 62 true (m_ 9),o_ 64 (p_ 62 63),v_ 65 64,q_ 66 65 true (m_ 12),q_ 67 65 true (.bin .eql (.t 66) (i_ 1)),o_ 68 (p_ 65 67)])
 (.cond (.t 68) (.seq (.reg [v_ 69 0,v_ 70 1,v_ 71 2,c_ 72 160 [(.t 69),(.t 70),(.t 71)]])
 (.cond (.t 72) .ret
 .skip))
 .skip))
 (.seq (.seq (.draw [true] [v_ 73 1,o_ 74 (.bin .gtr (.t 73) (i_ 0)),v_ 75 74,q_ 76 75 true (m_ 0),q_ 77 75 true (m_ 1),q_ 78 75 true (.bin .sub (.t 77) (i_ 1)),q_ 79 75 true (x_ 1 76 78),q_ 80 75 true (l_ 79),q_ 81 75 true (m_ 0),q_ 82 75 true (m_ 11),q_ 83 75 true (x_ 1 81 82),q_ 84 75 true (l_ 83),d_ 85 75 true 161 [(.t 80),(.t 84)],q_ 86 75 true (.un .not (.t 85)),o_ 87 (p_ 75 86)] [[],[0],[1,0],[2,1,0],[2,1,0],[4,2,1,0],[3,2,1,0,5,4],[6,3,2,1,0,5,4],[2,1,0],[2,1,0],[8,2,1,0,9],[10,8,2,1,0,9],[7,6,3,2,1,0,5,4,11,10,8,9],[12,7,6,3,2,1,0,5,4,11,10,8,9],[2,1,0,13,12,7,6,3,5,4,11,10,8,9]])
 (.cond (.t 87) (.seq (.reg [v_ 88 0,v_ 89 1,v_ 90 2,v_ 91 11,c_ 92 162 [(.t 88),(.t 89),(.t 90),(.t 91)],v_ 13 92])
 (.seq (.reg [v_ 93 13,v_ 1 93])
 (.exit 1)))
 .skip))
 (.seq (.reg [v_ 95 0,v_ 96 1,v_ 97 2,v_ 98 11,c_ 99 163 [(.t 95),(.t 96),(.t 97),(.t 98)],v_ 94 99,o_ 100 (e_ 94 0),o_ 101 (e_ 94 1),v_ 14 100,v_ 15 101])
 (.seq (.reg [v_ 102 15,v_ 9 102])
 (.seq (.reg [v_ 103 14,v_ 104 1,o_ 105 (.bin .sub (.t 103) (.t 104)),v_ 106 2,v_ 107 14,o_ 108 (.bin .sub (.t 106) (.t 107)),v_ 16 105,v_ 17 108])
 (.seq (.reg [v_ 109 10,o_ 110 (.bin .quo (.t 109) (i_ 8)),v_ 18 110])
 (.seq (.reg [v_ 111 16,v_ 112 17,o_ 113 (.bin .lss (.t 111) (.t 112))])
 (.cond (.t 113) (.seq (.reg [v_ 114 16,v_ 115 18,o_ 116 (.bin .geq (.t 114) (.t 115)),v_ 8 116])
 (.seq (.reg [v_ 117 0,v_ 118 1,v_ 119 14,v_ 120 3,c_ 121 153 [(.t 117),(.t 118),(.t 119),(.t 120)]])
 (.reg [v_ 122 14,j_ 123 122,v_ 1 123])))
 (.seq (.reg [v_ 124 17,v_ 125 18,o_ 126 (.bin .geq (.t 124) (.t 125)),v_ 8 126])
 (.seq (.reg [v_ 127 0,v_ 128 14,j_ 129 128,v_ 130 2,v_ 131 3,c_ 132 153 [(.t 127),(.t 129),(.t 130),(.t 131)]])
 (.reg [v_ 133 14,v_ 2 133]))))))))))))))))))
def mf153 : SF := ⟨134,[],
 (.seq (.reg [o_ 8 (b_ true)])
 (.seq (.reg [o_ 9 (b_ true)])
 (.blk 0 (.loop [0,1,2,3,8,9] L153_0))))⟩
def mf154 : SF := ⟨8,[(.t 2)],
 (.seq (.reg [o_ 2 (.mov (i_ 0))])
 (.seq (.cond (.k (.bool false)) (.seq (.reg [v_ 3 0,o_ 4 (.conv .u32 (.t 3)),c_ 5 164 [(.t 4)],v_ 2 5])
 .ret)
 .skip)
 (.seq (.reg [v_ 6 0,c_ 7 165 [(.t 6)],v_ 2 7])
 .ret)))⟩
def L155_0 : SC := (.seq (.seq (.draw [true] [v_ 16 7,v_ 17 1,o_ 18 (.bin .gtr (.t 16) (.t 17)),v_ 19 18,q_ 20 19 true (m_ 0),q_ 21 19 true (m_ 7),q_ 22 19 true (x_ 1 20 21),q_ 23 19 true (l_ 22),q_ 24 19 true (m_ 0),q_ 25 19 true (m_ 7),q_ 26 19 true (.bin .sub (.t 25) (i_ 1)),q_ 27 19 true (x_ 1 24 26),q_ 28 19 true (l_ 27),d_ 29 19 true 161 [(.t 23),(.t 28)],o_ 30 (p_ 19 29)] [[],[],[0,1],[2,0,1],[3,2,0,1],[3,2,0,1],[4,3,2,0,1,5],[6,4,3,2,0,1,5],[3,2,0,1],[3,2,0,1],[9,3,2,0,1],[8,3,2,0,1,10,9],[11,8,3,2,0,1,10,9],[7,6,4,3,2,0,1,5,12,11,8,10,9],[3,2,0,1,13,7,6,4,5,12,11,8,10,9]])
 (.cond (.t 30) .skip
 (.exit 2)))
 (.seq (.blk 3 (.draw [true] [v_ 33 0,v_ 34 7,v_ 35 0,v_ 36 7,o_ 37 (.bin .sub (.t 36) (i_ 1)),v_ 38 0,v_ 39 7,o_ 40 (.bin .sub (.t 39) (i_ 1)),z_ 41 1 38 40,y_ 42 41,v_ 43 0,v_ 44 7,z_ 45 1 43 44,y_ 46 45,z_ 47 1 33 34,s_ 47 42 1,z_ 48 1 35 37,s_ 48 46 1] [[],[],[],[],[3],[],[],[6],[5,7,6],[8,5,7,6],[],[],[10,11],[12,10,11],[0,1,5,6,7,8,9,13,12,10,11],[14,0,1,5,6,7,8,9,13,12,10,11],[2,4,3,0,1,5,6,7,8,9,10,11,12,13,14,15],[16,2,4,3,0,1,5,6,7,8,9,10,11,12,13,14,15]]))
 (.reg [v_ 31 7,o_ 32 (.bin .sub (.t 31) (i_ 1)),v_ 7 32])))
def L155_1 : SC := (.seq (.seq (.reg [v_ 10 6,v_ 11 2,o_ 12 (.bin .lss (.t 10) (.t 11))])
 (.cond (.t 12) .skip
 (.exit 0)))
 (.seq (.blk 1 (.seq (.reg [v_ 15 6,v_ 7 15])
 (.blk 2 (.loop [0,1,2,6,7] L155_0))))
 (.reg [v_ 13 6,j_ 14 13,v_ 6 14])))
def mf155 : SF := ⟨49,[],
 (.seq (.reg [v_ 8 1,j_ 9 8,v_ 6 9])
 (.blk 0 (.loop [0,1,2,6] L155_1)))⟩
def L156_0 : SC := (.seq (.seq (.reg [v_ 18 9,o_ 19 (.bin .geq (.t 18) (i_ 0))])
 (.cond (.t 19) .skip
 (.exit 0)))
 (.seq (.blk 1 (.reg [v_ 22 0,v_ 23 9,v_ 24 8,v_ 25 6,c_ 26 166 [(.t 22),(.t 23),(.t 24),(.t 25)]]))
 (.reg [v_ 20 9,o_ 21 (.bin .sub (.t 20) (i_ 1)),v_ 9 21])))
def L156_1 : SC := (.seq (.seq (.reg [v_ 29 10,o_ 30 (.bin .geq (.t 29) (i_ 0))])
 (.cond (.t 30) .skip
 (.exit 2)))
 (.seq (.blk 3 (.seq (.draw [true] [v_ 33 0,v_ 34 6,v_ 35 0,v_ 36 6,v_ 37 10,o_ 38 (.bin .add (.t 36) (.t 37)),v_ 39 0,v_ 40 6,v_ 41 10,o_ 42 (.bin .add (.t 40) (.t 41)),z_ 43 1 39 42,y_ 44 43,v_ 45 0,v_ 46 6,z_ 47 1 45 46,y_ 48 47,z_ 49 1 33 34,s_ 49 44 1,z_ 50 1 35 38,s_ 50 48 1] [[],[],[],[],[],[3,4],[],[],[],[7,8],[6,9,7,8],[10,6,9,7,8],[],[],[12,13],[14,12,13],[0,1,6,7,8,9,10,11,15,14,12,13],[16,0,1,6,7,8,9,10,11,15,14,12,13],[2,5,3,4,0,1,6,7,8,9,10,11,12,13,14,15,16,17],[18,2,5,3,4,0,1,6,7,8,9,10,11,12,13,14,15,16,17]])
 (.reg [v_ 51 0,v_ 52 7,v_ 53 10,v_ 54 6,c_ 55 166 [(.t 51),(.t 52),(.t 53),(.t 54)]])))
 (.reg [v_ 31 10,o_ 32 (.bin .sub (.t 31) (i_ 1)),v_ 10 32])))
def mf156 : SF := ⟨56,[],
 (.seq (.reg [v_ 11 1,v_ 6 11])
 (.seq (.reg [o_ 7 (.mov (i_ 0))])
 (.seq (.reg [v_ 12 2,v_ 13 1,o_ 14 (.bin .sub (.t 12) (.t 13)),v_ 8 14])
 (.seq (.seq (.reg [v_ 15 8,o_ 16 (.bin .sub (.t 15) (i_ 1)),o_ 17 (.bin .quo (.t 16) (i_ 2)),v_ 9 17])
 (.blk 0 (.loop [0,6,7,8,9] L156_0)))
 (.seq (.reg [v_ 27 8,o_ 28 (.bin .sub (.t 27) (i_ 1)),v_ 10 28])
 (.blk 2 (.loop [0,6,7,10] L156_1)))))))⟩
def L157_0 : SC := (.seq (.seq (.reg [v_ 26 9,v_ 27 1,v_ 28 6,o_ 29 (.bin .quo (.t 28) (i_ 4)),o_ 30 (.bin .mul (.t 29) (i_ 2)),o_ 31 (.bin .add (.t 27) (.t 30)),j_ 32 31,o_ 33 (.bin .leq (.t 26) (.t 32))])
 (.cond (.t 33) .skip
 (.exit 0)))
 (.seq (.blk 1 (.seq (.reg [c_ 36 168 [(.t 7)],v_ 37 8,o_ 38 (.bin .sub (.t 37) (.k (.int .u64 1))),o_ 39 (.bin .and (.t 36) (.t 38)),o_ 40 (.conv .i64 (.t 39)),v_ 10 40])
 (.seq (.seq (.reg [v_ 41 10,v_ 42 6,o_ 43 (.bin .geq (.t 41) (.t 42))])
 (.cond (.t 43) (.reg [v_ 44 10,v_ 45 6,o_ 46 (.bin .sub (.t 44) (.t 45)),v_ 10 46])
 .skip))
 (.draw [true] [v_ 47 0,v_ 48 9,v_ 49 0,v_ 50 1,v_ 51 10,o_ 52 (.bin .add (.t 50) (.t 51)),v_ 53 0,v_ 54 1,v_ 55 10,o_ 56 (.bin .add (.t 54) (.t 55)),z_ 57 1 53 56,y_ 58 57,v_ 59 0,v_ 60 9,z_ 61 1 59 60,y_ 62 61,z_ 63 1 47 48,s_ 63 58 1,z_ 64 1 49 52,s_ 64 62 1] [[],[],[],[],[],[3,4],[],[],[],[7,8],[6,9,7,8],[10,6,9,7,8],[],[],[12,13],[14,12,13],[0,1,6,7,8,9,10,11,15,14,12,13],[16,0,1,6,7,8,9,10,11,15,14,12,13],[2,5,3,4,0,1,6,7,8,9,10,11,12,13,14,15,16,17],[18,2,5,3,4,0,1,6,7,8,9,10,11,12,13,14,15,16,17]]))))
 (.reg [v_ 34 9,j_ 35 34,v_ 9 35])))
def mf157 : SF := ⟨65,[],
 (.seq (.reg [v_ 11 2,v_ 12 1,o_ 13 (.bin .sub (.t 11) (.t 12)),v_ 6 13])
 (.seq (.reg [v_ 14 6,o_ 15 (.bin .geq (.t 14) (i_ 8))])
 (.cond (.t 15) (.seq (.reg [v_ 16 6,o_ 17 (.conv .u64 (.t 16)),o_ 7 (.alloc [(.int .u64 0)]),s_ 7 17 1])
 (.seq (.reg [v_ 18 6,c_ 19 167 [(.t 18)],v_ 8 19])
 (.seq (.reg [v_ 20 1,v_ 21 6,o_ 22 (.bin .quo (.t 21) (i_ 4)),o_ 23 (.bin .mul (.t 22) (i_ 2)),o_ 24 (.bin .add (.t 20) (.t 23)),o_ 25 (.bin .sub (.t 24) (i_ 1)),v_ 9 25])
 (.blk 0 (.loop [0,1,6,7,8,9] L157_0)))))
 .skip)))⟩
def mf158 : SF := ⟨57,[(.t 6),(.t 7)],
 (.seq (.reg [o_ 6 (.mov (i_ 0)),o_ 7 (.mov (i_ 0))])
 (.seq (.reg [v_ 13 2,v_ 14 1,o_ 15 (.bin .sub (.t 13) (.t 14)),v_ 8 15])
 (.seq (.reg [o_ 9 (.alloc [(.int .i64 0)])])
 (.seq (.reg [v_ 16 1,v_ 17 8,o_ 18 (.bin .quo (.t 17) (i_ 4)),o_ 19 (.bin .mul (.t 18) (i_ 1)),o_ 20 (.bin .add (.t 16) (.t 19)),v_ 10 20])
 (.seq (.reg [v_ 21 1,v_ 22 8,o_ 23 (.bin .quo (.t 22) (i_ 4)),o_ 24 (.bin .mul (.t 23) (i_ 2)),o_ 25 (.bin .add (.t 21) (.t 24)),v_ 11 25])
 (.seq (.reg [v_ 26 1,v_ 27 8,o_ 28 (.bin .quo (.t 27) (i_ 4)),o_ 29 (.bin .mul (.t 28) (i_ 3)),o_ 30 (.bin .add (.t 26) (.t 29)),v_ 12 30])
 (.seq (.seq (.reg [v_ 31 8,o_ 32 (.bin .geq (.t 31) (i_ 8))])
 (.cond (.t 32) (.seq (.seq (.reg [v_ 33 8,o_ 34 (.bin .geq (.t 33) (i_ 50))])
 (.cond (.t 34) (.seq (.reg [v_ 35 0,v_ 36 10,c_ 37 169 [(.t 35),(.t 36),(.t 9)],v_ 10 37])
 (.seq (.reg [v_ 38 0,v_ 39 11,c_ 40 169 [(.t 38),(.t 39),(.t 9)],v_ 11 40])
 (.reg [v_ 41 0,v_ 42 12,c_ 43 169 [(.t 41),(.t 42),(.t 9)],v_ 12 43])))
 .skip))
 (.reg [v_ 44 0,v_ 45 10,v_ 46 11,v_ 47 12,c_ 48 170 [(.t 44),(.t 45),(.t 46),(.t 47),(.t 9)],v_ 11 48]))
 .skip))
 (.seq (.reg [y_ 49 9])
 (.blk 0 (.seq (.reg [o_ 52 (.bin .eql (.t 49) (i_ 0)),v_ 51 52])
 (.cond (.t 51) (.seq (.reg [v_ 53 11,v_ 6 53,o_ 7 (.mov (i_ 1))])
 .ret)
 (.seq (.reg [o_ 55 (.bin .eql (.t 49) (i_ 12)),v_ 54 55])
 (.cond (.t 54) (.seq (.reg [v_ 56 11,v_ 6 56,o_ 7 (.mov (i_ 2))])
 .ret)
 (.seq (.reg [v_ 50 11,v_ 6 50,o_ 7 (.mov (i_ 0))])
 .ret))))))))))))))⟩
def L159_0 : SC := (.seq (.seq (.reg [v_ 11 6,v_ 12 7,o_ 13 (.bin .lss (.t 11) (.t 12))])
 (.cond (.t 13) .skip
 (.exit 0)))
 (.blk 1 (.seq (.draw [true] [v_ 14 0,v_ 15 6,v_ 16 0,v_ 17 7,v_ 18 0,v_ 19 7,z_ 20 1 18 19,y_ 21 20,v_ 22 0,v_ 23 6,z_ 24 1 22 23,y_ 25 24,z_ 26 1 14 15,s_ 26 21 1,z_ 27 1 16 17,s_ 27 25 1] [[],[],[],[],[],[],[4,5],[6,4,5],[],[],[8,9],[10,8,9],[0,1,4,5,6,7,11,10,8,9],[12,0,1,4,5,6,7,11,10,8,9],[2,3,0,1,4,5,6,7,8,9,10,11,12,13],[14,2,3,0,1,4,5,6,7,8,9,10,11,12,13]])
 (.seq (.reg [v_ 28 6,j_ 29 28,v_ 6 29])
 (.reg [v_ 30 7,o_ 31 (.bin .sub (.t 30) (i_ 1)),v_ 7 31])))))
def mf159 : SF := ⟨32,[],
 (.seq (.reg [v_ 8 1,v_ 6 8])
 (.seq (.reg [v_ 9 2,o_ 10 (.bin .sub (.t 9) (i_ 1)),v_ 7 10])
 (.blk 0 (.loop [0,6,7] L159_0))))⟩
def L160_0 : SC := (.seq (.seq (.draw [true] [v_ 17 7,v_ 18 2,o_ 19 (.bin .lss (.t 17) (.t 18)),v_ 20 19,q_ 21 20 true (m_ 0),q_ 22 20 true (m_ 7),q_ 23 20 true (x_ 1 21 22),q_ 24 20 true (l_ 23),q_ 25 20 true (m_ 0),q_ 26 20 true (m_ 7),q_ 27 20 true (.bin .sub (.t 26) (i_ 1)),q_ 28 20 true (x_ 1 25 27),q_ 29 20 true (l_ 28),d_ 30 20 true 161 [(.t 24),(.t 29)],q_ 31 20 true (.un .not (.t 30)),o_ 32 (p_ 20 31)] [[],[],[0,1],[2,0,1],[3,2,0,1],[3,2,0,1],[4,3,2,0,1,5],[6,4,3,2,0,1,5],[3,2,0,1],[3,2,0,1],[9,3,2,0,1],[8,3,2,0,1,10,9],[11,8,3,2,0,1,10,9],[7,6,4,3,2,0,1,5,12,11,8,10,9],[13,7,6,4,3,2,0,1,5,12,11,8,10,9],[3,2,0,1,14,13,7,6,4,5,12,11,8,10,9]])
 (.cond (.t 32) .skip
 (.exit 2)))
 (.blk 3 (.reg [v_ 33 7,j_ 34 33,v_ 7 34])))
def L160_1 : SC := (.seq (.seq (.reg [v_ 64 9,o_ 65 (.bin .geq (.t 64) (i_ 1))])
 (.cond (.t 65) .skip
 (.exit 4)))
 (.seq (.blk 5 (.seq (.seq (.draw [true] [v_ 68 0,v_ 69 9,z_ 70 1 68 69,y_ 71 70,v_ 72 0,v_ 73 9,o_ 74 (.bin .sub (.t 73) (i_ 1)),z_ 75 1 72 74,y_ 76 75,c_ 77 161 [(.t 71),(.t 76)],o_ 78 (.un .not (.t 77))] [[],[],[0,1],[2,0,1],[],[],[5],[4,6,5],[7,4,6,5],[3,2,0,1,8,7,4,6,5],[9,3,2,0,1,8,7,4,6,5]])
 (.cond (.t 78) (.exit 4)
 .skip))
 (.draw [true] [v_ 79 0,v_ 80 9,v_ 81 0,v_ 82 9,o_ 83 (.bin .sub (.t 82) (i_ 1)),v_ 84 0,v_ 85 9,o_ 86 (.bin .sub (.t 85) (i_ 1)),z_ 87 1 84 86,y_ 88 87,v_ 89 0,v_ 90 9,z_ 91 1 89 90,y_ 92 91,z_ 93 1 79 80,s_ 93 88 1,z_ 94 1 81 83,s_ 94 92 1] [[],[],[],[],[3],[],[],[6],[5,7,6],[8,5,7,6],[],[],[10,11],[12,10,11],[0,1,5,6,7,8,9,13,12,10,11],[14,0,1,5,6,7,8,9,13,12,10,11],[2,4,3,0,1,5,6,7,8,9,10,11,12,13,14,15],[16,2,4,3,0,1,5,6,7,8,9,10,11,12,13,14,15]])))
 (.reg [v_ 66 9,o_ 67 (.bin .sub (.t 66) (i_ 1)),v_ 9 67])))
def L160_2 : SC := (.seq (.seq (.reg [v_ 101 10,v_ 102 2,o_ 103 (.bin .lss (.t 101) (.t 102))])
 (.cond (.t 103) .skip
 (.exit 6)))
 (.seq (.blk 7 (.seq (.seq (.draw [true] [v_ 106 0,v_ 107 10,z_ 108 1 106 107,y_ 109 108,v_ 110 0,v_ 111 10,o_ 112 (.bin .sub (.t 111) (i_ 1)),z_ 113 1 110 112,y_ 114 113,c_ 115 161 [(.t 109),(.t 114)],o_ 116 (.un .not (.t 115))] [[],[],[0,1],[2,0,1],[],[],[5],[4,6,5],[7,4,6,5],[3,2,0,1,8,7,4,6,5],[9,3,2,0,1,8,7,4,6,5]])
 (.cond (.t 116) (.exit 6)
 .skip))
 (.draw [true] [v_ 117 0,v_ 118 10,v_ 119 0,v_ 120 10,o_ 121 (.bin .sub (.t 120) (i_ 1)),v_ 122 0,v_ 123 10,o_ 124 (.bin .sub (.t 123) (i_ 1)),z_ 125 1 122 124,y_ 126 125,v_ 127 0,v_ 128 10,z_ 129 1 127 128,y_ 130 129,z_ 131 1 117 118,s_ 131 126 1,z_ 132 1 119 121,s_ 132 130 1] [[],[],[],[],[3],[],[],[6],[5,7,6],[8,5,7,6],[],[],[10,11],[12,10,11],[0,1,5,6,7,8,9,13,12,10,11],[14,0,1,5,6,7,8,9,13,12,10,11],[2,4,3,0,1,5,6,7,8,9,10,11,12,13,14,15],[16,2,4,3,0,1,5,6,7,8,9,10,11,12,13,14,15]])))
 (.reg [v_ 104 10,j_ 105 104,v_ 10 105])))
def L160_3 : SC := (.seq (.seq (.reg [v_ 13 8,o_ 14 (.bin .lss (.t 13) (i_ 5))])
 (.cond (.t 14) .skip
 (.exit 0)))
 (.seq (.blk 1 (.seq (.blk 2 (.loop [0,1,2,7,8] L160_0))
 (.seq (.seq (.reg [v_ 35 7,v_ 36 2,o_ 37 (.bin .eql (.t 35) (.t 36))])
 (.cond (.t 37) (.seq (.reg [o_ 6 (b_ true)])
 .ret)
 .skip))
 (.seq (.seq (.reg [v_ 38 2,v_ 39 1,o_ 40 (.bin .sub (.t 38) (.t 39)),o_ 41 (.bin .lss (.t 40) (i_ 50))])
 (.cond (.t 41) (.seq (.reg [o_ 6 (b_ false)])
 .ret)
 .skip))
 (.seq (.draw [true] [v_ 42 0,v_ 43 7,v_ 44 0,v_ 45 7,o_ 46 (.bin .sub (.t 45) (i_ 1)),v_ 47 0,v_ 48 7,o_ 49 (.bin .sub (.t 48) (i_ 1)),z_ 50 1 47 49,y_ 51 50,v_ 52 0,v_ 53 7,z_ 54 1 52 53,y_ 55 54,z_ 56 1 42 43,s_ 56 51 1,z_ 57 1 44 46,s_ 57 55 1] [[],[],[],[],[3],[],[],[6],[5,7,6],[8,5,7,6],[],[],[10,11],[12,10,11],[0,1,5,6,7,8,9,13,12,10,11],[14,0,1,5,6,7,8,9,13,12,10,11],[2,4,3,0,1,5,6,7,8,9,10,11,12,13,14,15],[16,2,4,3,0,1,5,6,7,8,9,10,11,12,13,14,15]])
 (.seq (.seq (.reg [v_ 58 7,v_ 59 1,o_ 60 (.bin .sub (.t 58) (.t 59)),o_ 61 (.bin .geq (.t 60) (i_ 2))])
 (.cond (.t 61) (.seq (.reg [v_ 62 7,o_ 63 (.bin .sub (.t 62) (i_ 1)),v_ 9 63])
 (.blk 4 (.loop [0,1,2,7,8,9] L160_1)))
 .skip))
 (.seq (.reg [v_ 95 2,v_ 96 7,o_ 97 (.bin .sub (.t 95) (.t 96)),o_ 98 (.bin .geq (.t 97) (i_ 2))])
 (.cond (.t 98) (.seq (.reg [v_ 99 7,j_ 100 99,v_ 10 100])
 (.blk 6 (.loop [0,1,2,7,8,10] L160_2)))
 .skip))))))))
 (.reg [v_ 15 8,j_ 16 15,v_ 8 16])))
def mf160 : SF := ⟨133,[(.t 6)],
 (.seq (.reg [o_ 6 (b_ false)])
 (.seq (.reg [v_ 11 1,j_ 12 11,v_ 7 12])
 (.seq (.seq (.reg [o_ 8 (.mov (i_ 0))])
 (.blk 0 (.loop [0,1,2,7,8] L160_3)))
 (.seq (.reg [o_ 6 (b_ false)])
 .ret))))⟩
def mf161 : SF := ⟨17,[(.t 4)],
 (.seq (.reg [o_ 4 (b_ false)])
 (.seq (.reg [v_ 5 0,c_ 6 147 [(.t 5)],v_ 7 6,q_ 8 7 true (m_ 1),d_ 9 7 true 147 [(.t 8)],q_ 10 7 true (.un .not (.t 9)),o_ 11 (p_ 7 10),v_ 12 11,q_ 13 12 false (m_ 0),q_ 14 12 false (m_ 1),q_ 15 12 false (.bin .lss (.t 13) (.t 14)),o_ 16 (r_ 12 15),v_ 4 16])
 .ret))⟩
def L162_0 : SC := (.seq (.seq (.draw [true] [v_ 29 9,v_ 30 10,o_ 31 (.bin .leq (.t 29) (.t 30)),v_ 32 31,q_ 33 32 true (m_ 0),q_ 34 32 true (m_ 1),q_ 35 32 true (x_ 1 33 34),q_ 36 32 true (l_ 35),q_ 37 32 true (m_ 0),q_ 38 32 true (m_ 9),q_ 39 32 true (x_ 1 37 38),q_ 40 32 true (l_ 39),d_ 41 32 true 161 [(.t 36),(.t 40)],q_ 42 32 true (.un .not (.t 41)),o_ 43 (p_ 32 42)] [[],[],[0,1],[2,0,1],[3,2,0,1],[3,2,0,1],[4,3,2,0,1,5],[6,4,3,2,0,1,5],[3,2,0,1],[3,2,0,1],[8,3,2,0,1,9],[10,8,3,2,0,1,9],[7,6,4,3,2,0,1,5,11,10,8,9],[12,7,6,4,3,2,0,1,5,11,10,8,9],[3,2,0,1,13,12,7,6,4,5,11,10,8,9]])
 (.cond (.t 43) .skip
 (.exit 2)))
 (.blk 3 (.reg [v_ 44 9,j_ 45 44,v_ 9 45])))
def L162_1 : SC := (.seq (.seq (.draw [true] [v_ 46 9,v_ 47 10,o_ 48 (.bin .leq (.t 46) (.t 47)),v_ 49 48,q_ 50 49 true (m_ 0),q_ 51 49 true (m_ 1),q_ 52 49 true (x_ 1 50 51),q_ 53 49 true (l_ 52),q_ 54 49 true (m_ 0),q_ 55 49 true (m_ 10),q_ 56 49 true (x_ 1 54 55),q_ 57 49 true (l_ 56),d_ 58 49 true 161 [(.t 53),(.t 57)],o_ 59 (p_ 49 58)] [[],[],[0,1],[2,0,1],[3,2,0,1],[3,2,0,1],[4,3,2,0,1,5],[6,4,3,2,0,1,5],[3,2,0,1],[3,2,0,1],[8,3,2,0,1,9],[10,8,3,2,0,1,9],[7,6,4,3,2,0,1,5,11,10,8,9],[3,2,0,1,12,7,6,4,5,11,10,8,9]])
 (.cond (.t 59) .skip
 (.exit 4)))
 (.blk 5 (.reg [v_ 60 10,o_ 61 (.bin .sub (.t 60) (i_ 1)),v_ 10 61])))
def L162_2 : SC := (.blk 1 (.seq (.blk 2 (.loop [0,1,9,10] L162_0))
 (.seq (.blk 4 (.loop [0,1,9,10] L162_1))
 (.seq (.seq (.reg [v_ 62 9,v_ 63 10,o_ 64 (.bin .gtr (.t 62) (.t 63))])
 (.cond (.t 64) (.exit 0)
 .skip))
 (.seq (.draw [true] [v_ 65 0,v_ 66 9,v_ 67 0,v_ 68 10,v_ 69 0,v_ 70 10,z_ 71 1 69 70,y_ 72 71,v_ 73 0,v_ 74 9,z_ 75 1 73 74,y_ 76 75,z_ 77 1 65 66,s_ 77 72 1,z_ 78 1 67 68,s_ 78 76 1] [[],[],[],[],[],[],[4,5],[6,4,5],[],[],[8,9],[10,8,9],[0,1,4,5,6,7,11,10,8,9],[12,0,1,4,5,6,7,11,10,8,9],[2,3,0,1,4,5,6,7,8,9,10,11,12,13],[14,2,3,0,1,4,5,6,7,8,9,10,11,12,13]])
 (.seq (.reg [v_ 79 9,j_ 80 79,v_ 9 80])
 (.reg [v_ 81 10,o_ 82 (.bin .sub (.t 81) (i_ 1)),v_ 10 82])))))))
def mf162 : SF := ⟨84,[(.t 8)],
 (.seq (.reg [o_ 8 (.mov (i_ 0))])
 (.seq (.draw [true] [v_ 11 0,v_ 12 1,v_ 13 0,v_ 14 3,v_ 15 0,v_ 16 3,z_ 17 1 15 16,y_ 18 17,v_ 19 0,v_ 20 1,z_ 21 1 19 20,y_ 22 21,z_ 23 1 11 12,s_ 23 18 1,z_ 24 1 13 14,s_ 24 22 1] [[],[],[],[],[],[],[4,5],[6,4,5],[],[],[8,9],[10,8,9],[0,1,4,5,6,7,11,10,8,9],[12,0,1,4,5,6,7,11,10,8,9],[2,3,0,1,4,5,6,7,8,9,10,11,12,13],[14,2,3,0,1,4,5,6,7,8,9,10,11,12,13]])
 (.seq (.reg [v_ 25 1,j_ 26 25,v_ 27 2,o_ 28 (.bin .sub (.t 27) (i_ 1)),v_ 9 26,v_ 10 28])
 (.seq (.blk 0 (.loop [0,1,9,10] L162_2))
 (.seq (.reg [v_ 83 9,v_ 8 83])
 .ret)))))⟩
def L163_0 : SC := (.seq (.seq (.draw [true] [v_ 30 10,v_ 31 11,o_ 32 (.bin .leq (.t 30) (.t 31)),v_ 33 32,q_ 34 33 true (m_ 0),q_ 35 33 true (m_ 10),q_ 36 33 true (x_ 1 34 35),q_ 37 33 true (l_ 36),q_ 38 33 true (m_ 0),q_ 39 33 true (m_ 1),q_ 40 33 true (x_ 1 38 39),q_ 41 33 true (l_ 40),d_ 42 33 true 161 [(.t 37),(.t 41)],o_ 43 (p_ 33 42)] [[],[],[0,1],[2,0,1],[3,2,0,1],[3,2,0,1],[4,3,2,0,1,5],[6,4,3,2,0,1,5],[3,2,0,1],[3,2,0,1],[8,3,2,0,1,9],[10,8,3,2,0,1,9],[7,6,4,3,2,0,1,5,11,10,8,9],[3,2,0,1,12,7,6,4,5,11,10,8,9]])
 (.cond (.t 43) .skip
 (.exit 0)))
 (.blk 1 (.reg [v_ 44 10,j_ 45 44,v_ 10 45])))
def L163_1 : SC := (.seq (.seq (.draw [true] [v_ 46 10,v_ 47 11,o_ 48 (.bin .leq (.t 46) (.t 47)),v_ 49 48,q_ 50 49 true (m_ 0),q_ 51 49 true (m_ 11),q_ 52 49 true (x_ 1 50 51),q_ 53 49 true (l_ 52),q_ 54 49 true (m_ 0),q_ 55 49 true (m_ 1),q_ 56 49 true (x_ 1 54 55),q_ 57 49 true (l_ 56),d_ 58 49 true 161 [(.t 53),(.t 57)],q_ 59 49 true (.un .not (.t 58)),o_ 60 (p_ 49 59)] [[],[],[0,1],[2,0,1],[3,2,0,1],[3,2,0,1],[4,3,2,0,1,5],[6,4,3,2,0,1,5],[3,2,0,1],[3,2,0,1],[8,3,2,0,1,9],[10,8,3,2,0,1,9],[7,6,4,3,2,0,1,5,11,10,8,9],[12,7,6,4,3,2,0,1,5,11,10,8,9],[3,2,0,1,13,12,7,6,4,5,11,10,8,9]])
 (.cond (.t 60) .skip
 (.exit 2)))
 (.blk 3 (.reg [v_ 61 11,o_ 62 (.bin .sub (.t 61) (i_ 1)),v_ 11 62])))
def L163_2 : SC := (.seq (.seq (.draw [true] [v_ 99 10,v_ 100 11,o_ 101 (.bin .leq (.t 99) (.t 100)),v_ 102 101,q_ 103 102 true (m_ 0),q_ 104 102 true (m_ 10),q_ 105 102 true (x_ 1 103 104),q_ 106 102 true (l_ 105),q_ 107 102 true (m_ 0),q_ 108 102 true (m_ 1),q_ 109 102 true (x_ 1 107 108),q_ 110 102 true (l_ 109),d_ 111 102 true 161 [(.t 106),(.t 110)],o_ 112 (p_ 102 111)] [[],[],[0,1],[2,0,1],[3,2,0,1],[3,2,0,1],[4,3,2,0,1,5],[6,4,3,2,0,1,5],[3,2,0,1],[3,2,0,1],[8,3,2,0,1,9],[10,8,3,2,0,1,9],[7,6,4,3,2,0,1,5,11,10,8,9],[3,2,0,1,12,7,6,4,5,11,10,8,9]])
 (.cond (.t 112) .skip
 (.exit 6)))
 (.blk 7 (.reg [v_ 113 10,j_ 114 113,v_ 10 114])))
def L163_3 : SC := (.seq (.seq (.draw [true] [v_ 115 10,v_ 116 11,o_ 117 (.bin .leq (.t 115) (.t 116)),v_ 118 117,q_ 119 118 true (m_ 0),q_ 120 118 true (m_ 11),q_ 121 118 true (x_ 1 119 120),q_ 122 118 true (l_ 121),q_ 123 118 true (m_ 0),q_ 124 118 true (m_ 1),q_ 125 118 true (x_ 1 123 124),q_ 126 118 true (l_ 125),d_ 127 118 true 161 [(.t 122),(.t 126)],q_ 128 118 true (.un .not (.t 127)),o_ 129 (p_ 118 128)] [[],[],[0,1],[2,0,1],[3,2,0,1],[3,2,0,1],[4,3,2,0,1,5],[6,4,3,2,0,1,5],[3,2,0,1],[3,2,0,1],[8,3,2,0,1,9],[10,8,3,2,0,1,9],[7,6,4,3,2,0,1,5,11,10,8,9],[12,7,6,4,3,2,0,1,5,11,10,8,9],[3,2,0,1,13,12,7,6,4,5,11,10,8,9]])
 (.cond (.t 129) .skip
 (.exit 8)))
 (.blk 9 (.reg [v_ 130 11,o_ 131 (.bin .sub (.t 130) (i_ 1)),v_ 11 131])))
def L163_4 : SC := (.blk 5 (.seq (.blk 6 (.loop [0,1,10,11] L163_2))
 (.seq (.blk 8 (.loop [0,1,10,11] L163_3))
 (.seq (.seq (.reg [v_ 132 10,v_ 133 11,o_ 134 (.bin .gtr (.t 132) (.t 133))])
 (.cond (.t 134) (.exit 4)
 .skip))
 (.seq (.draw [true] [v_ 135 0,v_ 136 10,v_ 137 0,v_ 138 11,v_ 139 0,v_ 140 11,z_ 141 1 139 140,y_ 142 141,v_ 143 0,v_ 144 10,z_ 145 1 143 144,y_ 146 145,z_ 147 1 135 136,s_ 147 142 1,z_ 148 1 137 138,s_ 148 146 1] [[],[],[],[],[],[],[4,5],[6,4,5],[],[],[8,9],[10,8,9],[0,1,4,5,6,7,11,10,8,9],[12,0,1,4,5,6,7,11,10,8,9],[2,3,0,1,4,5,6,7,8,9,10,11,12,13],[14,2,3,0,1,4,5,6,7,8,9,10,11,12,13]])
 (.seq (.reg [v_ 149 10,j_ 150 149,v_ 10 150])
 (.reg [v_ 151 11,o_ 152 (.bin .sub (.t 151) (i_ 1)),v_ 11 152])))))))
def mf163 : SF := ⟨168,[(.t 8),(.t 9)],
 (.seq (.reg [o_ 8 (.mov (i_ 0)),o_ 9 (b_ false)])
 (.seq (.draw [true] [v_ 12 0,v_ 13 1,v_ 14 0,v_ 15 3,v_ 16 0,v_ 17 3,z_ 18 1 16 17,y_ 19 18,v_ 20 0,v_ 21 1,z_ 22 1 20 21,y_ 23 22,z_ 24 1 12 13,s_ 24 19 1,z_ 25 1 14 15,s_ 25 23 1] [[],[],[],[],[],[],[4,5],[6,4,5],[],[],[8,9],[10,8,9],[0,1,4,5,6,7,11,10,8,9],[12,0,1,4,5,6,7,11,10,8,9],[2,3,0,1,4,5,6,7,8,9,10,11,12,13],[14,2,3,0,1,4,5,6,7,8,9,10,11,12,13]])
 (.seq (.reg [v_ 26 1,j_ 27 26,v_ 28 2,o_ 29 (.bin .sub (.t 28) (i_ 1)),v_ 10 27,v_ 11 29])
 (.seq (.blk 0 (.loop [0,1,10,11] L163_0))
 (.seq (.blk 2 (.loop [0,1,10,11] L163_1))
 (.seq (.seq (.reg [v_ 63 10,v_ 64 11,o_ 65 (.bin .gtr (.t 63) (.t 64))])
 (.cond (.t 65) (.seq (.draw [true] [v_ 66 0,v_ 67 11,v_ 68 0,v_ 69 1,v_ 70 0,v_ 71 1,z_ 72 1 70 71,y_ 73 72,v_ 74 0,v_ 75 11,z_ 76 1 74 75,y_ 77 76,z_ 78 1 66 67,s_ 78 73 1,z_ 79 1 68 69,s_ 79 77 1] [[],[],[],[],[],[],[4,5],[6,4,5],[],[],[8,9],[10,8,9],[0,1,4,5,6,7,11,10,8,9],[12,0,1,4,5,6,7,11,10,8,9],[2,3,0,1,4,5,6,7,8,9,10,11,12,13],[14,2,3,0,1,4,5,6,7,8,9,10,11,12,13]])
 (.seq (.reg [v_ 80 11,v_ 8 80,o_ 9 (b_ true)])
 .ret))
 .skip))
 (.seq (.draw [true] [v_ 81 0,v_ 82 10,v_ 83 0,v_ 84 11,v_ 85 0,v_ 86 11,z_ 87 1 85 86,y_ 88 87,v_ 89 0,v_ 90 10,z_ 91 1 89 90,y_ 92 91,z_ 93 1 81 82,s_ 93 88 1,z_ 94 1 83 84,s_ 94 92 1] [[],[],[],[],[],[],[4,5],[6,4,5],[],[],[8,9],[10,8,9],[0,1,4,5,6,7,11,10,8,9],[12,0,1,4,5,6,7,11,10,8,9],[2,3,0,1,4,5,6,7,8,9,10,11,12,13],[14,2,3,0,1,4,5,6,7,8,9,10,11,12,13]])
 (.seq (.reg [v_ 95 10,j_ 96 95,v_ 10 96])
 (.seq (.reg [v_ 97 11,o_ 98 (.bin .sub (.t 97) (i_ 1)),v_ 11 98])
 (.seq (.blk 4 (.loop [0,1,10,11] L163_4))
 (.seq (.draw [true] [v_ 153 0,v_ 154 11,v_ 155 0,v_ 156 1,v_ 157 0,v_ 158 1,z_ 159 1 157 158,y_ 160 159,v_ 161 0,v_ 162 11,z_ 163 1 161 162,y_ 164 163,z_ 165 1 153 154,s_ 165 160 1,z_ 166 1 155 156,s_ 166 164 1] [[],[],[],[],[],[],[4,5],[6,4,5],[],[],[8,9],[10,8,9],[0,1,4,5,6,7,11,10,8,9],[12,0,1,4,5,6,7,11,10,8,9],[2,3,0,1,4,5,6,7,8,9,10,11,12,13],[14,2,3,0,1,4,5,6,7,8,9,10,11,12,13]])
 (.seq (.reg [v_ 167 11,v_ 8 167,o_ 9 (b_ false)])
 .ret))))))))))))⟩
def L166_0 : SC := (.blk 1 (.seq (.reg [v_ 11 8,o_ 12 (.bin .mul (i_ 2) (.t 11)),j_ 13 12,v_ 9 13])
 (.seq (.seq (.reg [v_ 14 9,v_ 15 2,o_ 16 (.bin .geq (.t 14) (.t 15))])
 (.cond (.t 16) (.exit 0)
 .skip))
 (.seq (.seq (.draw [true] [v_ 17 9,j_ 18 17,v_ 19 2,o_ 20 (.bin .lss (.t 18) (.t 19)),v_ 21 20,q_ 22 21 true (m_ 0),q_ 23 21 true (m_ 3),q_ 24 21 true (m_ 9),q_ 25 21 true (.bin .add (.t 23) (.t 24)),q_ 26 21 true (x_ 1 22 25),q_ 27 21 true (l_ 26),q_ 28 21 true (m_ 0),q_ 29 21 true (m_ 3),q_ 30 21 true (m_ 9),q_ 31 21 true (.bin .add (.t 29) (.t 30)),q_ 32 21 true (.bin .add (.t 31) (i_ 1)),q_ 33 21 true (x_ 1 28 32),q_ 34 21 true (l_ 33),d_ 35 21 true 161 [(.t 27),(.t 34)],o_ 36 (p_ 21 35)] [[],[0],[],[1,0,2],[3,1,0,2],[4,3,1,0,2],[4,3,1,0,2],[4,3,1,0,2],[6,4,3,1,0,2,7],[5,4,3,1,0,2,8,6,7],[9,5,4,3,1,0,2,8,6,7],[4,3,1,0,2],[4,3,1,0,2],[4,3,1,0,2],[12,4,3,1,0,2,13],[14,12,4,3,1,0,2,13],[11,4,3,1,0,2,15,14,12,13],[16,11,4,3,1,0,2,15,14,12,13],[10,9,5,4,3,1,0,2,8,6,7,17,16,11,15,14,12,13],[4,3,1,0,2,18,10,9,5,8,6,7,17,16,11,15,14,12,13]])
 (.cond (.t 36) (.reg [v_ 37 9,j_ 38 37,v_ 9 38])
 .skip))
 (.seq (.seq (.draw [true] [v_ 39 0,v_ 40 3,v_ 41 8,o_ 42 (.bin .add (.t 40) (.t 41)),z_ 43 1 39 42,y_ 44 43,v_ 45 0,v_ 46 3,v_ 47 9,o_ 48 (.bin .add (.t 46) (.t 47)),z_ 49 1 45 48,y_ 50 49,c_ 51 161 [(.t 44),(.t 50)],o_ 52 (.un .not (.t 51))] [[],[],[],[1,2],[0,3,1,2],[4,0,3,1,2],[],[],[],[7,8],[6,9,7,8],[10,6,9,7,8],[5,4,0,3,1,2,11,10,6,9,7,8],[12,5,4,0,3,1,2,11,10,6,9,7,8]])
 (.cond (.t 52) .ret
 .skip))
 (.seq (.draw [true] [v_ 53 0,v_ 54 3,v_ 55 8,o_ 56 (.bin .add (.t 54) (.t 55)),v_ 57 0,v_ 58 3,v_ 59 9,o_ 60 (.bin .add (.t 58) (.t 59)),v_ 61 0,v_ 62 3,v_ 63 9,o_ 64 (.bin .add (.t 62) (.t 63)),z_ 65 1 61 64,y_ 66 65,v_ 67 0,v_ 68 3,v_ 69 8,o_ 70 (.bin .add (.t 68) (.t 69)),z_ 71 1 67 70,y_ 72 71,z_ 73 1 53 56,s_ 73 66 1,z_ 74 1 57 60,s_ 74 72 1] [[],[],[],[1,2],[],[],[],[5,6],[],[],[],[9,10],[8,11,9,10],[12,8,11,9,10],[],[],[],[15,16],[14,17,15,16],[18,14,17,15,16],[0,3,1,2,8,9,10,11,12,13,19,18,14,17,15,16],[20,0,3,1,2,8,9,10,11,12,13,19,18,14,17,15,16],[4,7,5,6,0,1,2,3,8,9,10,11,12,13,14,15,16,17,18,19,20,21],[22,4,7,5,6,0,1,2,3,8,9,10,11,12,13,14,15,16,17,18,19,20,21]])
 (.reg [v_ 75 9,v_ 8 75])))))))
def mf166 : SF := ⟨76,[],
 (.seq (.reg [v_ 10 1,v_ 8 10])
 (.blk 0 (.loop [0,2,3,8] L166_0)))⟩
def mf167 : SF := ⟨7,[(.t 2)],
 (.seq (.reg [o_ 2 (.mov (.k (.int .u64 0)))])
 (.seq (.reg [v_ 3 0,o_ 4 (.conv .u64 (.t 3)),c_ 5 154 [(.t 4)],o_ 6 (.bin .shl (.k (.int .u64 1)) (.t 5)),v_ 2 6])
 .ret))⟩
def mf168 : SF := ⟨33,[(.t 2)],
 (.seq (.reg [o_ 2 (.mov (.k (.int .u64 0)))])
 (.seq (.draw [true] [v_ 3 0,o_ 4 (.nilck (.t 3)),y_ 5 4,v_ 6 0,o_ 7 (.nilck (.t 6)),y_ 8 7,o_ 9 (.bin .shl (.t 8) (.k (.int .u64 13))),o_ 10 (.bin .xor (.t 5) (.t 9)),o_ 11 (.nilck (.t 3)),s_ 11 10 1] [[],[0],[1,0],[],[3],[4,3],[5,4,3],[2,1,0,6,5,4,3],[0,1,2,3,4,5,6,7],[8,0,1,2,3,4,5,6,7]])
 (.seq (.draw [true] [v_ 12 0,o_ 13 (.nilck (.t 12)),y_ 14 13,v_ 15 0,o_ 16 (.nilck (.t 15)),y_ 17 16,o_ 18 (.bin .shr (.t 17) (.k (.int .u64 7))),o_ 19 (.bin .xor (.t 14) (.t 18)),o_ 20 (.nilck (.t 12)),s_ 20 19 1] [[],[0],[1,0],[],[3],[4,3],[5,4,3],[2,1,0,6,5,4,3],[0,1,2,3,4,5,6,7],[8,0,1,2,3,4,5,6,7]])
 (.seq (.draw [true] [v_ 21 0,o_ 22 (.nilck (.t 21)),y_ 23 22,v_ 24 0,o_ 25 (.nilck (.t 24)),y_ 26 25,o_ 27 (.bin .shl (.t 26) (.k (.int .u64 17))),o_ 28 (.bin .xor (.t 23) (.t 27)),o_ 29 (.nilck (.t 21)),s_ 29 28 1] [[],[0],[1,0],[],[3],[4,3],[5,4,3],[2,1,0,6,5,4,3],[0,1,2,3,4,5,6,7],[8,0,1,2,3,4,5,6,7]])
 (.seq (.reg [v_ 30 0,o_ 31 (.nilck (.t 30)),y_ 32 31,v_ 2 32])
 .ret)))))⟩
def mf169 : SF := ⟨15,[(.t 6)],
 (.seq (.reg [o_ 6 (.mov (i_ 0))])
 (.seq (.reg [v_ 7 0,v_ 8 1,o_ 9 (.bin .sub (.t 8) (i_ 1)),v_ 10 1,v_ 11 1,j_ 12 11,v_ 13 2,c_ 14 170 [(.t 7),(.t 9),(.t 10),(.t 12),(.t 13)],v_ 6 14])
 .ret))⟩
def mf170 : SF := ⟨36,[(.t 10)],
 (.seq (.reg [o_ 10 (.mov (i_ 0))])
 (.seq (.reg [v_ 12 0,v_ 13 1,v_ 14 2,v_ 15 4,c_ 16 171 [(.t 12),(.t 13),(.t 14),(.t 15)],v_ 11 16,o_ 17 (e_ 11 0),o_ 18 (e_ 11 1),v_ 1 17,v_ 2 18])
 (.seq (.reg [v_ 20 0,v_ 21 2,v_ 22 3,v_ 23 4,c_ 24 171 [(.t 20),(.t 21),(.t 22),(.t 23)],v_ 19 24,o_ 25 (e_ 19 0),o_ 26 (e_ 19 1),v_ 2 25,v_ 3 26])
 (.seq (.reg [v_ 28 0,v_ 29 1,v_ 30 2,v_ 31 4,c_ 32 171 [(.t 28),(.t 29),(.t 30),(.t 31)],v_ 27 32,o_ 33 (e_ 27 0),o_ 34 (e_ 27 1),v_ 1 33,v_ 2 34])
 (.seq (.reg [v_ 35 2,v_ 10 35])
 .ret)))))⟩
def mf171 : SF := ⟨28,[(.t 8),(.t 9)],
 (.seq (.reg [o_ 8 (.mov (i_ 0)),o_ 9 (.mov (i_ 0))])
 (.seq (.seq (.draw [true] [v_ 10 0,v_ 11 2,z_ 12 1 10 11,y_ 13 12,v_ 14 0,v_ 15 1,z_ 16 1 14 15,y_ 17 16,c_ 18 161 [(.t 13),(.t 17)]] [[],[],[0,1],[2,0,1],[],[],[4,5],[6,4,5],[3,2,0,1,7,6,4,5]])
 (.cond (.t 18) (.seq (.reg [v_ 19 3,o_ 20 (.nilck (.t 19)),y_ 21 20,j_ 22 21,o_ 23 (.nilck (.t 19)),s_ 23 22 1])
 (.seq (.reg [v_ 24 2,v_ 25 1,v_ 8 24,v_ 9 25])
 .ret))
 .skip))
 (.seq (.reg [v_ 26 1,v_ 27 2,v_ 8 26,v_ 9 27])
 .ret)))⟩
theorem aED : aM Tryz.prog 14 = some mf14.er := by kernel_rfl
theorem mf14_b : aB Tryz.prog 14 = true := by kernel_rfl
theorem mf14_g : mf14.body.good = true := by kernel_rfl
theorem aEw : aM Tryz.prog 16 = some mf16.er := by kernel_rfl
theorem mf16_b : aB Tryz.prog 16 = true := by kernel_rfl
theorem mf16_g : mf16.body.good = true := by kernel_rfl
theorem aEv : aM Tryz.prog 17 = some mf17.er := by kernel_rfl
theorem mf17_b : aB Tryz.prog 17 = true := by kernel_rfl
theorem mf17_g : mf17.body.good = true := by kernel_rfl
theorem aEu : aM Tryz.prog 18 = some mf18.er := by kernel_rfl
theorem mf18_b : aB Tryz.prog 18 = true := by kernel_rfl
theorem mf18_g : mf18.body.good = true := by kernel_rfl
theorem xA : aM Tryz.prog 21 = some mf21.er := by kernel_rfl
theorem aBJ : aB Tryz.prog 21 = true := by kernel_rfl
theorem aBI : mf21.body.good = true := by kernel_rfl
theorem zE : L21_0.good = true := by kernel_rfl
theorem aEt : aM Tryz.prog 26 = some mf26.er := by kernel_rfl
theorem mf26_b : aB Tryz.prog 26 = true := by kernel_rfl
theorem mf26_g : mf26.body.good = true := by kernel_rfl
theorem wZ : aM Tryz.prog 28 = some mf28.er := by kernel_rfl
theorem aBH : aB Tryz.prog 28 = true := by kernel_rfl
theorem aBG : mf28.body.good = true := by kernel_rfl
theorem aEs : aM Tryz.prog 29 = some mf29.er := by kernel_rfl
theorem mf29_b : aB Tryz.prog 29 = true := by kernel_rfl
theorem mf29_g : mf29.body.good = true := by kernel_rfl
theorem aEr : aM Tryz.prog 36 = some mf36.er := by kernel_rfl
theorem mf36_b : aB Tryz.prog 36 = true := by kernel_rfl
theorem mf36_g : mf36.body.good = true := by kernel_rfl
theorem L36_0_g : L36_0.good = true := by kernel_rfl
theorem L36_1_g : L36_1.good = true := by kernel_rfl
theorem aEq : aM Tryz.prog 38 = some mf38.er := by kernel_rfl
theorem mf38_b : aB Tryz.prog 38 = true := by kernel_rfl
theorem mf38_g : mf38.body.good = true := by kernel_rfl
theorem zD : L38_0.good = true := by kernel_rfl
theorem aEp : aM Tryz.prog 47 = some mf47.er := by kernel_rfl
theorem mf47_b : aB Tryz.prog 47 = true := by kernel_rfl
theorem mf47_g : mf47.body.good = true := by kernel_rfl
theorem aEo : aM Tryz.prog 55 = some mf55.er := by kernel_rfl
theorem mf55_b : aB Tryz.prog 55 = true := by kernel_rfl
theorem mf55_g : mf55.body.good = true := by kernel_rfl
theorem aGi : L55_0.good = true := by kernel_rfl
theorem aEn : aM Tryz.prog 56 = some mf56.er := by kernel_rfl
theorem mf56_b : aB Tryz.prog 56 = true := by kernel_rfl
theorem mf56_g : mf56.body.good = true := by kernel_rfl
theorem aGh : L56_0.good = true := by kernel_rfl
theorem aGg : L56_1.good = true := by kernel_rfl
theorem aEm : aM Tryz.prog 57 = some mf57.er := by kernel_rfl
theorem mf57_b : aB Tryz.prog 57 = true := by kernel_rfl
theorem mf57_g : mf57.body.good = true := by kernel_rfl
theorem aGf : L57_0.good = true := by kernel_rfl
theorem aGe : L57_1.good = true := by kernel_rfl
theorem aEl : aM Tryz.prog 58 = some mf58.er := by kernel_rfl
theorem mf58_b : aB Tryz.prog 58 = true := by kernel_rfl
theorem mf58_g : mf58.body.good = true := by kernel_rfl
theorem aGd : L58_0.good = true := by kernel_rfl
theorem aEk : aM Tryz.prog 59 = some mf59.er := by kernel_rfl
theorem mf59_b : aB Tryz.prog 59 = true := by kernel_rfl
theorem mf59_g : mf59.body.good = true := by kernel_rfl
theorem aGc : L59_0.good = true := by kernel_rfl
theorem aGb : L59_1.good = true := by kernel_rfl
theorem aEj : aM Tryz.prog 61 = some mf61.er := by kernel_rfl
theorem mf61_b : aB Tryz.prog 61 = true := by kernel_rfl
theorem mf61_g : mf61.body.good = true := by kernel_rfl
theorem aGa : L61_0.good = true := by kernel_rfl
theorem aEi : aM Tryz.prog 62 = some mf62.er := by kernel_rfl
theorem mf62_b : aB Tryz.prog 62 = true := by kernel_rfl
theorem mf62_g : mf62.body.good = true := by kernel_rfl
theorem aEh : aM Tryz.prog 63 = some mf63.er := by kernel_rfl
theorem mf63_b : aB Tryz.prog 63 = true := by kernel_rfl
theorem mf63_g : mf63.body.good = true := by kernel_rfl
theorem aEg : aM Tryz.prog 64 = some mf64.er := by kernel_rfl
theorem mf64_b : aB Tryz.prog 64 = true := by kernel_rfl
theorem mf64_g : mf64.body.good = true := by kernel_rfl
theorem aEf : aM Tryz.prog 65 = some mf65.er := by kernel_rfl
theorem mf65_b : aB Tryz.prog 65 = true := by kernel_rfl
theorem mf65_g : mf65.body.good = true := by kernel_rfl
theorem aEe : aM Tryz.prog 66 = some mf66.er := by kernel_rfl
theorem mf66_b : aB Tryz.prog 66 = true := by kernel_rfl
theorem mf66_g : mf66.body.good = true := by kernel_rfl
theorem aEd : aM Tryz.prog 67 = some mf67.er := by kernel_rfl
theorem mf67_b : aB Tryz.prog 67 = true := by kernel_rfl
theorem mf67_g : mf67.body.good = true := by kernel_rfl
theorem L67_0_g : L67_0.good = true := by kernel_rfl
theorem aEc : aM Tryz.prog 68 = some mf68.er := by kernel_rfl
theorem mf68_b : aB Tryz.prog 68 = true := by kernel_rfl
theorem mf68_g : mf68.body.good = true := by kernel_rfl
theorem L68_0_g : L68_0.good = true := by kernel_rfl
theorem aEb : aM Tryz.prog 69 = some mf69.er := by kernel_rfl
theorem mf69_b : aB Tryz.prog 69 = true := by kernel_rfl
theorem mf69_g : mf69.body.good = true := by kernel_rfl
theorem aEa : aM Tryz.prog 70 = some mf70.er := by kernel_rfl
theorem mf70_b : aB Tryz.prog 70 = true := by kernel_rfl
theorem mf70_g : mf70.body.good = true := by kernel_rfl
theorem aD9 : aM Tryz.prog 71 = some mf71.er := by kernel_rfl
theorem mf71_b : aB Tryz.prog 71 = true := by kernel_rfl
theorem mf71_g : mf71.body.good = true := by kernel_rfl
theorem L71_0_g : L71_0.good = true := by kernel_rfl
theorem L71_1_g : L71_1.good = true := by kernel_rfl
theorem aD8 : aM Tryz.prog 72 = some mf72.er := by kernel_rfl
theorem mf72_b : aB Tryz.prog 72 = true := by kernel_rfl
theorem mf72_g : mf72.body.good = true := by kernel_rfl
theorem aD7 : aM Tryz.prog 73 = some mf73.er := by kernel_rfl
theorem mf73_b : aB Tryz.prog 73 = true := by kernel_rfl
theorem mf73_g : mf73.body.good = true := by kernel_rfl
theorem L73_0_g : L73_0.good = true := by kernel_rfl
theorem aD6 : aM Tryz.prog 78 = some mf78.er := by kernel_rfl
theorem mf78_b : aB Tryz.prog 78 = true := by kernel_rfl
theorem mf78_g : mf78.body.good = true := by kernel_rfl
theorem wY : aM Tryz.prog 79 = some mf79.er := by kernel_rfl
theorem aBF : aB Tryz.prog 79 = true := by kernel_rfl
theorem aBE : mf79.body.good = true := by kernel_rfl
theorem wX : aM Tryz.prog 80 = some mf80.er := by kernel_rfl
theorem aBD : aB Tryz.prog 80 = true := by kernel_rfl
theorem aBC : mf80.body.good = true := by kernel_rfl
theorem aF9 : L80_0.good = true := by kernel_rfl
theorem aD5 : aM Tryz.prog 81 = some mf81.er := by kernel_rfl
theorem mf81_b : aB Tryz.prog 81 = true := by kernel_rfl
theorem mf81_g : mf81.body.good = true := by kernel_rfl
theorem zC : L81_0.good = true := by kernel_rfl
theorem aD4 : aM Tryz.prog 82 = some mf82.er := by kernel_rfl
theorem mf82_b : aB Tryz.prog 82 = true := by kernel_rfl
theorem mf82_g : mf82.body.good = true := by kernel_rfl
theorem aD3 : aM Tryz.prog 83 = some mf83.er := by kernel_rfl
theorem mf83_b : aB Tryz.prog 83 = true := by kernel_rfl
theorem mf83_g : mf83.body.good = true := by kernel_rfl
theorem aD2 : aM Tryz.prog 84 = some mf84.er := by kernel_rfl
theorem mf84_b : aB Tryz.prog 84 = true := by kernel_rfl
theorem mf84_g : mf84.body.good = true := by kernel_rfl
theorem L84_0_g : L84_0.good = true := by kernel_rfl
theorem L84_1_g : L84_1.good = true := by kernel_rfl
theorem aD1 : aM Tryz.prog 85 = some mf85.er := by kernel_rfl
theorem mf85_b : aB Tryz.prog 85 = true := by kernel_rfl
theorem mf85_g : mf85.body.good = true := by kernel_rfl
theorem L85_0_g : L85_0.good = true := by kernel_rfl
theorem aD0 : aM Tryz.prog 86 = some mf86.er := by kernel_rfl
theorem mf86_b : aB Tryz.prog 86 = true := by kernel_rfl
theorem mf86_g : mf86.body.good = true := by kernel_rfl
theorem aDZ : aM Tryz.prog 87 = some mf87.er := by kernel_rfl
theorem mf87_b : aB Tryz.prog 87 = true := by kernel_rfl
theorem mf87_g : mf87.body.good = true := by kernel_rfl
theorem aDY : aM Tryz.prog 88 = some mf88.er := by kernel_rfl
theorem mf88_b : aB Tryz.prog 88 = true := by kernel_rfl
theorem mf88_g : mf88.body.good = true := by kernel_rfl
theorem aDX : aM Tryz.prog 89 = some mf89.er := by kernel_rfl
theorem mf89_b : aB Tryz.prog 89 = true := by kernel_rfl
theorem mf89_g : mf89.body.good = true := by kernel_rfl
theorem aDW : aM Tryz.prog 90 = some mf90.er := by kernel_rfl
theorem mf90_b : aB Tryz.prog 90 = true := by kernel_rfl
theorem mf90_g : mf90.body.good = true := by kernel_rfl
theorem aDV : aM Tryz.prog 91 = some mf91.er := by kernel_rfl
theorem mf91_b : aB Tryz.prog 91 = true := by kernel_rfl
theorem mf91_g : mf91.body.good = true := by kernel_rfl
theorem L91_0_g : L91_0.good = true := by kernel_rfl
theorem aDU : aM Tryz.prog 95 = some mf95.er := by kernel_rfl
theorem mf95_b : aB Tryz.prog 95 = true := by kernel_rfl
theorem mf95_g : mf95.body.good = true := by kernel_rfl
theorem L95_0_g : L95_0.good = true := by kernel_rfl
theorem wW : aM Tryz.prog 97 = some mf97.er := by kernel_rfl
theorem aBB : aB Tryz.prog 97 = true := by kernel_rfl
theorem aBA : mf97.body.good = true := by kernel_rfl
theorem aDT : aM Tryz.prog 98 = some mf98.er := by kernel_rfl
theorem mf98_b : aB Tryz.prog 98 = true := by kernel_rfl
theorem mf98_g : mf98.body.good = true := by kernel_rfl
theorem aDS : aM Tryz.prog 99 = some mf99.er := by kernel_rfl
theorem mf99_b : aB Tryz.prog 99 = true := by kernel_rfl
theorem mf99_g : mf99.body.good = true := by kernel_rfl
theorem aCn : aM Tryz.prog 100 = some mf100.er := by kernel_rfl
theorem aFP : aB Tryz.prog 100 = true := by kernel_rfl
theorem aFO : mf100.body.good = true := by kernel_rfl
theorem L100_0_g : L100_0.good = true := by kernel_rfl
theorem aCm : aM Tryz.prog 101 = some mf101.er := by kernel_rfl
theorem aFN : aB Tryz.prog 101 = true := by kernel_rfl
theorem aFM : mf101.body.good = true := by kernel_rfl
theorem L101_0_g : L101_0.good = true := by kernel_rfl
theorem aCl : aM Tryz.prog 105 = some mf105.er := by kernel_rfl
theorem aFL : aB Tryz.prog 105 = true := by kernel_rfl
theorem aFK : mf105.body.good = true := by kernel_rfl
theorem aCk : aM Tryz.prog 106 = some mf106.er := by kernel_rfl
theorem aFJ : aB Tryz.prog 106 = true := by kernel_rfl
theorem aFI : mf106.body.good = true := by kernel_rfl
theorem uC : L106_0.good = true := by kernel_rfl
theorem aCj : aM Tryz.prog 107 = some mf107.er := by kernel_rfl
theorem aFH : aB Tryz.prog 107 = true := by kernel_rfl
theorem aFG : mf107.body.good = true := by kernel_rfl
theorem aCi : aM Tryz.prog 108 = some mf108.er := by kernel_rfl
theorem aFF : aB Tryz.prog 108 = true := by kernel_rfl
theorem aFE : mf108.body.good = true := by kernel_rfl
theorem aDe : L108_0.good = true := by kernel_rfl
theorem aCh : aM Tryz.prog 109 = some mf109.er := by kernel_rfl
theorem aFD : aB Tryz.prog 109 = true := by kernel_rfl
theorem aFC : mf109.body.good = true := by kernel_rfl
theorem aDd : L109_0.good = true := by kernel_rfl
theorem aDc : L109_1.good = true := by kernel_rfl
theorem aDb : L109_2.good = true := by kernel_rfl
theorem aCg : aM Tryz.prog 110 = some mf110.er := by kernel_rfl
theorem aFB : aB Tryz.prog 110 = true := by kernel_rfl
theorem aFA : mf110.body.good = true := by kernel_rfl
theorem L110_0_g : L110_0.good = true := by kernel_rfl
theorem aCf : aM Tryz.prog 111 = some mf111.er := by kernel_rfl
theorem aFz : aB Tryz.prog 111 = true := by kernel_rfl
theorem aFy : mf111.body.good = true := by kernel_rfl
theorem aCe : aM Tryz.prog 112 = some mf112.er := by kernel_rfl
theorem aFx : aB Tryz.prog 112 = true := by kernel_rfl
theorem aFw : mf112.body.good = true := by kernel_rfl
theorem aCd : aM Tryz.prog 113 = some mf113.er := by kernel_rfl
theorem aFv : aB Tryz.prog 113 = true := by kernel_rfl
theorem aFu : mf113.body.good = true := by kernel_rfl
theorem L113_0_g : L113_0.good = true := by kernel_rfl
theorem aCc : aM Tryz.prog 114 = some mf114.er := by kernel_rfl
theorem aFt : aB Tryz.prog 114 = true := by kernel_rfl
theorem aFs : mf114.body.good = true := by kernel_rfl
theorem tC : aM Tryz.prog 115 = some mf115.er := by kernel_rfl
theorem yC : aB Tryz.prog 115 = true := by kernel_rfl
theorem xZ : mf115.body.good = true := by kernel_rfl
theorem aCb : aM Tryz.prog 116 = some mf116.er := by kernel_rfl
theorem aFr : aB Tryz.prog 116 = true := by kernel_rfl
theorem aFq : mf116.body.good = true := by kernel_rfl
theorem R116_0a_g : zB.good = true := by kernel_rfl
theorem R116_0b_g : R116_0b.good = true := by kernel_rfl
theorem aCa : aM Tryz.prog 117 = some mf117.er := by kernel_rfl
theorem aFp : aB Tryz.prog 117 = true := by kernel_rfl
theorem aFo : mf117.body.good = true := by kernel_rfl
theorem aDa : L117_0.good = true := by kernel_rfl
theorem aB9 : aM Tryz.prog 118 = some mf118.er := by kernel_rfl
theorem aFn : aB Tryz.prog 118 = true := by kernel_rfl
theorem aFm : mf118.body.good = true := by kernel_rfl
theorem aB8 : aM Tryz.prog 119 = some mf119.er := by kernel_rfl
theorem aFl : aB Tryz.prog 119 = true := by kernel_rfl
theorem aFk : mf119.body.good = true := by kernel_rfl
theorem aB7 : aM Tryz.prog 120 = some mf120.er := by kernel_rfl
theorem aFj : aB Tryz.prog 120 = true := by kernel_rfl
theorem aFi : mf120.body.good = true := by kernel_rfl
theorem tA : aM Tryz.prog 121 = some mf121.er := by kernel_rfl
theorem xY : aB Tryz.prog 121 = true := by kernel_rfl
theorem xX : mf121.body.good = true := by kernel_rfl
theorem uB : L121_0.good = true := by kernel_rfl
theorem sZ : aM Tryz.prog 122 = some mf122.er := by kernel_rfl
theorem xW : aB Tryz.prog 122 = true := by kernel_rfl
theorem xV : mf122.body.good = true := by kernel_rfl
theorem sW : aM Tryz.prog 123 = some mf123.er := by kernel_rfl
theorem xU : aB Tryz.prog 123 = true := by kernel_rfl
theorem xT : mf123.body.good = true := by kernel_rfl
theorem aAP : rF.good = true := by kernel_rfl
theorem aAO : R123_0b.good = true := by kernel_rfl
theorem sV : aM Tryz.prog 124 = some mf124.er := by kernel_rfl
theorem xS : aB Tryz.prog 124 = true := by kernel_rfl
theorem xR : mf124.body.good = true := by kernel_rfl
theorem sU : aM Tryz.prog 125 = some mf125.er := by kernel_rfl
theorem xQ : aB Tryz.prog 125 = true := by kernel_rfl
theorem xP : mf125.body.good = true := by kernel_rfl
theorem sS : aM Tryz.prog 126 = some mf126.er := by kernel_rfl
theorem xO : aB Tryz.prog 126 = true := by kernel_rfl
theorem xN : mf126.body.good = true := by kernel_rfl
theorem sR : aM Tryz.prog 127 = some mf127.er := by kernel_rfl
theorem xM : aB Tryz.prog 127 = true := by kernel_rfl
theorem xL : mf127.body.good = true := by kernel_rfl
theorem aC9 : L127_0.good = true := by kernel_rfl
theorem aB6 : aM Tryz.prog 128 = some mf128.er := by kernel_rfl
theorem aFh : aB Tryz.prog 128 = true := by kernel_rfl
theorem aFg : mf128.body.good = true := by kernel_rfl
theorem aB5 : aM Tryz.prog 129 = some mf129.er := by kernel_rfl
theorem aFf : aB Tryz.prog 129 = true := by kernel_rfl
theorem aFe : mf129.body.good = true := by kernel_rfl
theorem aB4 : aM Tryz.prog 130 = some mf130.er := by kernel_rfl
theorem aFd : aB Tryz.prog 130 = true := by kernel_rfl
theorem aFc : mf130.body.good = true := by kernel_rfl
theorem aB3 : aM Tryz.prog 131 = some mf131.er := by kernel_rfl
theorem aFb : aB Tryz.prog 131 = true := by kernel_rfl
theorem aFa : mf131.body.good = true := by kernel_rfl
theorem aB2 : aM Tryz.prog 132 = some mf132.er := by kernel_rfl
theorem aE9 : aB Tryz.prog 132 = true := by kernel_rfl
theorem aE8 : mf132.body.good = true := by kernel_rfl
theorem L132_0_g : L132_0.good = true := by kernel_rfl
theorem aB1 : aM Tryz.prog 133 = some mf133.er := by kernel_rfl
theorem aE7 : aB Tryz.prog 133 = true := by kernel_rfl
theorem aE6 : mf133.body.good = true := by kernel_rfl
theorem aB0 : aM Tryz.prog 134 = some mf134.er := by kernel_rfl
theorem aE5 : aB Tryz.prog 134 = true := by kernel_rfl
theorem aE4 : mf134.body.good = true := by kernel_rfl
theorem aBZ : aM Tryz.prog 135 = some mf135.er := by kernel_rfl
theorem aE3 : aB Tryz.prog 135 = true := by kernel_rfl
theorem aE2 : mf135.body.good = true := by kernel_rfl
theorem aBY : aM Tryz.prog 136 = some mf136.er := by kernel_rfl
theorem aE1 : aB Tryz.prog 136 = true := by kernel_rfl
theorem aE0 : mf136.body.good = true := by kernel_rfl
theorem aBX : aM Tryz.prog 137 = some mf137.er := by kernel_rfl
theorem aEZ : aB Tryz.prog 137 = true := by kernel_rfl
theorem aEY : mf137.body.good = true := by kernel_rfl
theorem aBW : aM Tryz.prog 138 = some mf138.er := by kernel_rfl
theorem aEX : aB Tryz.prog 138 = true := by kernel_rfl
theorem aEW : mf138.body.good = true := by kernel_rfl
theorem aBV : aM Tryz.prog 139 = some mf139.er := by kernel_rfl
theorem aEV : aB Tryz.prog 139 = true := by kernel_rfl
theorem aEU : mf139.body.good = true := by kernel_rfl
theorem aBU : aM Tryz.prog 140 = some mf140.er := by kernel_rfl
theorem aET : aB Tryz.prog 140 = true := by kernel_rfl
theorem aES : mf140.body.good = true := by kernel_rfl
theorem aBT : aM Tryz.prog 141 = some mf141.er := by kernel_rfl
theorem aER : aB Tryz.prog 141 = true := by kernel_rfl
theorem aEQ : mf141.body.good = true := by kernel_rfl
theorem aBS : aM Tryz.prog 142 = some mf142.er := by kernel_rfl
theorem aEP : aB Tryz.prog 142 = true := by kernel_rfl
theorem aEO : mf142.body.good = true := by kernel_rfl
theorem sQ : aM Tryz.prog 143 = some mf143.er := by kernel_rfl
theorem xK : aB Tryz.prog 143 = true := by kernel_rfl
theorem xJ : mf143.body.good = true := by kernel_rfl
theorem aC8 : L143_0.good = true := by kernel_rfl
theorem aC7 : L143_1.good = true := by kernel_rfl
theorem aC6 : L143_2.good = true := by kernel_rfl
theorem aBR : aM Tryz.prog 144 = some mf144.er := by kernel_rfl
theorem aEN : aB Tryz.prog 144 = true := by kernel_rfl
theorem aEM : mf144.body.good = true := by kernel_rfl
theorem L144_0_g : L144_0.good = true := by kernel_rfl
theorem aBQ : aM Tryz.prog 145 = some mf145.er := by kernel_rfl
theorem aEL : aB Tryz.prog 145 = true := by kernel_rfl
theorem aEK : mf145.body.good = true := by kernel_rfl
theorem L145_0_g : L145_0.good = true := by kernel_rfl
theorem aBP : aM Tryz.prog 146 = some mf146.er := by kernel_rfl
theorem aEJ : aB Tryz.prog 146 = true := by kernel_rfl
theorem aEI : mf146.body.good = true := by kernel_rfl
theorem sP : aM Tryz.prog 147 = some mf147.er := by kernel_rfl
theorem xI : aB Tryz.prog 147 = true := by kernel_rfl
theorem xH : mf147.body.good = true := by kernel_rfl
theorem aBO : aM Tryz.prog 148 = some mf148.er := by kernel_rfl
theorem aEH : aB Tryz.prog 148 = true := by kernel_rfl
theorem aEG : mf148.body.good = true := by kernel_rfl
theorem L148_0_g : L148_0.good = true := by kernel_rfl
theorem aBN : aM Tryz.prog 149 = some mf149.er := by kernel_rfl
theorem aEF : aB Tryz.prog 149 = true := by kernel_rfl
theorem aEE : mf149.body.good = true := by kernel_rfl
theorem sO : aM Tryz.prog 150 = some mf150.er := by kernel_rfl
theorem xG : aB Tryz.prog 150 = true := by kernel_rfl
theorem xF : mf150.body.good = true := by kernel_rfl
theorem aBM : aM Tryz.prog 152 = some mf152.er := by kernel_rfl
theorem aEC : aB Tryz.prog 152 = true := by kernel_rfl
theorem aEB : mf152.body.good = true := by kernel_rfl
theorem aAN : rE.good = true := by kernel_rfl
theorem aAM : rD.good = true := by kernel_rfl
theorem sN : aM Tryz.prog 153 = some mf153.er := by kernel_rfl
theorem xE : aB Tryz.prog 153 = true := by kernel_rfl
theorem xD : mf153.body.good = true := by kernel_rfl
theorem uA : L153_0.good = true := by kernel_rfl
theorem aBL : aM Tryz.prog 154 = some mf154.er := by kernel_rfl
theorem aEA : aB Tryz.prog 154 = true := by kernel_rfl
theorem aEz : mf154.body.good = true := by kernel_rfl
theorem sM : aM Tryz.prog 155 = some mf155.er := by kernel_rfl
theorem xC : aB Tryz.prog 155 = true := by kernel_rfl
theorem xB : mf155.body.good = true := by kernel_rfl
theorem aC5 : L155_0.good = true := by kernel_rfl
theorem tZ : L155_1.good = true := by kernel_rfl
theorem mf156_ok : aM Tryz.prog 156 = some mf156.er := by kernel_rfl
theorem mf156_b : aB Tryz.prog 156 = true := by kernel_rfl
theorem mf156_g : mf156.body.good = true := by kernel_rfl
theorem L156_0_g : L156_0.good = true := by kernel_rfl
theorem L156_1_g : L156_1.good = true := by kernel_rfl
theorem mf157_ok : aM Tryz.prog 157 = some mf157.er := by kernel_rfl
theorem mf157_b : aB Tryz.prog 157 = true := by kernel_rfl
theorem mf157_g : mf157.body.good = true := by kernel_rfl
theorem L157_0_g : L157_0.good = true := by kernel_rfl
theorem mf158_ok : aM Tryz.prog 158 = some mf158.er := by kernel_rfl
theorem mf158_b : aB Tryz.prog 158 = true := by kernel_rfl
theorem mf158_g : mf158.body.good = true := by kernel_rfl
theorem mf159_ok : aM Tryz.prog 159 = some mf159.er := by kernel_rfl
theorem mf159_b : aB Tryz.prog 159 = true := by kernel_rfl
theorem mf159_g : mf159.body.good = true := by kernel_rfl
theorem L159_0_g : L159_0.good = true := by kernel_rfl
theorem mf160_ok : aM Tryz.prog 160 = some mf160.er := by kernel_rfl
theorem mf160_b : aB Tryz.prog 160 = true := by kernel_rfl
theorem mf160_g : mf160.body.good = true := by kernel_rfl
theorem L160_0_g : L160_0.good = true := by kernel_rfl
theorem L160_1_g : L160_1.good = true := by kernel_rfl
theorem L160_2_g : L160_2.good = true := by kernel_rfl
theorem L160_3_g : L160_3.good = true := by kernel_rfl
theorem aBK : aM Tryz.prog 161 = some mf161.er := by kernel_rfl
theorem aEy : aB Tryz.prog 161 = true := by kernel_rfl
theorem aEx : mf161.body.good = true := by kernel_rfl
theorem mf162_ok : aM Tryz.prog 162 = some mf162.er := by kernel_rfl
theorem mf162_b : aB Tryz.prog 162 = true := by kernel_rfl
theorem mf162_g : mf162.body.good = true := by kernel_rfl
theorem L162_0_g : L162_0.good = true := by kernel_rfl
theorem L162_1_g : L162_1.good = true := by kernel_rfl
theorem L162_2_g : L162_2.good = true := by kernel_rfl
theorem mf163_ok : aM Tryz.prog 163 = some mf163.er := by kernel_rfl
theorem mf163_b : aB Tryz.prog 163 = true := by kernel_rfl
theorem mf163_g : mf163.body.good = true := by kernel_rfl
theorem L163_0_g : L163_0.good = true := by kernel_rfl
theorem L163_1_g : L163_1.good = true := by kernel_rfl
theorem L163_2_g : L163_2.good = true := by kernel_rfl
theorem L163_3_g : L163_3.good = true := by kernel_rfl
theorem L163_4_g : L163_4.good = true := by kernel_rfl
theorem mf166_ok : aM Tryz.prog 166 = some mf166.er := by kernel_rfl
theorem mf166_b : aB Tryz.prog 166 = true := by kernel_rfl
theorem mf166_g : mf166.body.good = true := by kernel_rfl
theorem L166_0_g : L166_0.good = true := by kernel_rfl
theorem mf167_ok : aM Tryz.prog 167 = some mf167.er := by kernel_rfl
theorem mf167_b : aB Tryz.prog 167 = true := by kernel_rfl
theorem mf167_g : mf167.body.good = true := by kernel_rfl
theorem mf168_ok : aM Tryz.prog 168 = some mf168.er := by kernel_rfl
theorem mf168_b : aB Tryz.prog 168 = true := by kernel_rfl
theorem mf168_g : mf168.body.good = true := by kernel_rfl
theorem mf169_ok : aM Tryz.prog 169 = some mf169.er := by kernel_rfl
theorem mf169_b : aB Tryz.prog 169 = true := by kernel_rfl
theorem mf169_g : mf169.body.good = true := by kernel_rfl
theorem mf170_ok : aM Tryz.prog 170 = some mf170.er := by kernel_rfl
theorem mf170_b : aB Tryz.prog 170 = true := by kernel_rfl
theorem mf170_g : mf170.body.good = true := by kernel_rfl
theorem mf171_ok : aM Tryz.prog 171 = some mf171.er := by kernel_rfl
theorem mf171_b : aB Tryz.prog 171 = true := by kernel_rfl
theorem mf171_g : mf171.body.good = true := by kernel_rfl
end
end Go.Proofs.Ab
