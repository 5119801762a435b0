/- The own layer under the proofs of this seat, part Tab: what calls of the program come to on an abstract heap. No condition. -/
import Derived.Test.YtiaaonmbgkealaaG
import Derived.Test.YtiaaonmbgkealaaChecked
import Derived.KernelRfl
set_option linter.unusedSimpArgs false
set_option linter.unusedVariables false
namespace Go.Proofs.Ab
open Go
def eM : Code → List Nat → Code
 | .seq a b,i :: r => if i = 0 then eM a r else eM b r
 | .cond _ a b,i :: r => if i = 0 then eM a r else eM b r
 | .block _ a,_ :: r => eM a r
 | .loop a,_ :: r => eM a r
 | .scope a,_ :: r => eM a r
 | .rangeFunc _ _ a b,i :: r => if i = 0 then eM a r else eM b r
 | c,_ => c
noncomputable def jY (f : Nat) : Code := ((Try.prog.funcs[f]?).bind (·.body)).getD .skip
theorem aM : Try.prog.follows .mixedOrders = true := by kernel_rfl
noncomputable section
abbrev o_ (n : Nat) (x : MOp) : MIx := .op (some n) none x
abbrev q_ (n c : Nat) (b : Bool) (x : MOp) : MIx := .op (some n) (some (c,b)) x
abbrev m_ (n : Nat) : MOp := .mov (.t n)
abbrev i_ (n : Int) : Opd := .k (.int .i64 n)
abbrev f_ (n : Nat) : Opd := .k (.fn (.func n) [] [])
abbrev l_ (n : Nat) : MOp := .load (.t n) none
attribute [go_sem] o_ q_ m_ i_ f_ l_
abbrev a_ (n k : Nat) : MOp := .addr (.t n) k
abbrev x_ (e a b : Nat) : MOp := .idxs e (.t a) (.t b)
abbrev p_ (a b : Nat) : MOp := .pick (.t a) (.t b) (.k (.bool false))
abbrev r_ (a b : Nat) : MOp := .pick (.t a) (.k (.bool true)) (.t b)
abbrev b_ (b : Bool) : MOp := .mov (.k (.bool b))
abbrev e_ (n k : Nat) : MOp := .ext (.t n) k
abbrev w_ (n k : Nat) : MOp := .load (.t n) (some k)
abbrev n_ (n : Nat) : MOp := .len (.t n)
abbrev s_ (a b k : Nat) : MIx := .op none none (.store (.t a) (.t b) k)
abbrev c_ (n f : Nat) (l : List Opd) : MIx := .call (some n) none (.k (.fn (.func f) [] [])) l
abbrev d_ (n c : Nat) (b : Bool) (f : Nat) (l : List Opd) : MIx := .call (some n) (some (c,b)) (.k (.fn (.func f) [] [])) l
abbrev v_ (n k : Nat) : MIx := .op (some n) none (.mov (.t k))
abbrev y_ (n k : Nat) : MIx := .op (some n) none (.load (.t k) none)
abbrev z_ (n e a b : Nat) : MIx := .op (some n) none (.idxs e (.t a) (.t b))
abbrev j_ (n k : Nat) : MIx := .op (some n) none (.bin .add (.t k) (.k (.int .i64 1)))
attribute [go_sem] a_ x_ p_ r_ b_ e_ w_ n_ s_ c_ d_ v_ y_ z_ j_
def mf9 : SF := ⟨106,[(.t 4)],
 (.seq (.reg [o_ 2 (.box (.t 0) 5),o_ 4 (b_ false)])
 (.seq (.seq (.reg [o_ 10 (w_ 2 5),c_ 11 31 [(.t 10)],o_ 12 (.un .not (.t 11)),v_ 13 12,q_ 14 13 false (w_ 2 5),d_ 15 13 false 32 [(.t 14)],q_ 16 13 false (m_ 15),q_ 17 16 true (w_ 2 5),d_ 18 16 true 33 [(.t 17)],q_ 19 16 true (.un .not (.t 18)),q_ 20 13 false (p_ 16 19),o_ 21 (r_ 13 20)])
 (.cond (.t 21) (.seq (.reg [c_ 22 17 [],v_ 4 22])
 .ret)
 .skip))
 (.seq (.reg [o_ 24 (w_ 2 5),c_ 25 30 [(.t 24)],v_ 23 25,o_ 26 (e_ 23 0),o_ 27 (e_ 23 1),o_ 28 (e_ 23 2),v_ 5 26,v_ 6 27,v_ 7 28])
 (.seq (.reg [o_ 30 (w_ 2 5),v_ 31 1,c_ 32 34 [(.t 30),(.t 31)],v_ 29 32,o_ 33 (e_ 29 0),o_ 34 (e_ 29 1),v_ 8 33,v_ 9 34])
 (.seq (.seq (.reg [o_ 35 (w_ 2 5),c_ 36 32 [(.t 35)],o_ 37 (.un .not (.t 36))])
 (.cond (.t 37) (.seq (.reg [v_ 38 7,o_ 39 (.bin .eql (.t 38) (i_ 2)),v_ 40 39,q_ 41 40 true (m_ 9),q_ 42 40 true (.bin .eql (.t 41) (i_ 2)),o_ 43 (p_ 40 42),v_ 44 43,q_ 45 44 true (m_ 5),q_ 46 44 true (n_ 45),q_ 47 44 true (.bin .eql (.t 46) (i_ 0)),o_ 48 (p_ 44 47),v_ 49 48,q_ 50 49 true (m_ 6),q_ 51 49 true (.bin .eql (.t 50) (i_ 0)),o_ 52 (p_ 49 51),v_ 53 52,q_ 54 53 true (m_ 8),q_ 55 53 true (.bin .eql (.t 54) (i_ 0)),o_ 56 (p_ 53 55),v_ 57 56,d_ 58 57 true 17 [],o_ 59 (p_ 57 58),v_ 4 59])
 .ret)
 .skip))
 (.seq (.seq (.reg [v_ 60 7,o_ 61 (.bin .neq (.t 60) (i_ 0)),v_ 62 61,q_ 63 62 false (m_ 6),q_ 64 62 false (w_ 2 5),d_ 65 62 false 35 [(.t 64)],q_ 66 62 false (.bin .neq (.t 63) (.t 65)),o_ 67 (r_ 62 66),v_ 68 67,q_ 69 68 false (m_ 5),q_ 70 68 false (w_ 2 5),d_ 71 68 false 37 [(.t 70)],d_ 72 68 false 36 [(.t 69),(.t 71)],q_ 73 68 false (.un .not (.t 72)),o_ 74 (r_ 68 73)])
 (.cond (.t 74) (.seq (.reg [o_ 4 (b_ false)])
 .ret)
 .skip))
 (.seq (.seq (.reg [v_ 75 1,o_ 76 (.bin .lss (.t 75) (i_ 0)),v_ 77 76,q_ 78 77 false (m_ 1),q_ 79 77 false (a_ 2 4),q_ 80 77 false (l_ 79),q_ 81 77 false (n_ 80),q_ 82 77 false (.bin .geq (.t 78) (.t 81)),o_ 83 (r_ 77 82)])
 (.cond (.t 83) (.seq (.reg [v_ 84 9,o_ 85 (.bin .eql (.t 84) (i_ 2)),v_ 86 85,q_ 87 86 true (m_ 8),q_ 88 86 true (.bin .eql (.t 87) (i_ 0)),o_ 89 (p_ 86 88),v_ 90 89,d_ 91 90 true 17 [],o_ 92 (p_ 90 91),v_ 4 92])
 .ret)
 .skip))
 (.seq (.reg [v_ 93 9,o_ 94 (.bin .eql (.t 93) (i_ 0)),v_ 95 94,q_ 96 95 true (m_ 8),q_ 97 95 true (w_ 2 5),q_ 98 95 true (m_ 1),d_ 99 95 true 38 [(.t 97),(.t 98)],d_ 100 95 true 35 [(.t 99)],q_ 101 95 true (.bin .eql (.t 96) (.t 100)),o_ 102 (p_ 95 101),v_ 103 102,d_ 104 103 true 17 [],o_ 105 (p_ 103 104),v_ 4 105])
 .ret))))))))⟩
def mf17 : SF := ⟨118,[(.t 0)],
 (.seq (.reg [o_ 0 (b_ false)])
 (.seq (.reg [c_ 16 60 [],c_ 17 18 [(.t 16)],v_ 15 17,o_ 18 (e_ 15 0),o_ 19 (e_ 15 1),v_ 1 18,v_ 2 19])
 (.seq (.reg [c_ 21 60 [],o_ 22 (.bslice 1 [(.int .i64 0)] 2 [(0,1,(i_ 35)),(1,1,(i_ 45))]),c_ 23 22 [(.t 21),(i_ 490),(.t 22)],v_ 20 23,o_ 24 (e_ 20 0),o_ 25 (e_ 20 1),v_ 3 24,v_ 4 25])
 (.seq (.reg [c_ 27 60 [],c_ 28 23 [(.t 27),(i_ 0),(i_ 521)],v_ 26 28,o_ 29 (e_ 26 0),o_ 30 (e_ 26 1),v_ 5 29,v_ 6 30])
 (.seq (.reg [c_ 32 61 [],c_ 33 30 [(.t 32)],v_ 31 33,o_ 34 (e_ 31 0),o_ 35 (e_ 31 1),o_ 36 (e_ 31 2),v_ 7 34,v_ 8 35,v_ 9 36])
 (.seq (.reg [c_ 37 61 [],o_ 10 (.alloc [.nilS,.nilS,.nilS,.nilS,.nilS]),s_ 10 37 5])
 (.seq (.reg [o_ 38 (.bslice 1 [(.int .i64 0)] 2 [(0,1,(i_ 7)),(1,1,(i_ 7))]),o_ 39 (.bslice 1 [(.int .i64 0)] 2 [(0,1,(i_ 7)),(1,1,(i_ 5))]),o_ 40 (.bslice 1 [.nilS] 2 [(0,1,(.t 38)),(1,1,(.t 39))]),o_ 41 (a_ 10 4),s_ 41 40 1])
 (.seq (.reg [o_ 43 (w_ 10 5),c_ 44 30 [(.t 43)],v_ 42 44,o_ 45 (e_ 42 0),o_ 46 (e_ 42 1),o_ 47 (e_ 42 2),v_ 11 45,v_ 12 46,v_ 13 47])
 (.seq (.seq (.reg [v_ 48 2,o_ 49 (.bin .neq (.t 48) (i_ 0)),v_ 50 49,q_ 51 50 false (m_ 4),q_ 52 50 false (.bin .neq (.t 51) (i_ 0)),o_ 53 (r_ 50 52),v_ 54 53,q_ 55 54 false (m_ 6),q_ 56 54 false (.bin .neq (.t 55) (i_ 0)),o_ 57 (r_ 54 56),v_ 58 57,q_ 59 58 false (m_ 9),q_ 60 58 false (.bin .neq (.t 59) (i_ 0)),o_ 61 (r_ 58 60),v_ 62 61,q_ 63 62 false (m_ 13),q_ 64 62 false (.bin .neq (.t 63) (i_ 0)),o_ 65 (r_ 62 64),v_ 66 65,q_ 67 66 false (m_ 1),q_ 68 66 false (n_ 67),q_ 69 66 false (.bin .neq (.t 68) (i_ 2)),o_ 70 (r_ 66 69),v_ 71 70,q_ 72 71 false (m_ 5),q_ 73 71 false (.bin .neq (.t 72) (i_ 40)),o_ 74 (r_ 71 73),v_ 75 74,q_ 76 75 false (m_ 8),q_ 77 75 false (.bin .neq (.t 76) (i_ 0)),o_ 78 (r_ 75 77),v_ 79 78,q_ 80 79 false (m_ 12),q_ 81 79 false (.bin .neq (.t 80) (i_ 10)),o_ 82 (r_ 79 81)])
 (.cond (.t 82) (.seq (.reg [o_ 0 (b_ false)])
 .ret)
 .skip))
 (.seq (.reg [o_ 83 (.build [(.int .i64 0),.nilS] [(0,1,(i_ 1))]),o_ 84 (.bslice 2 [(.int .i64 0),.nilS] 1 [(0,2,(.t 83))]),o_ 85 (.build [(.int .i64 0),.nilS] [(0,1,(i_ (-1)))]),o_ 86 (.bslice 2 [(.int .i64 0),.nilS] 1 [(0,2,(.t 85))]),o_ 87 (.bslice 1 [(.int .i64 0)] 1 [(0,1,(i_ 0))]),o_ 88 (.build [(.int .i64 0),.nilS] [(0,1,(i_ 0)),(1,1,(.t 87))]),o_ 89 (.bslice 2 [(.int .i64 0),.nilS] 1 [(0,2,(.t 88))]),o_ 90 (.bslice 1 [.nilS] 3 [(0,1,(.t 84)),(1,1,(.t 86)),(2,1,(.t 89))]),v_ 14 90])
 (.seq (.reg [v_ 91 1,o_ 92 (.idxs 1 (.t 91) (i_ 0)),y_ 93 92,o_ 94 (.build [(.int .i64 0),(.int .i64 0)] [(0,1,(i_ 480)),(1,1,(i_ 520))]),o_ 95 (.bslice 2 [(.int .i64 0),(.int .i64 0)] 1 [(0,2,(.t 94))]),c_ 96 21 [(.t 93),(.t 95)],v_ 97 96,q_ 98 97 true (m_ 1),q_ 99 97 true (.idxs 1 (.t 98) (i_ 1)),q_ 100 97 true (l_ 99),q_ 101 97 true (.build [(.int .i64 0),(.int .i64 0)] [(0,1,(i_ 500)),(1,1,(i_ 530))]),q_ 102 97 true (.build [(.int .i64 0),(.int .i64 0)] [(0,1,(i_ 670)),(1,1,(i_ 700))]),q_ 103 97 true (.bslice 2 [(.int .i64 0),(.int .i64 0)] 2 [(0,2,(.t 101)),(2,2,(.t 102))]),d_ 104 97 true 21 [(.t 100),(.t 103)],o_ 105 (p_ 97 104),v_ 106 105,q_ 107 106 true (m_ 3),q_ 108 106 true (.bslice 1 [(.int .i64 0)] 4 [(0,1,(i_ 490)),(1,1,(i_ 525)),(2,1,(i_ 670)),(3,1,(i_ 715))]),d_ 109 106 true 26 [(.t 107),(.t 108)],o_ 110 (p_ 106 109),v_ 111 110,q_ 112 111 true (m_ 7),q_ 113 111 true (m_ 14),q_ 114 111 true (m_ 14),q_ 115 111 true (.bslice 1 [.nilS] 2 [(0,1,(.t 113)),(1,1,(.t 114))]),d_ 116 111 true 36 [(.t 112),(.t 115)],o_ 117 (p_ 111 116),v_ 0 117])
 .ret)))))))))))⟩
def L18_0 : SC := (.seq (.reg [o_ 14 (.bin .lss (.t 13) (.t 12))])
 (.seq (.cond (.t 14) .skip
 (.exit 0))
 (.seq (.blk 1 (.seq (.reg [z_ 15 1441 11 13,o_ 16 (w_ 15 1441),o_ 6 (.alloc (List.replicate 1441 (.bool false))),s_ 6 16 1441])
 (.reg [v_ 17 4,o_ 18 (.slca 1441 1 (.t 6) none none none),c_ 19 64 [(.t 18)],o_ 20 (.bslice 1 [.nilS] 1 [(0,1,(.t 19))]),o_ 21 (.app 1 [.nilS] 24 (.t 17) (.t 20)),v_ 4 21])))
 (.reg [j_ 22 13,v_ 13 22]))))
def mf18 : SF := ⟨24,[(.t 2),(.t 3)],
 (.seq (.reg [o_ 1 (.box (.t 0) 2),o_ 2 (.mov (.k .nilS)),o_ 3 (.mov (i_ 0))])
 (.seq (.seq (.reg [o_ 7 (w_ 1 2),c_ 8 62 [(.t 7)],o_ 9 (.un .not (.t 8))])
 (.cond (.t 9) (.seq (.reg [o_ 2 (.mov (.k .nilS)),o_ 3 (.mov (i_ 2))])
 .ret)
 .skip))
 (.seq (.reg [o_ 4 (.mov (.k .nilS))])
 (.seq (.seq (.reg [o_ 10 (w_ 1 2),c_ 11 63 [(.t 10)],o_ 12 (n_ 11),o_ 13 (.mov (i_ 0))])
 (.blk 0 (.loop [4,11,12,13] L18_0)))
 (.seq (.reg [v_ 23 4,v_ 2 23,o_ 3 (.mov (i_ 0))])
 .ret)))))⟩
def L21_0 : SC := (.seq (.seq (.reg [v_ 11 5,v_ 12 0,o_ 13 (n_ 12),o_ 14 (.bin .lss (.t 11) (.t 13))])
 (.cond (.t 14) .skip
 (.exit 0)))
 (.seq (.blk 1 (.seq (.draw [true] [v_ 17 0,v_ 18 5,z_ 19 2 17 18,o_ 20 (w_ 19 2),v_ 21 1,v_ 22 5,z_ 23 2 21 22,o_ 24 (w_ 23 2),o_ 25 (.eqag [true,true] true (.t 20) (.t 24))] [[],[],[0,1],[2,0,1],[],[],[4,5],[6,4,5],[3,2,0,1,7,6,4,5]])
 (.cond (.t 25) (.seq (.reg [o_ 4 (b_ false)])
 .ret)
 .skip)))
 (.reg [v_ 15 5,j_ 16 15,v_ 5 16])))
def mf21 : SF := ⟨26,[(.t 4)],
 (.seq (.reg [o_ 4 (b_ false)])
 (.seq (.seq (.reg [v_ 6 0,o_ 7 (n_ 6),v_ 8 1,o_ 9 (n_ 8),o_ 10 (.bin .neq (.t 7) (.t 9))])
 (.cond (.t 10) (.seq (.reg [o_ 4 (b_ false)])
 .ret)
 .skip))
 (.seq (.seq (.reg [o_ 5 (.mov (i_ 0))])
 (.blk 0 (.loop [0,1,5] L21_0)))
 (.seq (.reg [o_ 4 (b_ true)])
 .ret))))⟩
def L22_0 : SC := (.seq (.reg [o_ 47 (.bin .lss (.t 46) (.t 45))])
 (.seq (.cond (.t 47) .skip
 (.exit 0))
 (.seq (.blk 1 (.seq (.reg [v_ 48 46,z_ 49 1 44 46,y_ 50 49,v_ 10 48,v_ 11 50])
 (.seq (.reg [v_ 51 1,v_ 52 11,o_ 53 (.bin .add (.t 51) (.t 52)),v_ 1 53])
 (.seq (.reg [v_ 54 9,v_ 55 1,o_ 56 (.bslice 1 [(.int .i64 0)] 1 [(0,1,(.t 55))]),o_ 57 (.app 1 [(.int .i64 0)] 8 (.t 54) (.t 56)),v_ 9 57])
 (.seq (.reg [v_ 58 10,j_ 59 58,v_ 60 2,o_ 61 (n_ 60),o_ 62 (.bin .lss (.t 59) (.t 61))])
 (.cond (.t 62) (.seq (.draw [true] [v_ 63 8,v_ 64 10,j_ 65 64,z_ 66 1441 63 65,v_ 67 1,o_ 68 (a_ 3 0),y_ 69 68,v_ 70 10,j_ 71 70,z_ 72 2 69 71,o_ 73 (a_ 72 1),y_ 74 73,o_ 75 (.bin .add (.t 67) (.t 74)),c_ 76 71 [(.t 66),(.t 75)],v_ 1 76] [[],[],[1],[0,2,1],[],[],[5],[],[7],[6,5,8,7],[9,6,5,8,7],[10,9,6,5,8,7],[4,11,10,9,6,5,8,7],[3,0,2,1,12,4,11,10,9,6,5,8,7],[13,3,0,2,1,12,4,11,10,9,6,5,8,7]])
 (.reg [v_ 77 9,v_ 78 1,o_ 79 (.bslice 1 [(.int .i64 0)] 1 [(0,1,(.t 78))]),o_ 80 (.app 1 [(.int .i64 0)] 8 (.t 77) (.t 79)),v_ 9 80]))
 .skip))))))
 (.reg [j_ 81 46,v_ 46 81]))))
def mf22 : SF := ⟨83,[(.t 6),(.t 7)],
 (.seq (.reg [o_ 3 (.box (.t 0) 2),o_ 6 (.mov (.k .nilS)),o_ 7 (.mov (i_ 0))])
 (.seq (.seq (.reg [o_ 12 (w_ 3 2),c_ 13 62 [(.t 12)],o_ 14 (.un .not (.t 13)),v_ 15 14,q_ 16 15 false (m_ 1),d_ 17 15 false 68 [(.t 16),(i_ 0),(i_ 1440)],q_ 18 15 false (.un .not (.t 17)),o_ 19 (r_ 15 18),v_ 20 19,q_ 21 20 false (m_ 2),q_ 22 20 false (n_ 21),q_ 23 20 false (a_ 3 1),q_ 24 20 false (l_ 23),q_ 25 20 false (n_ 24),q_ 26 20 false (.bin .neq (.t 22) (.t 25)),o_ 27 (r_ 20 26),v_ 28 27,q_ 29 28 false (m_ 2),q_ 30 28 false (.mkfn (.func 70) [] [(.t 3)]),d_ 31 28 false 69 [(.t 29),(.t 30)],q_ 32 28 false (.un .not (.t 31)),o_ 33 (r_ 28 32)])
 (.cond (.t 33) (.seq (.reg [o_ 6 (.mov (.k .nilS)),o_ 7 (.mov (i_ 2))])
 .ret)
 .skip))
 (.seq (.reg [o_ 34 (w_ 3 2),c_ 35 63 [(.t 34)],v_ 8 35])
 (.seq (.seq (.reg [v_ 36 8,v_ 37 1,o_ 38 (.idxs 1441 (.t 36) (i_ 0)),o_ 39 (.idxa 1441 1 (.t 38) (.t 37)),y_ 40 39,o_ 41 (.un .not (.t 40))])
 (.cond (.t 41) (.seq (.reg [o_ 6 (.mov (.k .nilS)),o_ 7 (.mov (i_ 7))])
 .ret)
 .skip))
 (.seq (.reg [v_ 42 1,o_ 43 (.bslice 1 [(.int .i64 0)] 1 [(0,1,(.t 42))]),v_ 9 43])
 (.seq (.seq (.reg [v_ 44 2,o_ 45 (n_ 44),o_ 46 (.mov (i_ 0))])
 (.blk 0 (.loop [1,2,3,8,9,44,45,46] L22_0)))
 (.seq (.reg [v_ 82 9,v_ 6 82,o_ 7 (.mov (i_ 0))])
 .ret)))))))⟩
def mf23 : SF := ⟨47,[(.t 6),(.t 7)],
 (.seq (.reg [o_ 3 (.box (.t 0) 2),o_ 6 (.mov (i_ 0)),o_ 7 (.mov (i_ 0))])
 (.seq (.seq (.reg [o_ 9 (w_ 3 2),c_ 10 62 [(.t 9)],o_ 11 (.un .not (.t 10)),v_ 12 11,q_ 13 12 false (m_ 1),q_ 14 12 false (a_ 3 1),q_ 15 12 false (l_ 14),q_ 16 12 false (n_ 15),q_ 17 12 false (.bin .sub (.t 16) (i_ 1)),d_ 18 12 false 68 [(.t 13),(i_ 0),(.t 17)],q_ 19 12 false (.un .not (.t 18)),o_ 20 (r_ 12 19),v_ 21 20,q_ 22 21 false (m_ 2),d_ 23 21 false 68 [(.t 22),(i_ 0),(i_ 1440)],q_ 24 21 false (.un .not (.t 23)),o_ 25 (r_ 21 24)])
 (.cond (.t 25) (.seq (.reg [o_ 6 (.mov (i_ 0)),o_ 7 (.mov (i_ 2))])
 .ret)
 .skip))
 (.seq (.reg [o_ 26 (w_ 3 2),c_ 27 63 [(.t 26)],v_ 8 27])
 (.seq (.seq (.reg [v_ 28 8,v_ 29 1,v_ 30 2,z_ 31 1441 28 29,o_ 32 (.idxa 1441 1 (.t 31) (.t 30)),y_ 33 32])
 (.cond (.t 33) (.seq (.reg [o_ 6 (.mov (i_ 0)),o_ 7 (.mov (i_ 6))])
 .ret)
 .skip))
 (.seq (.seq (.reg [o_ 34 (a_ 3 0),y_ 35 34,v_ 36 1,z_ 37 2 35 36,o_ 38 (w_ 37 2),v_ 39 2,c_ 40 72 [(.t 38),(.t 39)],o_ 41 (.un .not (.t 40))])
 (.cond (.t 41) (.seq (.reg [o_ 6 (.mov (i_ (-1))),o_ 7 (.mov (i_ 0))])
 .ret)
 .skip))
 (.seq (.reg [o_ 42 (w_ 3 2),v_ 43 8,v_ 44 1,v_ 45 2,c_ 46 73 [(.t 42),(.t 43),(.t 44),(.t 45)],v_ 6 46,o_ 7 (.mov (i_ 0))])
 .ret))))))⟩
def L26_0 : SC := (.seq (.seq (.reg [v_ 11 5,v_ 12 0,o_ 13 (n_ 12),o_ 14 (.bin .lss (.t 11) (.t 13))])
 (.cond (.t 14) .skip
 (.exit 0)))
 (.seq (.blk 1 (.seq (.draw [true] [v_ 17 0,v_ 18 5,z_ 19 1 17 18,y_ 20 19,v_ 21 1,v_ 22 5,z_ 23 1 21 22,y_ 24 23,o_ 25 (.bin .neq (.t 20) (.t 24))] [[],[],[0,1],[2,0,1],[],[],[4,5],[6,4,5],[3,2,0,1,7,6,4,5]])
 (.cond (.t 25) (.seq (.reg [o_ 4 (b_ false)])
 .ret)
 .skip)))
 (.reg [v_ 15 5,j_ 16 15,v_ 5 16])))
def mf26 : SF := ⟨26,[(.t 4)],
 (.seq (.reg [o_ 4 (b_ false)])
 (.seq (.seq (.reg [v_ 6 0,o_ 7 (n_ 6),v_ 8 1,o_ 9 (n_ 8),o_ 10 (.bin .neq (.t 7) (.t 9))])
 (.cond (.t 10) (.seq (.reg [o_ 4 (b_ false)])
 .ret)
 .skip))
 (.seq (.seq (.reg [o_ 5 (.mov (i_ 0))])
 (.blk 0 (.loop [0,1,5] L26_0)))
 (.seq (.reg [o_ 4 (b_ true)])
 .ret))))⟩
def aH9 : List MIx := [o_ 33 (l_ 6),o_ 34 (l_ 5),o_ 35 (m_ 9),o_ 36 (.load (.t 8) (some 3)),.call (some 37) none (f_ 82) [(.t 34),(i_ 0),(.t 35),(.t 36)],o_ 2 (m_ 33),o_ 3 (m_ 37),o_ 4 (.mov (i_ 0))]
def aIb : List (List Nat) := [[],[],[],[],[1,2,3],[0,4,1,2,3],[4,1,2,3,5,0],[6,4,1,2,3,5,0]]
def D30_0 : List MIx := [o_ 22 (l_ 5),.call (some 23) none (f_ 84) [(.t 22)],o_ 24 (.addr (.t 1) 4),o_ 25 (l_ 24),o_ 26 (.len (.t 25)),o_ 27 (.bin .shl (i_ 1) (.t 26)),o_ 28 (.bin .sub (.t 27) (i_ 1)),o_ 8 (.alloc [.nilS,.nilS,.nilS]),.op none none (.store (.t 8) (.t 23) 3),o_ 9 (m_ 28)]
def B30_0 : List (List Nat) := [[],[0],[],[2],[3,2],[4,3,2],[5,4,3,2],[],[7,1,0],[6,5,4,3,2,8,7,1,0]]
def mf30 : SF := ⟨38,[(.t 2),(.t 3),(.t 4)],
 (.seq (.reg [o_ 1 (.box (.t 0) 5),o_ 2 (.mov (.k .nilS)),o_ 3 (.mov (i_ 0)),o_ 4 (.mov (i_ 0))])
 (.seq (.seq (.reg [o_ 10 (w_ 1 5),c_ 11 76 [(.t 10)],o_ 12 (.un .not (.t 11))])
 (.cond (.t 12) (.seq (.reg [o_ 2 (.mov (.k .nilS)),o_ 3 (.mov (i_ 0)),o_ 4 (.mov (i_ 2))])
 .ret)
 .skip))
 (.seq (.reg [o_ 13 (w_ 1 5),o_ 14 .mkmap,o_ 15 (.build [.nilS,.nilS,.nilS,.nilS,.nilS,.nilM] [(0,5,(.t 13)),(5,1,(.t 14))]),o_ 16 (.box (.t 15) 6),o_ 5 (.alloc [.nilP]),s_ 5 16 1])
 (.seq (.reg [o_ 17 (a_ 1 4),y_ 18 17,o_ 19 (n_ 18),o_ 20 (.mksl 1 [.nilS] 24 (.t 19) (.t 19)),o_ 6 (.alloc [.nilS]),s_ 6 20 1])
 (.seq (.reg [o_ 7 (.alloc [.nilF])])
 (.seq (.reg [o_ 21 (.mkfn (.func 77) [] [(.t 1),(.t 5),(.t 6),(.t 7)]),s_ 7 21 1])
 (.seq (.draw [] D30_0 B30_0)
 (.seq (.reg [y_ 29 7,v_ 30 9,o_ 31 (w_ 8 3),.call (some 32) none (.t 29) [(i_ 0),(.t 30),(.t 31)]])
 (.seq (.draw [] aH9 aIb)
 .ret)))))))))⟩
def L31_0 : SC := (.seq (.seq (.reg [v_ 4 3,o_ 5 (a_ 1 4),y_ 6 5,o_ 7 (n_ 6),o_ 8 (.bin .lss (.t 4) (.t 7))])
 (.cond (.t 8) .skip
 (.exit 0)))
 (.seq (.blk 1 (.seq (.reg [o_ 11 (a_ 1 4),y_ 12 11,v_ 13 3,z_ 14 1 12 13,y_ 15 14,o_ 16 (n_ 15),o_ 17 (.bin .gtr (.t 16) (i_ 12))])
 (.cond (.t 17) (.seq (.reg [o_ 2 (b_ false)])
 .ret)
 .skip)))
 (.reg [v_ 9 3,j_ 10 9,v_ 3 10])))
def mf31 : SF := ⟨46,[(.t 2)],
 (.seq (.reg [o_ 1 (.box (.t 0) 5),o_ 2 (b_ false)])
 (.seq (.seq (.reg [o_ 3 (.mov (i_ 0))])
 (.blk 0 (.loop [1,3] L31_0)))
 (.seq (.reg [o_ 18 (a_ 1 0),y_ 19 18,o_ 20 (n_ 19),o_ 21 (.bin .leq (.t 20) (i_ 12)),v_ 22 21,q_ 23 22 true (a_ 1 1),q_ 24 22 true (l_ 23),q_ 25 22 true (n_ 24),q_ 26 22 true (.bin .leq (.t 25) (i_ 40)),o_ 27 (p_ 22 26),v_ 28 27,q_ 29 28 true (a_ 1 2),q_ 30 28 true (l_ 29),q_ 31 28 true (n_ 30),q_ 32 28 true (.bin .leq (.t 31) (i_ 12)),o_ 33 (p_ 28 32),v_ 34 33,q_ 35 34 true (a_ 1 3),q_ 36 34 true (l_ 35),q_ 37 34 true (n_ 36),q_ 38 34 true (.bin .leq (.t 37) (i_ 12)),o_ 39 (p_ 34 38),v_ 40 39,q_ 41 40 true (a_ 1 4),q_ 42 40 true (l_ 41),q_ 43 40 true (n_ 42),q_ 44 40 true (.bin .leq (.t 43) (i_ 12)),o_ 45 (p_ 40 44),v_ 2 45])
 .ret)))⟩
def D32_92 : List MIx := [o_ 267 (.load (.t 1) (some 5)),o_ 268 (.load (.t 1) (some 5)),.call (some 269) none (f_ 40) [(.t 268)],o_ 270 (.fld (.t 269) 0 none),.call (some 271) none (f_ 85) [(.t 267),(.t 270)],o_ 272 (.un .not (.t 271)),o_ 2 (m_ 272)]
def B32_92 : List (List Nat) := [[],[],[1],[2,1],[0,3,2,1],[4,0,3,2,1],[5,4,0,3,2,1]]
def L32_0 : SC := (.seq (.seq (.reg [v_ 55 4,v_ 56 3,o_ 57 (.bin .lss (.t 55) (.t 56))])
 (.cond (.t 57) .skip
 (.exit 0)))
 (.seq (.blk 1 (.seq (.reg [o_ 60 (a_ 1 0),y_ 61 60,v_ 62 4,z_ 63 2 61 62,o_ 64 (a_ 63 0),y_ 65 64,c_ 66 66 [(.t 65),(i_ 0),(i_ 2)],o_ 67 (.un .not (.t 66))])
 (.cond (.t 67) (.seq (.reg [o_ 2 (b_ false)])
 .ret)
 .skip)))
 (.reg [v_ 58 4,j_ 59 58,v_ 4 59])))
def L32_1 : SC := (.seq (.seq (.reg [v_ 101 7,v_ 102 5,o_ 103 (.bin .lss (.t 101) (.t 102))])
 (.cond (.t 103) .skip
 (.exit 4)))
 (.seq (.blk 5 (.seq (.reg [o_ 106 (a_ 1 1),y_ 107 106,v_ 108 7,z_ 109 2 107 108,o_ 110 (w_ 109 2),o_ 8 (.alloc [(.int .i64 0),(.int .i64 0)]),s_ 8 110 2])
 (.seq (.reg [o_ 111 (a_ 8 0),y_ 112 111,o_ 113 (a_ 6 0),y_ 114 113,o_ 115 (.bin .eql (.t 112) (.t 114)),v_ 116 115,q_ 117 116 true (a_ 8 1),q_ 118 116 true (l_ 117),q_ 119 116 true (a_ 6 1),q_ 120 116 true (l_ 119),q_ 121 116 true (.bin .eql (.t 118) (.t 120)),o_ 122 (p_ 116 121),v_ 123 122,q_ 124 123 false (a_ 8 0),q_ 125 123 false (l_ 124),q_ 126 123 false (a_ 6 1),q_ 127 123 false (l_ 126),q_ 128 123 false (.bin .eql (.t 125) (.t 127)),q_ 129 123 false (m_ 128),q_ 130 129 true (a_ 8 1),q_ 131 129 true (l_ 130),q_ 132 129 true (a_ 6 0),q_ 133 129 true (l_ 132),q_ 134 129 true (.bin .eql (.t 131) (.t 133)),q_ 135 123 false (p_ 129 134),o_ 136 (r_ 123 135)])
 (.cond (.t 136) (.seq (.reg [o_ 2 (b_ false)])
 .ret)
 .skip))))
 (.reg [v_ 104 7,j_ 105 104,v_ 7 105])))
def L32_2 : SC := (.seq (.seq (.reg [v_ 68 5,o_ 69 (a_ 1 1),y_ 70 69,o_ 71 (n_ 70),o_ 72 (.bin .lss (.t 68) (.t 71))])
 (.cond (.t 72) .skip
 (.exit 2)))
 (.seq (.blk 3 (.seq (.reg [o_ 75 (a_ 1 1),y_ 76 75,v_ 77 5,z_ 78 2 76 77,o_ 79 (w_ 78 2),o_ 6 (.alloc [(.int .i64 0),(.int .i64 0)]),s_ 6 79 2])
 (.seq (.seq (.reg [o_ 80 (a_ 6 0),y_ 81 80,v_ 82 3,o_ 83 (.bin .sub (.t 82) (i_ 1)),c_ 84 66 [(.t 81),(i_ 0),(.t 83)],o_ 85 (.un .not (.t 84)),v_ 86 85,q_ 87 86 false (a_ 6 1),q_ 88 86 false (l_ 87),q_ 89 86 false (m_ 3),q_ 90 86 false (.bin .sub (.t 89) (i_ 1)),d_ 91 86 false 66 [(.t 88),(i_ 0),(.t 90)],q_ 92 86 false (.un .not (.t 91)),o_ 93 (r_ 86 92),v_ 94 93,q_ 95 94 false (a_ 6 0),q_ 96 94 false (l_ 95),q_ 97 94 false (a_ 6 1),q_ 98 94 false (l_ 97),q_ 99 94 false (.bin .eql (.t 96) (.t 98)),o_ 100 (r_ 94 99)])
 (.cond (.t 100) (.seq (.reg [o_ 2 (b_ false)])
 .ret)
 .skip))
 (.seq (.reg [o_ 7 (.mov (i_ 0))])
 (.blk 4 (.loop [1,3,5,6,7] L32_1))))))
 (.reg [v_ 73 5,j_ 74 73,v_ 5 74])))
def L32_3 : SC := (.seq (.seq (.reg [v_ 137 9,o_ 138 (a_ 1 2),y_ 139 138,o_ 140 (n_ 139),o_ 141 (.bin .lss (.t 137) (.t 140))])
 (.cond (.t 141) .skip
 (.exit 6)))
 (.seq (.blk 7 (.seq (.reg [o_ 144 (a_ 1 2),y_ 145 144,v_ 146 9,z_ 147 5 145 146,o_ 148 (w_ 147 5),o_ 10 (.alloc [(.int .i64 0),(.int .i64 0),(.int .i64 0),(.int .i64 0),(.int .i64 0)]),s_ 10 148 5])
 (.seq (.reg [o_ 149 (a_ 10 0),y_ 150 149,v_ 151 3,o_ 152 (.bin .sub (.t 151) (i_ 1)),c_ 153 66 [(.t 150),(i_ 0),(.t 152)],o_ 154 (.un .not (.t 153)),v_ 155 154,q_ 156 155 false (a_ 10 1),q_ 157 155 false (l_ 156),q_ 158 155 false (m_ 3),q_ 159 155 false (.bin .sub (.t 158) (i_ 1)),d_ 160 155 false 66 [(.t 157),(i_ 0),(.t 159)],q_ 161 155 false (.un .not (.t 160)),o_ 162 (r_ 155 161),v_ 163 162,q_ 164 163 false (a_ 10 2),q_ 165 163 false (l_ 164),d_ 166 163 false 66 [(.t 165),(i_ 0),(i_ 20)],q_ 167 163 false (.un .not (.t 166)),o_ 168 (r_ 163 167),v_ 169 168,q_ 170 169 false (a_ 10 3),q_ 171 169 false (l_ 170),d_ 172 169 false 66 [(.t 171),(i_ 0),(i_ 20)],q_ 173 169 false (.un .not (.t 172)),o_ 174 (r_ 169 173),v_ 175 174,q_ 176 175 false (a_ 10 4),q_ 177 175 false (l_ 176),d_ 178 175 false 66 [(.t 177),(i_ 0),(i_ 1000000)],q_ 179 175 false (.un .not (.t 178)),o_ 180 (r_ 175 179)])
 (.cond (.t 180) (.seq (.reg [o_ 2 (b_ false)])
 .ret)
 .skip))))
 (.reg [v_ 142 9,j_ 143 142,v_ 9 143])))
def L32_4 : SC := (.seq (.seq (.reg [v_ 181 11,o_ 182 (a_ 1 3),y_ 183 182,o_ 184 (n_ 183),o_ 185 (.bin .lss (.t 181) (.t 184))])
 (.cond (.t 185) .skip
 (.exit 8)))
 (.seq (.blk 9 (.seq (.reg [o_ 188 (a_ 1 3),y_ 189 188,v_ 190 11,z_ 191 5 189 190,o_ 192 (w_ 191 5),o_ 12 (.alloc [(.int .i64 0),(.int .i64 0),(.int .i64 0),(.int .i64 0),(.int .i64 0)]),s_ 12 192 5])
 (.seq (.reg [o_ 193 (a_ 12 0),y_ 194 193,v_ 195 3,o_ 196 (.bin .sub (.t 195) (i_ 1)),c_ 197 66 [(.t 194),(i_ 0),(.t 196)],o_ 198 (.un .not (.t 197)),v_ 199 198,q_ 200 199 false (a_ 12 1),q_ 201 199 false (l_ 200),q_ 202 199 false (m_ 3),q_ 203 199 false (.bin .sub (.t 202) (i_ 1)),d_ 204 199 false 66 [(.t 201),(i_ 0),(.t 203)],q_ 205 199 false (.un .not (.t 204)),o_ 206 (r_ 199 205),v_ 207 206,q_ 208 207 false (a_ 12 2),q_ 209 207 false (l_ 208),d_ 210 207 false 66 [(.t 209),(i_ 1),(i_ 20)],q_ 211 207 false (.un .not (.t 210)),o_ 212 (r_ 207 211),v_ 213 212,q_ 214 213 false (a_ 12 3),q_ 215 213 false (l_ 214),d_ 216 213 false 66 [(.t 215),(i_ 0),(i_ 1000000)],q_ 217 213 false (.un .not (.t 216)),o_ 218 (r_ 213 217),v_ 219 218,q_ 220 219 false (a_ 12 4),q_ 221 219 false (l_ 220),d_ 222 219 false 66 [(.t 221),(i_ 0),(i_ 1000000)],q_ 223 219 false (.un .not (.t 222)),o_ 224 (r_ 219 223)])
 (.cond (.t 224) (.seq (.reg [o_ 2 (b_ false)])
 .ret)
 .skip))))
 (.reg [v_ 186 11,j_ 187 186,v_ 11 187])))
def L32_5 : SC := (.seq (.seq (.reg [v_ 244 14,o_ 245 (a_ 1 4),y_ 246 245,v_ 247 13,z_ 248 1 246 247,y_ 249 248,o_ 250 (n_ 249),o_ 251 (.bin .lss (.t 244) (.t 250))])
 (.cond (.t 251) .skip
 (.exit 12)))
 (.seq (.blk 13 (.seq (.draw [true] [o_ 254 (a_ 1 4),y_ 255 254,v_ 256 13,z_ 257 1 255 256,y_ 258 257,v_ 259 14,z_ 260 1 258 259,y_ 261 260,v_ 262 3,o_ 263 (.bin .shl (i_ 1) (.t 262)),o_ 264 (.bin .sub (.t 263) (i_ 1)),c_ 265 66 [(.t 261),(i_ 0),(.t 264)],o_ 266 (.un .not (.t 265))] [[],[0],[],[1,0,2],[3,1,0,2],[],[4,3,1,0,2,5],[6,4,3,1,0,2,5],[],[8],[9,8],[7,6,4,3,1,0,2,5,10,9,8],[11,7,6,4,3,1,0,2,5,10,9,8]])
 (.cond (.t 266) (.seq (.reg [o_ 2 (b_ false)])
 .ret)
 .skip)))
 (.reg [v_ 252 14,j_ 253 252,v_ 14 253])))
def L32_6 : SC := (.seq (.seq (.reg [v_ 225 13,o_ 226 (a_ 1 4),y_ 227 226,o_ 228 (n_ 227),o_ 229 (.bin .lss (.t 225) (.t 228))])
 (.cond (.t 229) .skip
 (.exit 10)))
 (.seq (.blk 11 (.seq (.seq (.draw [true] [o_ 232 (a_ 1 4),y_ 233 232,v_ 234 13,z_ 235 1 233 234,y_ 236 235,o_ 237 (n_ 236),o_ 238 (a_ 1 4),y_ 239 238,o_ 240 (.idxs 1 (.t 239) (i_ 0)),y_ 241 240,o_ 242 (n_ 241),o_ 243 (.bin .neq (.t 237) (.t 242))] [[],[0],[],[1,0,2],[3,1,0,2],[4,3,1,0,2],[],[6],[7,6],[8,7,6],[9,8,7,6],[5,4,3,1,0,2,10,9,8,7,6]])
 (.cond (.t 243) (.seq (.reg [o_ 2 (b_ false)])
 .ret)
 .skip))
 (.seq (.reg [o_ 14 (.mov (i_ 0))])
 (.blk 12 (.loop [1,3,13,14] L32_5)))))
 (.reg [v_ 230 13,j_ 231 230,v_ 13 231])))
def mf32 : SF := ⟨273,[(.t 2)],
 (.seq (.reg [o_ 1 (.box (.t 0) 5),o_ 2 (b_ false)])
 (.seq (.reg [o_ 15 (a_ 1 0),y_ 16 15,o_ 17 (n_ 16),v_ 3 17])
 (.seq (.seq (.reg [v_ 18 3,c_ 19 66 [(.t 18),(i_ 1),(i_ 5)],o_ 20 (.un .not (.t 19)),v_ 21 20,q_ 22 21 false (a_ 1 1),q_ 23 21 false (l_ 22),q_ 24 21 false (n_ 23),q_ 25 21 false (.bin .gtr (.t 24) (i_ 20)),o_ 26 (r_ 21 25),v_ 27 26,q_ 28 27 false (a_ 1 2),q_ 29 27 false (l_ 28),q_ 30 27 false (n_ 29),q_ 31 27 false (.bin .gtr (.t 30) (i_ 2)),o_ 32 (r_ 27 31),v_ 33 32,q_ 34 33 false (a_ 1 3),q_ 35 33 false (l_ 34),q_ 36 33 false (n_ 35),q_ 37 33 false (.bin .gtr (.t 36) (i_ 4)),o_ 38 (r_ 33 37),v_ 39 38,q_ 40 39 false (a_ 1 4),q_ 41 39 false (l_ 40),q_ 42 39 false (n_ 41),d_ 43 39 false 66 [(.t 42),(i_ 1),(i_ 6)],q_ 44 39 false (.un .not (.t 43)),o_ 45 (r_ 39 44),v_ 46 45,q_ 47 46 false (a_ 1 4),q_ 48 46 false (l_ 47),q_ 49 46 false (.idxs 1 (.t 48) (i_ 0)),q_ 50 46 false (l_ 49),q_ 51 46 false (n_ 50),d_ 52 46 false 66 [(.t 51),(i_ 1),(i_ 5)],q_ 53 46 false (.un .not (.t 52)),o_ 54 (r_ 46 53)])
 (.cond (.t 54) (.seq (.reg [o_ 2 (b_ false)])
 .ret)
 .skip))
 (.seq (.seq (.reg [o_ 4 (.mov (i_ 0))])
 (.blk 0 (.loop [1,3,4] L32_0)))
 (.seq (.seq (.reg [o_ 5 (.mov (i_ 0))])
 (.blk 2 (.loop [1,3,5] L32_2)))
 (.seq (.seq (.reg [o_ 9 (.mov (i_ 0))])
 (.blk 6 (.loop [1,3,9] L32_3)))
 (.seq (.seq (.reg [o_ 11 (.mov (i_ 0))])
 (.blk 8 (.loop [1,3,11] L32_4)))
 (.seq (.seq (.reg [o_ 13 (.mov (i_ 0))])
 (.blk 10 (.loop [1,3,13] L32_6)))
 (.seq (.draw [] D32_92 B32_92)
 .ret)))))))))⟩
def L33_0 : SC := (.seq (.seq (.reg [v_ 17 5,o_ 18 (a_ 1 2),y_ 19 18,o_ 20 (n_ 19),o_ 21 (.bin .lss (.t 17) (.t 20))])
 (.cond (.t 21) .skip
 (.exit 0)))
 (.seq (.blk 1 (.reg [v_ 24 4,v_ 25 3,o_ 26 (.bin .mul (.t 24) (.t 25)),v_ 4 26]))
 (.reg [v_ 22 5,j_ 23 22,v_ 5 23])))
def L33_1 : SC := (.seq (.seq (.reg [v_ 27 7,o_ 28 (w_ 1 5),c_ 29 42 [(.t 28)],o_ 30 (.bin .lss (.t 27) (.t 29)),v_ 31 30,q_ 32 31 true (m_ 6),q_ 33 31 true (.bin .leq (.t 32) (i_ 20000)),o_ 34 (p_ 31 33)])
 (.cond (.t 34) .skip
 (.exit 2)))
 (.seq (.blk 3 (.reg [v_ 37 6,v_ 38 4,o_ 39 (.bin .mul (.t 37) (.t 38)),v_ 6 39]))
 (.reg [v_ 35 7,j_ 36 35,v_ 7 36])))
def mf33 : SF := ⟨42,[(.t 2)],
 (.seq (.reg [o_ 1 (.box (.t 0) 5),o_ 2 (b_ false)])
 (.seq (.reg [o_ 8 (a_ 1 0),y_ 9 8,o_ 10 (n_ 9),o_ 11 (.bin .sub (.t 10) (i_ 1)),o_ 12 (a_ 1 3),y_ 13 12,o_ 14 (n_ 13),o_ 15 (.bin .shl (.t 11) (.t 14)),o_ 16 (.bin .add (i_ 1) (.t 15)),v_ 3 16,o_ 4 (.mov (i_ 1))])
 (.seq (.seq (.reg [o_ 5 (.mov (i_ 0))])
 (.blk 0 (.loop [1,3,4,5] L33_0)))
 (.seq (.reg [o_ 6 (.mov (i_ 1))])
 (.seq (.seq (.reg [o_ 7 (.mov (i_ 0))])
 (.blk 2 (.loop [1,4,6,7] L33_1)))
 (.seq (.reg [v_ 40 6,o_ 41 (.bin .leq (.t 40) (i_ 20000)),v_ 2 41])
 .ret))))))⟩
def mf34 : SF := ⟨34,[(.t 4),(.t 5)],
 (.seq (.reg [o_ 2 (.box (.t 0) 5),o_ 4 (.mov (i_ 0)),o_ 5 (.mov (i_ 0))])
 (.seq (.seq (.reg [o_ 7 (w_ 2 5),c_ 8 76 [(.t 7)],o_ 9 (.un .not (.t 8)),v_ 10 9,q_ 11 10 false (m_ 1),q_ 12 10 false (a_ 2 4),q_ 13 10 false (l_ 12),q_ 14 10 false (n_ 13),q_ 15 10 false (.bin .sub (.t 14) (i_ 1)),d_ 16 10 false 68 [(.t 11),(i_ 0),(.t 15)],q_ 17 10 false (.un .not (.t 16)),o_ 18 (r_ 10 17)])
 (.cond (.t 18) (.seq (.reg [o_ 4 (.mov (i_ 0)),o_ 5 (.mov (i_ 2))])
 .ret)
 .skip))
 (.seq (.reg [o_ 19 (a_ 2 4),y_ 20 19,v_ 21 1,v_ 22 1,j_ 23 22,o_ 24 (.slc 1 (.t 20) (some (.t 21)) (some (.t 23)) none),o_ 25 (a_ 2 4),s_ 25 24 1])
 (.seq (.reg [o_ 26 (w_ 2 5),o_ 27 .mkmap,o_ 28 (.build [.nilS,.nilS,.nilS,.nilS,.nilS,.nilM] [(0,5,(.t 26)),(5,1,(.t 27))]),o_ 29 (.box (.t 28) 6),v_ 6 29])
 (.seq (.reg [v_ 30 6,v_ 31 6,c_ 32 84 [(.t 31)],c_ 33 82 [(.t 30),(i_ 0),(i_ 1),(.t 32)],v_ 4 33,o_ 5 (.mov (i_ 0))])
 .ret)))))⟩
def D35_90 : List MIx := [o_ 3 (.load (.t 1) (some 5)),o_ 4 (.load (.t 1) (some 5)),.call (some 5) none (f_ 87) [(.t 4)],o_ 6 (.load (.t 1) (some 5)),.call (some 7) none (f_ 40) [(.t 6)],o_ 8 (.load (.t 1) (some 5)),.call (some 9) none (f_ 88) [(.t 8)],.call (some 10) none (f_ 86) [(.t 3),(.t 5),(.t 7),(i_ 0),(.t 9)],o_ 2 (m_ 10)]
def B35_90 : List (List Nat) := [[],[],[1],[],[3,2,1],[],[5,4,3,2,1],[0,2,1,4,3,6,5],[7,0,2,1,4,3,6,5]]
def mf35 : SF := ⟨11,[(.t 2)],
 (.seq (.reg [o_ 1 (.box (.t 0) 5),o_ 2 (.mov (i_ 0))])
 (.seq (.draw [] D35_90 B35_90)
 .ret))⟩
def L36_0 : SC := (.seq (.seq (.reg [v_ 29 6,v_ 30 0,v_ 31 5,z_ 32 1 30 31,y_ 33 32,o_ 34 (n_ 33),o_ 35 (.bin .lss (.t 29) (.t 34))])
 (.cond (.t 35) .skip
 (.exit 2)))
 (.seq (.blk 3 (.seq (.draw [true] [v_ 38 0,v_ 39 5,z_ 40 1 38 39,y_ 41 40,v_ 42 6,z_ 43 1 41 42,y_ 44 43,v_ 45 1,v_ 46 5,z_ 47 1 45 46,y_ 48 47,v_ 49 6,z_ 50 1 48 49,y_ 51 50,c_ 52 47 [(.t 44),(.t 51)],o_ 53 (.un .not (.t 52))] [[],[],[0,1],[2,0,1],[],[3,2,0,1,4],[5,3,2,0,1,4],[],[],[7,8],[9,7,8],[],[10,9,7,8,11],[12,10,9,7,8,11],[6,5,3,2,0,1,4,13,12,10,9,7,8,11],[14,6,5,3,2,0,1,4,13,12,10,9,7,8,11]])
 (.cond (.t 53) (.seq (.reg [o_ 4 (b_ false)])
 .ret)
 .skip)))
 (.reg [v_ 36 6,j_ 37 36,v_ 6 37])))
def L36_1 : SC := (.seq (.seq (.reg [v_ 12 5,v_ 13 0,o_ 14 (n_ 13),o_ 15 (.bin .lss (.t 12) (.t 14))])
 (.cond (.t 15) .skip
 (.exit 0)))
 (.seq (.blk 1 (.seq (.seq (.draw [true] [v_ 18 0,v_ 19 5,z_ 20 1 18 19,y_ 21 20,o_ 22 (n_ 21),v_ 23 1,v_ 24 5,z_ 25 1 23 24,y_ 26 25,o_ 27 (n_ 26),o_ 28 (.bin .neq (.t 22) (.t 27))] [[],[],[0,1],[2,0,1],[3,2,0,1],[],[],[5,6],[7,5,6],[8,7,5,6],[4,3,2,0,1,9,8,7,5,6]])
 (.cond (.t 28) (.seq (.reg [o_ 4 (b_ false)])
 .ret)
 .skip))
 (.seq (.reg [o_ 6 (.mov (i_ 0))])
 (.blk 2 (.loop [0,1,5,6] L36_0)))))
 (.reg [v_ 16 5,j_ 17 16,v_ 5 17])))
def mf36 : SF := ⟨54,[(.t 4)],
 (.seq (.reg [o_ 4 (b_ false)])
 (.seq (.seq (.reg [v_ 7 0,o_ 8 (n_ 7),v_ 9 1,o_ 10 (n_ 9),o_ 11 (.bin .neq (.t 8) (.t 10))])
 (.cond (.t 11) (.seq (.reg [o_ 4 (b_ false)])
 .ret)
 .skip))
 (.seq (.seq (.reg [o_ 5 (.mov (i_ 0))])
 (.blk 0 (.loop [0,1,5] L36_1)))
 (.seq (.reg [o_ 4 (b_ true)])
 .ret))))⟩
def D37_90 : List MIx := [o_ 29 (.load (.t 1) (some 5)),o_ 30 (m_ 3),o_ 31 (.load (.t 6) (some 3)),o_ 32 (m_ 8),o_ 33 (.load (.t 1) (some 5)),o_ 34 (m_ 5),o_ 35 (m_ 8),.call (some 36) none (f_ 43) [(.t 33),(.t 34),(.t 35)],.call (some 37) none (f_ 89) [(.t 29),(.t 30),(.t 31),(.t 32),(.t 36)],o_ 28 (m_ 37),o_ 38 (.ext (.t 28) 0),o_ 39 (.ext (.t 28) 1),o_ 9 (m_ 38),o_ 10 (m_ 39)]
def B37_90 : List (List Nat) := [[],[],[],[],[],[],[],[4,5,6],[0,1,2,3,7,4,5,6],[8,0,1,2,3,7,4,5,6],[9,8,0,1,2,3,7,4,5,6],[9,8,0,1,2,3,7,4,5,6],[10,9,8,0,1,2,3,7,4,5,6],[11,9,8,0,1,2,3,7,4,5,6,12,10]]
def D37_0 : List MIx := [o_ 41 (.load (.t 1) (some 5)),o_ 42 (.load (.t 6) (some 3)),o_ 43 (.addr (.t 1) 4),o_ 44 (l_ 43),o_ 45 (m_ 5),o_ 46 (.idxs 1 (.t 44) (.t 45)),o_ 47 (l_ 46),o_ 48 (m_ 8),o_ 49 (.idxs 1 (.t 47) (.t 48)),o_ 50 (l_ 49),o_ 51 (m_ 10),.call (some 52) none (f_ 56) [(.t 41),(.t 42),(.t 50),(.t 51)],o_ 40 (m_ 52),o_ 53 (.ext (.t 40) 0),o_ 54 (.ext (.t 40) 1),o_ 55 (.ext (.t 40) 2),.op none none (.store (.t 6) (.t 53) 3)]
def B37_0 : List (List Nat) := [[],[],[],[2],[],[3,2,4],[5,3,2,4],[],[6,5,3,2,4,7],[8,6,5,3,2,4,7],[],[0,1,9,8,6,5,3,2,4,7,10],[11,0,1,9,8,6,5,3,2,4,7,10],[12,11,0,1,9,8,6,5,3,2,4,7,10],[12,11,0,1,9,8,6,5,3,2,4,7,10],[12,11,0,1,9,8,6,5,3,2,4,7,10],[13,12,11,0,1,9,8,6,5,3,2,4,7,10]]
def L37_0 : SC := (.seq (.seq (.reg [v_ 22 8,o_ 23 (w_ 1 5),c_ 24 42 [(.t 23)],o_ 25 (.bin .lss (.t 22) (.t 24))])
 (.cond (.t 25) .skip
 (.exit 2)))
 (.seq (.blk 3 (.seq (.draw [] D37_90 B37_90)
 (.seq (.draw [] D37_0 B37_0)
 (.reg [v_ 56 7,v_ 57 10,o_ 58 (.bslice 1 [.nilS] 1 [(0,1,(.t 57))]),o_ 59 (.app 1 [.nilS] 24 (.t 56) (.t 58)),v_ 7 59]))))
 (.reg [v_ 26 8,j_ 27 26,v_ 8 27])))
def L37_1 : SC := (.seq (.seq (.reg [v_ 13 5,o_ 14 (a_ 1 4),y_ 15 14,o_ 16 (n_ 15),o_ 17 (.bin .lss (.t 13) (.t 16))])
 (.cond (.t 17) .skip
 (.exit 0)))
 (.seq (.blk 1 (.seq (.reg [o_ 20 (w_ 1 5),c_ 21 40 [(.t 20)],o_ 6 (.alloc [.nilS,.nilS,.nilS]),s_ 6 21 3])
 (.seq (.reg [o_ 7 (.mov (.k .nilS))])
 (.seq (.seq (.reg [o_ 8 (.mov (i_ 0))])
 (.blk 2 (.loop [1,3,4,5,6,7,8] L37_0)))
 (.reg [v_ 60 4,v_ 61 7,o_ 62 (.bslice 1 [.nilS] 1 [(0,1,(.t 61))]),o_ 63 (.app 1 [.nilS] 24 (.t 60) (.t 62)),v_ 4 63])))))
 (.reg [v_ 18 5,j_ 19 18,v_ 5 19])))
def mf37 : SF := ⟨65,[(.t 2)],
 (.seq (.reg [o_ 1 (.box (.t 0) 5),o_ 2 (.mov (.k .nilS))])
 (.seq (.reg [o_ 11 (w_ 1 5),c_ 12 87 [(.t 11)],v_ 3 12])
 (.seq (.reg [o_ 4 (.mov (.k .nilS))])
 (.seq (.seq (.reg [o_ 5 (.mov (i_ 0))])
 (.blk 0 (.loop [1,3,4,5] L37_1)))
 (.seq (.reg [v_ 64 4,v_ 2 64])
 .ret)))))⟩
def mf38 : SF := ⟨13,[(.c 4 (some 5))],
 (.seq (.reg [o_ 2 (.box (.t 0) 5),o_ 4 (.alloc [.nilS,.nilS,.nilS,.nilS,.nilS])])
 (.seq (.reg [o_ 5 (a_ 2 4),y_ 6 5,v_ 7 1,z_ 8 1 6 7,y_ 9 8,o_ 10 (.bslice 1 [.nilS] 1 [(0,1,(.t 9))]),o_ 11 (a_ 2 4),s_ 11 10 1])
 (.seq (.reg [o_ 12 (w_ 2 5),s_ 4 12 5])
 .ret)))⟩
def D40_0 : List MIx := [o_ 13 (.addr (.t 3) 0),o_ 14 (l_ 13),o_ 15 (.addr (.t 1) 2),o_ 16 (l_ 15),o_ 17 (m_ 4),o_ 18 (.idxs 5 (.t 16) (.t 17)),o_ 19 (.addr (.t 18) 0),o_ 20 (l_ 19),o_ 21 (.bslice 1 [(.int .i64 0)] 1 [(0,1,(.t 20))]),o_ 22 (.app 1 [(.int .i64 0)] 8 (.t 14) (.t 21)),o_ 23 (.addr (.t 3) 1),o_ 24 (l_ 23),o_ 25 (.bslice 1 [(.int .i64 0)] 1 [(0,1,(i_ 0))]),o_ 26 (.app 1 [(.int .i64 0)] 8 (.t 24) (.t 25)),o_ 27 (.addr (.t 3) 0),.op none none (.store (.t 27) (.t 22) 1),o_ 28 (.addr (.t 3) 1),.op none none (.store (.t 28) (.t 26) 1)]
def B40_0 : List (List Nat) := [[],[0],[],[2],[],[3,2,4],[5,3,2,4],[6,5,3,2,4],[7,6,5,3,2,4],[1,0,8,7,6,5,3,2,4],[],[10],[],[11,10,12,9,1,0,8,7,6,5,3,2,4],[0,1,2,3,4,5,6,7,8,9,10,11],[14,0,1,2,3,4,5,6,7,8,9,10,11,13,12],[0,1,2,3,4,5,6,7,8,9,10,11,12,13,14,15],[16,0,1,2,3,4,5,6,7,8,9,10,11,12,13,14,15]]
def L40_0 : SC := (.seq (.seq (.reg [v_ 6 4,o_ 7 (a_ 1 2),y_ 8 7,o_ 9 (n_ 8),o_ 10 (.bin .lss (.t 6) (.t 9))])
 (.cond (.t 10) .skip
 (.exit 0)))
 (.seq (.blk 1 (.draw [] D40_0 B40_0))
 (.reg [v_ 11 4,j_ 12 11,v_ 4 12])))
def D40_1 : List MIx := [o_ 36 (.addr (.t 3) 2),o_ 37 (l_ 36),o_ 38 (.addr (.t 1) 3),o_ 39 (l_ 38),o_ 40 (m_ 5),o_ 41 (.idxs 5 (.t 39) (.t 40)),o_ 42 (.addr (.t 41) 0),o_ 43 (l_ 42),o_ 44 (.bslice 1 [(.int .i64 0)] 1 [(0,1,(.t 43))]),o_ 45 (.app 1 [(.int .i64 0)] 8 (.t 37) (.t 44)),o_ 46 (.addr (.t 3) 2),.op none none (.store (.t 46) (.t 45) 1)]
def B40_1 : List (List Nat) := [[],[0],[],[2],[],[3,2,4],[5,3,2,4],[6,5,3,2,4],[7,6,5,3,2,4],[1,0,8,7,6,5,3,2,4],[0,1,2,3,4,5,6,7,8,9],[10,0,1,2,3,4,5,6,7,8,9]]
def L40_1 : SC := (.seq (.seq (.reg [v_ 29 5,o_ 30 (a_ 1 3),y_ 31 30,o_ 32 (n_ 31),o_ 33 (.bin .lss (.t 29) (.t 32))])
 (.cond (.t 33) .skip
 (.exit 2)))
 (.seq (.blk 3 (.draw [] D40_1 B40_1))
 (.reg [v_ 34 5,j_ 35 34,v_ 5 35])))
def mf40 : SF := ⟨48,[(.c 2 (some 3))],
 (.seq (.reg [o_ 1 (.box (.t 0) 5),o_ 2 (.alloc [.nilS,.nilS,.nilS])])
 (.seq (.reg [o_ 3 (.alloc [.nilS,.nilS,.nilS])])
 (.seq (.seq (.reg [o_ 4 (.mov (i_ 0))])
 (.blk 0 (.loop [1,2,3,4] L40_0)))
 (.seq (.seq (.reg [o_ 5 (.mov (i_ 0))])
 (.blk 2 (.loop [1,2,3,5] L40_1)))
 (.seq (.reg [o_ 47 (w_ 3 3),s_ 2 47 3])
 .ret)))))⟩
def mf42 : SF := ⟨8,[(.t 2)],
 (.seq (.reg [o_ 1 (.box (.t 0) 5),o_ 2 (.mov (i_ 0))])
 (.seq (.reg [o_ 3 (a_ 1 4),y_ 4 3,o_ 5 (.idxs 1 (.t 4) (i_ 0)),y_ 6 5,o_ 7 (n_ 6),v_ 2 7])
 .ret))⟩
def L43_0 : SC := (.seq (.seq (.reg [v_ 9 8,o_ 10 (a_ 3 4),y_ 11 10,o_ 12 (n_ 11),o_ 13 (.bin .lss (.t 9) (.t 12))])
 (.cond (.t 13) .skip
 (.exit 0)))
 (.seq (.blk 1 (.seq (.reg [o_ 16 (w_ 3 5),v_ 17 1,v_ 18 8,v_ 19 2,c_ 20 46 [(.t 16),(.t 17),(.t 18),(.t 19)]])
 (.cond (.t 20) (.reg [v_ 21 7,v_ 22 8,o_ 23 (.bslice 1 [(.int .i64 0)] 1 [(0,1,(.t 22))]),o_ 24 (.app 1 [(.int .i64 0)] 8 (.t 21) (.t 23)),v_ 7 24])
 .skip)))
 (.reg [v_ 14 8,j_ 15 14,v_ 8 15])))
def mf43 : SF := ⟨26,[(.t 6)],
 (.seq (.reg [o_ 3 (.box (.t 0) 5),o_ 6 (.mov (.k .nilS))])
 (.seq (.reg [o_ 7 (.mov (.k .nilS))])
 (.seq (.seq (.reg [o_ 8 (.mov (i_ 0))])
 (.blk 0 (.loop [1,2,3,7,8] L43_0)))
 (.seq (.reg [v_ 25 7,v_ 6 25])
 .ret))))⟩
def L46_0 : SC := (.seq (.seq (.reg [v_ 10 9,v_ 11 3,o_ 12 (.bin .leq (.t 10) (.t 11))])
 (.cond (.t 12) .skip
 (.exit 0)))
 (.seq (.blk 1 (.seq (.draw [true] [o_ 15 (a_ 4 4),y_ 16 15,v_ 17 1,z_ 18 1 16 17,y_ 19 18,v_ 20 9,z_ 21 1 19 20,y_ 22 21,o_ 23 (a_ 4 4),y_ 24 23,v_ 25 2,z_ 26 1 24 25,y_ 27 26,v_ 28 9,z_ 29 1 27 28,y_ 30 29,o_ 31 (.bin .neq (.t 22) (.t 30))] [[],[0],[],[1,0,2],[3,1,0,2],[],[4,3,1,0,2,5],[6,4,3,1,0,2,5],[],[8],[],[9,8,10],[11,9,8,10],[],[12,11,9,8,10,13],[14,12,11,9,8,10,13],[7,6,4,3,1,0,2,5,15,14,12,11,9,8,10,13]])
 (.cond (.t 31) (.seq (.reg [o_ 8 (b_ false)])
 .ret)
 .skip)))
 (.reg [v_ 13 9,j_ 14 13,v_ 9 14])))
def mf46 : SF := ⟨32,[(.t 8)],
 (.seq (.reg [o_ 4 (.box (.t 0) 5),o_ 8 (b_ false)])
 (.seq (.seq (.reg [o_ 9 (.mov (i_ 0))])
 (.blk 0 (.loop [1,2,3,4,9] L46_0)))
 (.seq (.reg [o_ 8 (b_ true)])
 .ret)))⟩
def L47_0 : SC := (.seq (.seq (.reg [v_ 11 5,v_ 12 0,o_ 13 (n_ 12),o_ 14 (.bin .lss (.t 11) (.t 13))])
 (.cond (.t 14) .skip
 (.exit 0)))
 (.seq (.blk 1 (.seq (.draw [true] [v_ 17 0,v_ 18 5,z_ 19 2 17 18,o_ 20 (a_ 19 0),y_ 21 20,v_ 22 1,v_ 23 5,z_ 24 2 22 23,o_ 25 (a_ 24 0),y_ 26 25,o_ 27 (.bin .neq (.t 21) (.t 26)),v_ 28 27,q_ 29 28 false (m_ 0),q_ 30 28 false (m_ 5),q_ 31 28 false (x_ 2 29 30),q_ 32 28 false (a_ 31 1),q_ 33 28 false (l_ 32),q_ 34 28 false (m_ 1),q_ 35 28 false (m_ 5),q_ 36 28 false (x_ 2 34 35),q_ 37 28 false (a_ 36 1),q_ 38 28 false (l_ 37),d_ 39 28 false 26 [(.t 33),(.t 38)],q_ 40 28 false (.un .not (.t 39)),o_ 41 (r_ 28 40)] [[],[],[0,1],[2,0,1],[3,2,0,1],[],[],[5,6],[7,5,6],[8,7,5,6],[4,3,2,0,1,9,8,7,5,6],[10,4,3,2,0,1,9,8,7,5,6],[11,10,4,3,2,0,1,9,8,7,5,6],[11,10,4,3,2,0,1,9,8,7,5,6],[12,11,10,4,3,2,0,1,9,8,7,5,6,13],[14,12,11,10,4,3,2,0,1,9,8,7,5,6,13],[15,14,12,11,10,4,3,2,0,1,9,8,7,5,6,13],[11,10,4,3,2,0,1,9,8,7,5,6],[11,10,4,3,2,0,1,9,8,7,5,6],[17,11,10,4,3,2,0,1,9,8,7,5,6,18],[19,17,11,10,4,3,2,0,1,9,8,7,5,6,18],[20,19,17,11,10,4,3,2,0,1,9,8,7,5,6,18],[16,15,14,12,11,10,4,3,2,0,1,9,8,7,5,6,13,21,20,19,17,18],[22,16,15,14,12,11,10,4,3,2,0,1,9,8,7,5,6,13,21,20,19,17,18],[11,10,4,3,2,0,1,9,8,7,5,6,23,22,16,15,14,12,13,21,20,19,17,18]])
 (.cond (.t 41) (.seq (.reg [o_ 4 (b_ false)])
 .ret)
 .skip)))
 (.reg [v_ 15 5,j_ 16 15,v_ 5 16])))
def mf47 : SF := ⟨42,[(.t 4)],
 (.seq (.reg [o_ 4 (b_ false)])
 (.seq (.seq (.reg [v_ 6 0,o_ 7 (n_ 6),v_ 8 1,o_ 9 (n_ 8),o_ 10 (.bin .neq (.t 7) (.t 9))])
 (.cond (.t 10) (.seq (.reg [o_ 4 (b_ false)])
 .ret)
 .skip))
 (.seq (.seq (.reg [o_ 5 (.mov (i_ 0))])
 (.blk 0 (.loop [0,1,5] L47_0)))
 (.seq (.reg [o_ 4 (b_ true)])
 .ret))))⟩
def L54_0 : SC := (.seq (.seq (.reg [v_ 8 6,o_ 9 (a_ 3 0),y_ 10 9,o_ 11 (n_ 10),o_ 12 (.bin .lss (.t 8) (.t 11))])
 (.cond (.t 12) .skip
 (.exit 0)))
 (.seq (.blk 1 (.seq (.draw [true] [o_ 15 (a_ 3 0),y_ 16 15,v_ 17 6,z_ 18 1 16 17,y_ 19 18,o_ 20 (a_ 2 2),y_ 21 20,v_ 22 6,z_ 23 5 21 22,o_ 24 (a_ 23 1),y_ 25 24,o_ 26 (.bin .neq (.t 19) (.t 25))] [[],[0],[],[1,0,2],[3,1,0,2],[],[5],[],[6,5,7],[8,6,5,7],[9,8,6,5,7],[4,3,1,0,2,10,9,8,6,5,7]])
 (.cond (.t 26) (.reg [v_ 27 5,o_ 28 (a_ 2 2),y_ 29 28,v_ 30 6,z_ 31 5 29 30,o_ 32 (a_ 31 4),y_ 33 32,o_ 34 (.bin .add (.t 27) (.t 33)),v_ 5 34])
 .skip)))
 (.reg [v_ 13 6,j_ 14 13,v_ 6 14])))
def L54_1 : SC := (.seq (.seq (.reg [v_ 35 7,o_ 36 (a_ 3 2),y_ 37 36,o_ 38 (n_ 37),o_ 39 (.bin .lss (.t 35) (.t 38))])
 (.cond (.t 39) .skip
 (.exit 2)))
 (.seq (.blk 3 (.seq (.seq (.draw [true] [o_ 42 (a_ 3 2),y_ 43 42,v_ 44 7,z_ 45 1 43 44,y_ 46 45,o_ 47 (a_ 2 3),y_ 48 47,v_ 49 7,z_ 50 5 48 49,o_ 51 (a_ 50 1),y_ 52 51,o_ 53 (.bin .eql (.t 46) (.t 52))] [[],[0],[],[1,0,2],[3,1,0,2],[],[5],[],[6,5,7],[8,6,5,7],[9,8,6,5,7],[4,3,1,0,2,10,9,8,6,5,7]])
 (.cond (.t 53) (.exit 3)
 .skip))
 (.seq (.draw [true] [o_ 54 (a_ 2 0),y_ 55 54,o_ 56 (a_ 3 2),y_ 57 56,v_ 58 7,z_ 59 1 57 58,y_ 60 59,z_ 61 2 55 60,o_ 62 (a_ 61 1),y_ 63 62] [[],[0],[],[2],[],[3,2,4],[5,3,2,4],[1,0,6,5,3,2,4],[7,1,0,6,5,3,2,4],[8,7,1,0,6,5,3,2,4]])
 (.cond (.t 63) (.reg [v_ 64 5,o_ 65 (a_ 2 3),y_ 66 65,v_ 67 7,z_ 68 5 66 67,o_ 69 (a_ 68 4),y_ 70 69,o_ 71 (.bin .add (.t 64) (.t 70)),v_ 5 71])
 (.reg [v_ 72 5,o_ 73 (a_ 2 3),y_ 74 73,v_ 75 7,z_ 76 5 74 75,o_ 77 (a_ 76 3),y_ 78 77,o_ 79 (.bin .add (.t 72) (.t 78)),v_ 5 79])))))
 (.reg [v_ 40 7,j_ 41 40,v_ 7 41])))
def mf54 : SF := ⟨81,[(.t 4)],
 (.seq (.reg [o_ 2 (.box (.t 0) 5),o_ 3 (.box (.t 1) 3),o_ 4 (.mov (i_ 0))])
 (.seq (.reg [o_ 5 (.mov (i_ 0))])
 (.seq (.seq (.reg [o_ 6 (.mov (i_ 0))])
 (.blk 0 (.loop [2,3,5,6] L54_0)))
 (.seq (.seq (.reg [o_ 7 (.mov (i_ 0))])
 (.blk 2 (.loop [2,3,5,7] L54_1)))
 (.seq (.reg [v_ 80 5,v_ 4 80])
 .ret)))))⟩
def L56_0 : SC := (.seq (.seq (.reg [v_ 16 11,v_ 17 3,o_ 18 (n_ 17),o_ 19 (.bin .lss (.t 16) (.t 18))])
 (.cond (.t 19) .skip
 (.exit 0)))
 (.seq (.blk 1 (.seq (.reg [o_ 22 (w_ 4 5),o_ 23 (w_ 5 3),v_ 24 2,v_ 25 3,v_ 26 11,c_ 27 96 [(.t 22),(.t 23),(.t 24),(.t 25),(.t 26)],v_ 12 27])
 (.seq (.reg [v_ 28 12,o_ 29 (.bin .neq (.t 28) (i_ 1))])
 (.cond (.t 29) (.seq (.reg [o_ 30 (w_ 5 3),v_ 31 12,v_ 32 11,s_ 8 30 3,v_ 9 31,v_ 10 32])
 .ret)
 .skip))))
 (.reg [v_ 20 11,j_ 21 20,v_ 11 21])))
def D56_0 : List MIx := [o_ 33 (.addr (.t 5) 0),o_ 34 (l_ 33),o_ 35 (.app 1 [(.int .i64 0)] 8 (.k .nilS) (.t 34)),o_ 36 (.addr (.t 5) 1),o_ 37 (l_ 36),o_ 38 (.app 1 [(.int .i64 0)] 8 (.k .nilS) (.t 37)),o_ 39 (.addr (.t 5) 2),o_ 40 (l_ 39),o_ 41 (.app 1 [(.int .i64 0)] 8 (.k .nilS) (.t 40)),o_ 42 (.build [.nilS,.nilS,.nilS] [(0,1,(.t 35)),(1,1,(.t 38)),(2,1,(.t 41))]),o_ 13 (.alloc [.nilS,.nilS,.nilS]),.op none none (.store (.t 13) (.t 42) 3)]
def B56_0 : List (List Nat) := [[],[0],[1,0],[],[3],[4,3,2,1,0],[],[6],[7,6,5,4,3,2,1,0],[2,1,0,5,4,3,8,7,6],[],[10,9,2,1,0,5,4,3,8,7,6]]
def D56_1 : List MIx := [o_ 55 (.addr (.t 13) 0),o_ 56 (l_ 55),o_ 57 (m_ 14),o_ 58 (.addr (.t 13) 1),o_ 59 (l_ 58),o_ 60 (m_ 14),o_ 61 (m_ 3),o_ 62 (m_ 14),o_ 63 (.idxs 2 (.t 61) (.t 62)),o_ 64 (.addr (.t 63) 0),o_ 65 (l_ 64),o_ 66 (.addr (.t 13) 1),o_ 67 (l_ 66),o_ 68 (m_ 14),o_ 69 (.idxs 1 (.t 67) (.t 68)),o_ 70 (l_ 69),o_ 71 (.bin .add (.t 70) (i_ 1)),o_ 72 (.idxs 1 (.t 56) (.t 57)),.op none none (.store (.t 72) (.t 65) 1),o_ 73 (.idxs 1 (.t 59) (.t 60)),.op none none (.store (.t 73) (.t 71) 1)]
def B56_1 : List (List Nat) := [[],[0],[],[],[3],[],[],[],[6,7],[8,6,7],[9,8,6,7],[],[11],[],[12,11,13],[14,12,11,13],[15,14,12,11,13],[1,0,2,6,7,8,9,10,15,14,12,11,13],[17,1,0,2,6,7,8,9,10,15,14,12,11,13],[4,3,5,0,1,2,6,7,8,9,10,11,12,13,14,15,16,17,18],[19,4,3,5,0,1,2,6,7,8,9,10,11,12,13,14,15,16,17,18]]
def L56_1 : SC := (.seq (.seq (.reg [v_ 74 15,v_ 75 3,v_ 76 14,z_ 77 2 75 76,o_ 78 (a_ 77 1),y_ 79 78,o_ 80 (n_ 79),o_ 81 (.bin .lss (.t 74) (.t 80))])
 (.cond (.t 81) .skip
 (.exit 4)))
 (.seq (.blk 5 (.draw [true] [o_ 84 (a_ 13 2),y_ 85 84,v_ 86 3,v_ 87 14,z_ 88 2 86 87,o_ 89 (a_ 88 1),y_ 90 89,v_ 91 15,z_ 92 1 90 91,y_ 93 92,v_ 94 3,v_ 95 14,z_ 96 2 94 95,o_ 97 (a_ 96 0),y_ 98 97,z_ 99 1 85 93,s_ 99 98 1] [[],[0],[],[],[2,3],[4,2,3],[5,4,2,3],[],[6,5,4,2,3,7],[8,6,5,4,2,3,7],[],[],[10,11],[12,10,11],[13,12,10,11],[1,0,9,8,6,5,4,2,3,7,10,11,12,13,14],[15,1,0,9,8,6,5,4,2,3,7,10,11,12,13,14]]))
 (.reg [v_ 82 15,j_ 83 82,v_ 15 83])))
def L56_2 : SC := (.seq (.seq (.reg [v_ 43 14,v_ 44 3,o_ 45 (n_ 44),o_ 46 (.bin .lss (.t 43) (.t 45))])
 (.cond (.t 46) .skip
 (.exit 2)))
 (.seq (.blk 3 (.seq (.seq (.reg [v_ 49 3,v_ 50 14,z_ 51 2 49 50,o_ 52 (a_ 51 0),y_ 53 52,o_ 54 (.bin .lss (.t 53) (i_ 0))])
 (.cond (.t 54) (.exit 3)
 .skip))
 (.seq (.draw [] D56_1 B56_1)
 (.seq (.reg [o_ 15 (.mov (i_ 0))])
 (.blk 4 (.loop [3,4,5,8,13,14,15] L56_1))))))
 (.reg [v_ 47 14,j_ 48 47,v_ 14 48])))
def mf56 : SF := ⟨106,[(.c 8 (some 3)),(.t 9),(.t 10)],
 (.seq (.reg [o_ 4 (.box (.t 0) 5),o_ 5 (.box (.t 1) 3),o_ 8 (.alloc [.nilS,.nilS,.nilS]),o_ 9 (.mov (i_ 0)),o_ 10 (.mov (i_ 0))])
 (.seq (.seq (.reg [o_ 11 (.mov (i_ 0))])
 (.blk 0 (.loop [2,3,4,5,8,11] L56_0)))
 (.seq (.draw [] D56_0 B56_0)
 (.seq (.seq (.reg [o_ 14 (.mov (i_ 0))])
 (.blk 2 (.loop [3,4,5,8,13,14] L56_2)))
 (.seq (.seq (.reg [o_ 100 (w_ 4 5),o_ 101 (a_ 13 0),y_ 102 101,c_ 103 85 [(.t 100),(.t 102)]])
 (.cond (.t 103) (.seq (.reg [o_ 104 (w_ 5 3),s_ 8 104 3,o_ 9 (.mov (i_ 7)),o_ 10 (.mov (i_ (-1)))])
 .ret)
 .skip))
 (.seq (.reg [o_ 105 (w_ 13 3),s_ 8 105 3,o_ 9 (.mov (i_ 1)),o_ 10 (.mov (i_ (-1)))])
 .ret))))))⟩
def mf60 : SF := ⟨17,[(.c 0 (some 2))],
 (.seq (.reg [o_ 0 (.alloc [.nilS,.nilS])])
 (.seq (.reg [o_ 1 (.build [(.int .i64 0),(.int .i64 0)] [(0,1,(i_ 480)),(1,1,(i_ 600))]),o_ 2 (.bslice 2 [(.int .i64 0),(.int .i64 0)] 1 [(0,2,(.t 1))]),o_ 3 (.build [.nilS,(.int .i64 0)] [(0,1,(.t 2))]),o_ 4 (.build [(.int .i64 0),(.int .i64 0)] [(0,1,(i_ 500)),(1,1,(i_ 560))]),o_ 5 (.build [(.int .i64 0),(.int .i64 0)] [(0,1,(i_ 640)),(1,1,(i_ 700))]),o_ 6 (.bslice 2 [(.int .i64 0),(.int .i64 0)] 2 [(0,2,(.t 4)),(2,2,(.t 5))]),o_ 7 (.build [.nilS,(.int .i64 0)] [(0,1,(.t 6)),(1,1,(i_ 10))]),o_ 8 (.build [(.int .i64 0),(.int .i64 0)] [(0,1,(i_ 520)),(1,1,(i_ 580))]),o_ 9 (.build [(.int .i64 0),(.int .i64 0)] [(0,1,(i_ 690)),(1,1,(i_ 760))]),o_ 10 (.bslice 2 [(.int .i64 0),(.int .i64 0)] 2 [(0,2,(.t 8)),(2,2,(.t 9))]),o_ 11 (.build [.nilS,(.int .i64 0)] [(0,1,(.t 10))]),o_ 12 (.bslice 2 [.nilS,(.int .i64 0)] 3 [(0,2,(.t 3)),(2,2,(.t 7)),(4,2,(.t 11))]),o_ 13 (.build [(.int .i64 0),(.int .i64 0)] [(0,1,(i_ 30)),(1,1,(i_ 40))]),o_ 14 (.build [(.int .i64 0),(.int .i64 0)] [(0,1,(i_ 20)),(1,1,(i_ 50))]),o_ 15 (.bslice 2 [(.int .i64 0),(.int .i64 0)] 2 [(0,2,(.t 13)),(2,2,(.t 14))]),o_ 16 (.build [.nilS,.nilS] [(0,1,(.t 12)),(1,1,(.t 15))]),s_ 0 16 2])
 .ret))⟩
def mf61 : SF := ⟨16,[(.c 0 (some 5))],
 (.seq (.reg [o_ 0 (.alloc [.nilS,.nilS,.nilS,.nilS,.nilS])])
 (.seq (.reg [o_ 1 (.build [(.int .i64 0),(.bool false)] [(0,1,(i_ 2)),(1,1,(.k (.bool true)))]),o_ 2 (.build [(.int .i64 0),(.bool false)] [(0,1,(i_ 1))]),o_ 3 (.build [(.int .i64 0),(.bool false)] [(0,1,(i_ 1)),(1,1,(.k (.bool true)))]),o_ 4 (.bslice 2 [(.int .i64 0),(.bool false)] 3 [(0,2,(.t 1)),(2,2,(.t 2)),(4,2,(.t 3))]),o_ 5 (.build [(.int .i64 0),(.int .i64 0)] [(0,1,(i_ 0)),(1,1,(i_ 1))]),o_ 6 (.build [(.int .i64 0),(.int .i64 0)] [(0,1,(i_ 0)),(1,1,(i_ 2))]),o_ 7 (.bslice 2 [(.int .i64 0),(.int .i64 0)] 2 [(0,2,(.t 5)),(2,2,(.t 6))]),o_ 8 (.build [(.int .i64 0),(.int .i64 0),(.int .i64 0),(.int .i64 0),(.int .i64 0)] [(2,1,(i_ 2)),(3,1,(i_ 3)),(4,1,(i_ 3))]),o_ 9 (.bslice 5 [(.int .i64 0),(.int .i64 0),(.int .i64 0),(.int .i64 0),(.int .i64 0)] 1 [(0,5,(.t 8))]),o_ 10 (.build [(.int .i64 0),(.int .i64 0),(.int .i64 0),(.int .i64 0),(.int .i64 0)] [(0,1,(i_ 1)),(2,1,(i_ 1)),(3,1,(i_ 10)),(4,1,(i_ 4))]),o_ 11 (.bslice 5 [(.int .i64 0),(.int .i64 0),(.int .i64 0),(.int .i64 0),(.int .i64 0)] 1 [(0,5,(.t 10))]),o_ 12 (.bslice 1 [(.int .i64 0)] 3 [(0,1,(i_ 7)),(1,1,(i_ 7)),(2,1,(i_ 7))]),o_ 13 (.bslice 1 [(.int .i64 0)] 3 [(0,1,(i_ 7)),(1,1,(i_ 5)),(2,1,(i_ 7))]),o_ 14 (.bslice 1 [.nilS] 2 [(0,1,(.t 12)),(1,1,(.t 13))]),o_ 15 (.build [.nilS,.nilS,.nilS,.nilS,.nilS] [(0,1,(.t 4)),(1,1,(.t 7)),(2,1,(.t 9)),(3,1,(.t 11)),(4,1,(.t 14))]),s_ 0 15 5])
 .ret))⟩
def mf62 : SF := ⟨31,[(.t 2)],
 (.seq (.reg [o_ 1 (.box (.t 0) 2),o_ 2 (b_ false)])
 (.seq (.reg [o_ 5 (a_ 1 0),y_ 6 5,c_ 7 100 [(.t 6),(f_ 101)],v_ 3 7])
 (.seq (.reg [o_ 8 (a_ 1 1),y_ 9 8,c_ 10 102 [(.t 9),(f_ 105)],v_ 4 10])
 (.seq (.reg [o_ 11 (a_ 1 0),y_ 12 11,o_ 13 (n_ 12),c_ 14 68 [(.t 13),(i_ 2),(i_ 8)],v_ 15 14,q_ 16 15 true (a_ 1 1),q_ 17 15 true (l_ 16),q_ 18 15 true (n_ 17),q_ 19 15 true (a_ 1 0),q_ 20 15 true (l_ 19),q_ 21 15 true (n_ 20),q_ 22 15 true (.bin .sub (.t 21) (i_ 1)),q_ 23 15 true (.bin .eql (.t 18) (.t 22)),o_ 24 (p_ 15 23),v_ 25 24,q_ 26 25 true (m_ 3),o_ 27 (p_ 25 26),v_ 28 27,q_ 29 28 true (m_ 4),o_ 30 (p_ 28 29),v_ 2 30])
 .ret))))⟩
def D63_80 : List MIx := [o_ 21 (m_ 3),o_ 22 (m_ 4),o_ 23 (m_ 5),o_ 24 (.addr (.t 1) 0),o_ 25 (l_ 24),o_ 26 (m_ 4),o_ 27 (.idxs 2 (.t 25) (.t 26)),o_ 28 (.load (.t 27) (some 2)),o_ 29 (m_ 5),.call (some 30) none (f_ 72) [(.t 28),(.t 29)],o_ 31 (m_ 30),q_ 32 31 true (.load (.t 1) (some 2)),q_ 33 31 true (m_ 3),q_ 34 31 true (m_ 4),q_ 35 31 true (m_ 5),.call (some 36) (some (31,true)) (f_ 73) [(.t 32),(.t 33),(.t 34),(.t 35)],q_ 37 31 true (.bin .lss (.t 36) (i_ 0)),o_ 38 (.pick (.t 31) (.t 37) (.k (.bool false))),o_ 39 (.idxs 1441 (.t 21) (.t 22)),o_ 40 (.idxa 1441 1 (.t 39) (.t 23)),.op none none (.store (.t 40) (.t 38) 1)]
def B63_80 : List (List Nat) := [[],[],[],[],[3],[],[4,3,5],[6,4,3,5],[],[7,6,4,3,5,8],[9,7,6,4,3,5,8],[10,9,7,6,4,3,5,8],[10,9,7,6,4,3,5,8],[10,9,7,6,4,3,5,8],[10,9,7,6,4,3,5,8],[11,10,9,7,6,4,3,5,8,12,13,14],[15,11,10,9,7,6,4,3,5,8,12,13,14],[10,9,7,6,4,3,5,8,16,15,11,12,13,14],[0,1],[18,0,1,2,3,4,5,6,7,8,9,10,11,12,13,14,15,16,17],[19,18,0,1,2,3,4,5,6,7,8,9,10,11,12,13,14,15,16,17]]
def L63_0 : SC := (.seq (.reg [o_ 19 (.bin .lss (.t 18) (i_ 1441))])
 (.seq (.cond (.t 19) .skip
 (.exit 2))
 (.seq (.blk 3 (.seq (.reg [v_ 20 18,v_ 5 20])
 (.draw [] D63_80 B63_80)))
 (.reg [j_ 41 18,v_ 18 41]))))
def L63_1 : SC := (.seq (.seq (.reg [v_ 14 4,o_ 15 (.bin .geq (.t 14) (i_ 0))])
 (.cond (.t 15) .skip
 (.exit 0)))
 (.seq (.blk 1 (.seq (.reg [o_ 18 (.mov (i_ 0))])
 (.blk 2 (.loop [1,3,4,18] L63_0))))
 (.reg [v_ 16 4,o_ 17 (.bin .sub (.t 16) (i_ 1)),v_ 4 17])))
def mf63 : SF := ⟨43,[(.t 2)],
 (.seq (.reg [o_ 1 (.box (.t 0) 2),o_ 2 (.mov (.k .nilS))])
 (.seq (.reg [o_ 6 (a_ 1 1),y_ 7 6,o_ 8 (n_ 7),o_ 9 (.mksl 1441 (List.replicate 1441 (.bool false)) 1441 (.t 8) (.t 8)),v_ 3 9])
 (.seq (.seq (.reg [o_ 10 (a_ 1 1),y_ 11 10,o_ 12 (n_ 11),o_ 13 (.bin .sub (.t 12) (i_ 1)),v_ 4 13])
 (.blk 0 (.loop [1,3,4] L63_1)))
 (.seq (.reg [v_ 42 3,v_ 2 42])
 .ret))))⟩
def L64_0 : SC := (.seq (.reg [o_ 9 (.bin .lss (.t 8) (.t 7))])
 (.seq (.cond (.t 9) .skip
 (.exit 0))
 (.seq (.blk 1 (.seq (.reg [v_ 10 8,z_ 11 1 6 8,y_ 12 11,v_ 4 10,v_ 5 12])
 (.blk 2 (.seq (.reg [v_ 20 5,o_ 21 (.un .not (.t 20)),v_ 19 21])
 (.cond (.t 19) .skip
 (.seq (.reg [v_ 23 3,o_ 24 (n_ 23),o_ 25 (.bin .gtr (.t 24) (i_ 0)),v_ 26 25,q_ 27 26 true (m_ 3),q_ 28 26 true (m_ 3),q_ 29 26 true (n_ 28),q_ 30 26 true (.bin .sub (.t 29) (i_ 1)),q_ 31 26 true (x_ 2 27 30),q_ 32 26 true (a_ 31 1),q_ 33 26 true (l_ 32),q_ 34 26 true (m_ 4),q_ 35 26 true (.bin .sub (.t 34) (i_ 1)),q_ 36 26 true (.bin .eql (.t 33) (.t 35)),o_ 37 (p_ 26 36),v_ 22 37])
 (.cond (.t 22) (.reg [v_ 38 3,v_ 39 3,o_ 40 (n_ 39),o_ 41 (.bin .sub (.t 40) (i_ 1)),v_ 42 4,z_ 43 2 38 41,o_ 44 (a_ 43 1),s_ 44 42 1])
 (.reg [v_ 13 3,v_ 14 4,v_ 15 4,o_ 16 (.build [(.int .i64 0),(.int .i64 0)] [(0,1,(.t 14)),(1,1,(.t 15))]),o_ 17 (.bslice 2 [(.int .i64 0),(.int .i64 0)] 1 [(0,2,(.t 16))]),o_ 18 (.app 2 [(.int .i64 0),(.int .i64 0)] 16 (.t 13) (.t 17)),v_ 3 18]))))))))
 (.reg [j_ 45 8,v_ 8 45]))))
def mf64 : SF := ⟨47,[(.t 2)],
 (.seq (.reg [o_ 2 (.mov (.k .nilS))])
 (.seq (.reg [o_ 3 (.mov (.k .nilS))])
 (.seq (.seq (.reg [v_ 6 0,o_ 7 (n_ 6),o_ 8 (.mov (i_ 0))])
 (.blk 0 (.loop [3,6,7,8] L64_0)))
 (.seq (.reg [v_ 46 3,v_ 2 46])
 .ret))))⟩
def mf66 : SF := ⟨15,[(.t 6)],
 (.seq (.reg [o_ 6 (b_ false)])
 (.seq (.reg [v_ 7 0,v_ 8 1,o_ 9 (.bin .geq (.t 7) (.t 8)),v_ 10 9,q_ 11 10 true (m_ 0),q_ 12 10 true (m_ 2),q_ 13 10 true (.bin .leq (.t 11) (.t 12)),o_ 14 (p_ 10 13),v_ 6 14])
 .ret))⟩
def mf68 : SF := ⟨15,[(.t 6)],
 (.seq (.reg [o_ 6 (b_ false)])
 (.seq (.reg [v_ 7 0,v_ 8 1,o_ 9 (.bin .geq (.t 7) (.t 8)),v_ 10 9,q_ 11 10 true (m_ 0),q_ 12 10 true (m_ 2),q_ 13 10 true (.bin .leq (.t 11) (.t 12)),o_ 14 (p_ 10 13),v_ 6 14])
 .ret))⟩
def L69_0 : SC := (.seq (.reg [o_ 10 (.bin .lss (.t 9) (.t 8))])
 (.seq (.cond (.t 10) .skip
 (.exit 0))
 (.seq (.blk 1 (.seq (.reg [v_ 11 9,z_ 12 1 7 9,y_ 13 12,v_ 5 11,v_ 6 13])
 (.seq (.reg [v_ 14 1,v_ 15 5,v_ 16 6,.call (some 17) none (.t 14) [(.t 15),(.t 16)],o_ 18 (.un .not (.t 17))])
 (.cond (.t 18) (.seq (.reg [o_ 4 (b_ false)])
 .ret)
 .skip))))
 (.reg [j_ 19 9,v_ 9 19]))))
def mf69 : SF := ⟨20,[(.t 4)],
 (.seq (.reg [o_ 4 (b_ false)])
 (.seq (.seq (.reg [v_ 7 0,o_ 8 (n_ 7),o_ 9 (.mov (i_ 0))])
 (.blk 0 (.loop [1,7,8,9] L69_0)))
 (.seq (.reg [o_ 4 (b_ true)])
 .ret)))⟩
def mf70 : SF := ⟨20,[(.t 5)],
 (.seq (.reg [o_ 5 (b_ false)])
 (.seq (.draw [true] [v_ 6 1,o_ 7 (a_ 2 1),y_ 8 7,v_ 9 0,z_ 10 2 8 9,o_ 11 (a_ 10 0),y_ 12 11,o_ 13 (a_ 2 1),y_ 14 13,v_ 15 0,z_ 16 2 14 15,o_ 17 (a_ 16 1),y_ 18 17,c_ 19 68 [(.t 6),(.t 12),(.t 18)],v_ 5 19] [[],[],[1],[],[2,1,3],[4,2,1,3],[5,4,2,1,3],[],[7],[],[8,7,9],[10,8,7,9],[11,10,8,7,9],[0,6,5,4,2,1,3,12,11,10,8,7,9],[13,0,6,5,4,2,1,3,12,11,10,8,7,9]])
 .ret))⟩
def L71_0 : SC := (.seq (.seq (.reg [v_ 8 5,o_ 9 (.bin .lss (.t 8) (i_ 1441))])
 (.cond (.t 9) .skip
 (.exit 0)))
 (.seq (.blk 1 (.seq (.reg [v_ 12 0,v_ 13 5,o_ 14 (.nilck (.t 12)),o_ 15 (.idxa 1441 1 (.t 14) (.t 13)),y_ 16 15])
 (.cond (.t 16) (.seq (.reg [v_ 17 5,v_ 4 17])
 .ret)
 .skip)))
 (.reg [v_ 10 5,j_ 11 10,v_ 5 11])))
def mf71 : SF := ⟨18,[(.t 4)],
 (.seq (.reg [o_ 4 (.mov (i_ 0))])
 (.seq (.seq (.reg [v_ 6 1,o_ 7 (.minmax false [(i_ 0),(.t 6)]),v_ 5 7])
 (.blk 0 (.loop [0,5] L71_0)))
 (.seq (.reg [o_ 4 (.mov (i_ (-1)))])
 .ret)))⟩
def L72_0 : SC := (.seq (.reg [o_ 11 (.bin .lss (.t 10) (.t 9))])
 (.seq (.cond (.t 11) .skip
 (.exit 0))
 (.seq (.blk 1 (.seq (.reg [z_ 12 2 8 10,o_ 13 (w_ 12 2),o_ 6 (.alloc [(.int .i64 0),(.int .i64 0)]),s_ 6 13 2])
 (.seq (.reg [v_ 14 1,o_ 15 (a_ 6 0),y_ 16 15,o_ 17 (a_ 6 1),y_ 18 17,c_ 19 68 [(.t 14),(.t 16),(.t 18)]])
 (.cond (.t 19) (.seq (.reg [o_ 4 (b_ true)])
 .ret)
 .skip))))
 (.reg [j_ 20 10,v_ 10 20]))))
def mf72 : SF := ⟨21,[(.t 4)],
 (.seq (.reg [o_ 2 (.box (.t 0) 2),o_ 4 (b_ false)])
 (.seq (.seq (.reg [o_ 7 (a_ 2 0),y_ 8 7,o_ 9 (n_ 8),o_ 10 (.mov (i_ 0))])
 (.blk 0 (.loop [1,8,9,10] L72_0)))
 (.seq (.reg [o_ 4 (b_ false)])
 .ret)))⟩
def L73_0 : SC := (.seq (.seq (.reg [v_ 18 10,o_ 19 (a_ 4 1),y_ 20 19,y_ 21 6,z_ 22 2 20 21,o_ 23 (a_ 22 1),y_ 24 23,o_ 25 (.bin .leq (.t 18) (.t 24))])
 (.cond (.t 25) .skip
 (.exit 0)))
 (.seq (.blk 1 (.seq (.reg [v_ 28 9,v_ 29 3,v_ 30 10,o_ 31 (.bin .add (.t 29) (.t 30)),.call (some 32) none (.t 28) [(.t 31)],o_ 33 (.un .not (.t 32))])
 (.cond (.t 33) (.seq (.reg [v_ 34 10,v_ 8 34])
 .ret)
 .skip)))
 (.reg [v_ 26 10,j_ 27 26,v_ 10 27])))
def mf73 : SF := ⟨35,[(.t 8)],
 (.seq (.reg [o_ 4 (.box (.t 0) 2),o_ 5 (.box (.t 1) 1),o_ 6 (.box (.t 2) 1),o_ 8 (.mov (i_ 0))])
 (.seq (.reg [o_ 11 (.mkfn (.func 107) [] [(.t 4),(.t 6),(.t 5)]),v_ 9 11])
 (.seq (.seq (.reg [o_ 12 (a_ 4 1),y_ 13 12,y_ 14 6,z_ 15 2 13 14,o_ 16 (a_ 15 0),y_ 17 16,v_ 10 17])
 (.blk 0 (.loop [3,4,6,9,10] L73_0)))
 (.seq (.reg [o_ 8 (.mov (i_ (-1)))])
 .ret))))⟩
def mf76 : SF := ⟨76,[(.t 2)],
 (.seq (.reg [o_ 1 (.box (.t 0) 5),o_ 2 (b_ false)])
 (.seq (.reg [o_ 10 (a_ 1 0),y_ 11 10,o_ 12 (n_ 11),o_ 3 (.alloc [(.int .i64 0)]),s_ 3 12 1])
 (.seq (.reg [o_ 13 (.mkfn (.func 108) [] [(.t 3)]),o_ 4 (.alloc [.nilF]),s_ 4 13 1])
 (.seq (.reg [y_ 14 3,o_ 15 (.mksl 1 [(.int .i64 0)] 8 (.t 14) (.t 14)),o_ 5 (.alloc [.nilS]),s_ 5 15 1])
 (.seq (.reg [o_ 16 (a_ 1 2),y_ 17 16,o_ 18 (.mkfn (.func 110) [] [(.t 4),(.t 5)]),c_ 19 109 [(.t 17),(.t 18)],v_ 6 19])
 (.seq (.reg [o_ 20 (a_ 1 3),y_ 21 20,o_ 22 (.mkfn (.func 112) [] [(.t 4)]),c_ 23 111 [(.t 21),(.t 22)],v_ 7 23])
 (.seq (.reg [o_ 24 (a_ 1 1),y_ 25 24,o_ 26 (.mkfn (.func 114) [] [(.t 4),(.t 1)]),c_ 27 113 [(.t 25),(.t 26)],v_ 8 27])
 (.seq (.reg [o_ 28 (a_ 1 4),y_ 29 28,o_ 30 (.mkfn (.func 118) [] [(.t 1),(.t 3)]),c_ 31 117 [(.t 29),(.t 30)],v_ 9 31])
 (.seq (.reg [y_ 32 3,c_ 33 68 [(.t 32),(i_ 1),(i_ 5)],v_ 34 33,q_ 35 34 true (a_ 1 1),q_ 36 34 true (l_ 35),q_ 37 34 true (n_ 36),q_ 38 34 true (.bin .leq (.t 37) (i_ 20)),o_ 39 (p_ 34 38),v_ 40 39,q_ 41 40 true (a_ 1 2),q_ 42 40 true (l_ 41),q_ 43 40 true (n_ 42),q_ 44 40 true (.bin .leq (.t 43) (i_ 2)),o_ 45 (p_ 40 44),v_ 46 45,q_ 47 46 true (a_ 1 3),q_ 48 46 true (l_ 47),q_ 49 46 true (n_ 48),q_ 50 46 true (.bin .leq (.t 49) (i_ 4)),o_ 51 (p_ 46 50),v_ 52 51,q_ 53 52 true (a_ 1 4),q_ 54 52 true (l_ 53),q_ 55 52 true (n_ 54),d_ 56 52 true 68 [(.t 55),(i_ 1),(i_ 6)],o_ 57 (p_ 52 56),v_ 58 57,q_ 59 58 true (m_ 6),o_ 60 (p_ 58 59),v_ 61 60,q_ 62 61 true (m_ 7),o_ 63 (p_ 61 62),v_ 64 63,q_ 65 64 true (m_ 8),o_ 66 (p_ 64 65),v_ 67 66,q_ 68 67 true (m_ 9),o_ 69 (p_ 67 68),v_ 70 69,q_ 71 70 true (a_ 1 0),q_ 72 70 true (l_ 71),q_ 73 70 true (.mkfn (.func 121) [] [(.t 5)]),d_ 74 70 true 120 [(.t 72),(.t 73)],o_ 75 (p_ 70 74),v_ 2 75])
 .ret)))))))))⟩
def D77_80 : List MIx := [o_ 37 (l_ 4),o_ 38 (.load (.t 9) (some 3)),o_ 39 (.addr (.t 3) 4),o_ 40 (l_ 39),o_ 41 (l_ 11),.call (some 42) none (f_ 81) [(.t 41)],o_ 43 (.idxs 1 (.t 40) (.t 42)),o_ 44 (l_ 43),o_ 45 (l_ 7),o_ 46 (.idxs 1 (.t 44) (.t 45)),o_ 47 (l_ 46),.call (some 48) none (f_ 80) [(.t 37),(.t 38),(.t 47)]]
def B77_80 : List (List Nat) := [[],[],[],[2],[],[4],[3,2,5,4],[6,3,2,5,4],[],[7,6,3,2,5,4,8],[9,7,6,3,2,5,4,8],[0,1,10,9,7,6,3,2,5,4,8]]
def D77_90 : List MIx := [o_ 51 (l_ 4),o_ 52 (l_ 7),o_ 53 (.bin .add (.t 52) (i_ 1)),o_ 54 (l_ 11),o_ 55 (.load (.t 14) (some 3)),.call (some 56) none (f_ 82) [(.t 51),(.t 53),(.t 54),(.t 55)],o_ 57 (l_ 12),o_ 58 (.bin .gtr (.t 56) (.t 57))]
def B77_90 : List (List Nat) := [[],[],[1],[],[],[0,2,1,3,4],[],[5,0,2,1,3,4,6]]
def D77_0 : List MIx := [o_ 70 (l_ 5),o_ 71 (m_ 15),o_ 72 (l_ 5),o_ 73 (m_ 15),o_ 74 (.idxs 1 (.t 72) (.t 73)),o_ 75 (l_ 74),o_ 76 (m_ 13),.call (some 77) none (f_ 83) [(.t 76)],o_ 78 (.bslice 1 [.nilS] 1 [(0,1,(.t 77))]),o_ 79 (.app 1 [.nilS] 24 (.t 75) (.t 78)),o_ 80 (.idxs 1 (.t 70) (.t 71)),.op none none (.store (.t 80) (.t 79) 1)]
def B77_0 : List (List Nat) := [[],[],[],[],[2,3],[4,2,3],[],[6],[7,6],[5,4,2,3,8,7,6],[0,1,2,3,4,5,6,7,8,9],[10,0,1,2,3,4,5,6,7,8,9]]
def L77_0 : SC := (.seq (.reg [o_ 63 (.bin .lss (.t 62) (.t 61))])
 (.seq (.cond (.t 63) .skip
 (.exit 4))
 (.seq (.blk 5 (.seq (.reg [v_ 64 62,v_ 15 64])
 (.seq (.reg [y_ 65 11,v_ 66 15,o_ 67 (.bin .shr (.t 65) (.t 66)),o_ 68 (.bin .and (.t 67) (i_ 1)),o_ 69 (.bin .eql (.t 68) (i_ 1))])
 (.cond (.t 69) (.draw [] D77_0 B77_0)
 .skip))))
 (.reg [j_ 81 62,v_ 62 81]))))
def R77_1a : SC := (.seq (.reg [v_ 13 49])
 (.reg [o_ 14 (.alloc [.nilS,.nilS,.nilS]),s_ 14 50 3]))
def R77_1b : SC := (.blk 3 (.seq (.seq (.draw [] D77_90 B77_90)
 (.cond (.t 58) (.exit 3)
 .skip))
 (.seq (.seq (.reg [o_ 59 (a_ 3 4),y_ 60 59,o_ 61 (n_ 60),o_ 62 (.mov (i_ 0))])
 (.blk 4 (.loop [3,4,5,6,7,9,11,13,14,26,27,28,61,62] L77_0)))
 (.seq (.reg [y_ 82 6,y_ 83 7,j_ 84 83,y_ 85 11,o_ 86 (w_ 14 3),.call (some 87) none (.t 82) [(.t 84),(.t 85),(.t 86)]])
 (.exit 2)))))
def L77_2 : SC := (.seq (.reg [o_ 29 (.bin .lss (.t 28) (.t 27))])
 (.seq (.cond (.t 29) .skip
 (.exit 0))
 (.seq (.blk 1 (.seq (.reg [z_ 30 1 26 28,y_ 31 30,o_ 11 (.alloc [(.int .i64 0)]),s_ 11 31 1])
 (.seq (.reg [y_ 32 4,y_ 33 7,y_ 34 11,o_ 35 (w_ 9 3),c_ 36 79 [(.t 32),(.t 33),(.t 34),(.t 35)],o_ 12 (.alloc [(.int .i64 0)]),s_ 12 36 1])
 (.seq (.draw [] D77_80 B77_80)
 (.blk 2 (.rng (.t 48) #[49,50] (eM (jY 77) [1,1,1,0,0,1,1,0,0,1,1,1,0,0]) (eM (jY 77) [1,1,1,0,0,1,1,0,0,1,1,1,0,1]) R77_1a R77_1b))))))
 (.reg [j_ 88 28,v_ 28 88]))))
def mf77 : SF := ⟨89,[],
 (.seq (.reg [o_ 7 (.box (.t 0) 1),o_ 9 (.box (.t 2) 3)])
 (.seq (.seq (.draw [true] [y_ 16 7,o_ 17 (a_ 3 4),y_ 18 17,o_ 19 (.idxs 1 (.t 18) (i_ 0)),y_ 20 19,o_ 21 (n_ 20),o_ 22 (.bin .eql (.t 16) (.t 21))] [[],[],[1],[2,1],[3,2,1],[4,3,2,1],[0,5,4,3,2,1]])
 (.cond (.t 22) .ret
 .skip))
 (.seq (.reg [y_ 23 4,v_ 24 1,y_ 25 7,c_ 26 78 [(.t 23),(.t 24),(.t 25)],o_ 27 (n_ 26),o_ 28 (.mov (i_ 0))])
 (.blk 0 (.loop [3,4,5,6,7,9,26,27,28] L77_2)))))⟩
def L78_0 : SC := (.seq (.reg [o_ 34 (.bin .lss (.t 33) (.t 32))])
 (.seq (.cond (.t 34) .skip
 (.exit 2))
 (.seq (.blk 3 (.seq (.reg [v_ 35 33,v_ 11 35])
 (.seq (.draw [true] [v_ 36 8,v_ 37 11,o_ 38 (.bin .shr (.t 36) (.t 37)),o_ 39 (.bin .and (.t 38) (i_ 1)),o_ 40 (.bin .eql (.t 39) (i_ 1)),v_ 41 40,q_ 42 41 true (m_ 0),q_ 43 41 true (.nilck (.t 42)),q_ 44 41 true (a_ 43 0),q_ 45 41 true (a_ 44 4),q_ 46 41 true (l_ 45),q_ 47 41 true (m_ 11),q_ 48 41 true (x_ 1 46 47),q_ 49 41 true (l_ 48),q_ 50 41 true (m_ 2),q_ 51 41 true (x_ 1 49 50),q_ 52 41 true (l_ 51),q_ 53 41 true (m_ 0),q_ 54 41 true (.nilck (.t 53)),q_ 55 41 true (a_ 54 0),q_ 56 41 true (a_ 55 4),q_ 57 41 true (l_ 56),q_ 58 41 true (m_ 9),q_ 59 41 true (x_ 1 57 58),q_ 60 41 true (l_ 59),q_ 61 41 true (m_ 2),q_ 62 41 true (x_ 1 60 61),q_ 63 41 true (l_ 62),q_ 64 41 true (.bin .eql (.t 52) (.t 63)),o_ 65 (p_ 41 64)] [[],[],[0,1],[2,0,1],[3,2,0,1],[4,3,2,0,1],[5,4,3,2,0,1],[6,5,4,3,2,0,1],[7,6,5,4,3,2,0,1],[8,7,6,5,4,3,2,0,1],[9,8,7,6,5,4,3,2,0,1],[5,4,3,2,0,1],[10,9,8,7,6,5,4,3,2,0,1,11],[12,10,9,8,7,6,5,4,3,2,0,1,11],[5,4,3,2,0,1],[13,12,10,9,8,7,6,5,4,3,2,0,1,11,14],[15,13,12,10,9,8,7,6,5,4,3,2,0,1,11,14],[5,4,3,2,0,1],[17,5,4,3,2,0,1],[18,17,5,4,3,2,0,1],[19,18,17,5,4,3,2,0,1],[20,19,18,17,5,4,3,2,0,1],[5,4,3,2,0,1],[21,20,19,18,17,5,4,3,2,0,1,22],[23,21,20,19,18,17,5,4,3,2,0,1,22],[5,4,3,2,0,1],[24,23,21,20,19,18,17,5,4,3,2,0,1,22,25],[26,24,23,21,20,19,18,17,5,4,3,2,0,1,22,25],[16,15,13,12,10,9,8,7,6,5,4,3,2,0,1,11,14,27,26,24,23,21,20,19,18,17,22,25],[5,4,3,2,0,1,28,16,15,13,12,10,9,8,7,6,11,14,27,26,24,23,21,20,19,18,17,22,25]])
 (.cond (.t 65) (.reg [v_ 66 10,v_ 67 11,o_ 68 (.bin .shl (i_ 1) (.t 67)),o_ 69 (.bin .or (.t 66) (.t 68)),v_ 10 69])
 .skip))))
 (.reg [j_ 70 33,v_ 33 70]))))
def L78_1 : SC := (.seq (.reg [o_ 20 (.bin .lss (.t 19) (.t 18))])
 (.seq (.cond (.t 20) .skip
 (.exit 0))
 (.seq (.blk 1 (.seq (.reg [v_ 21 19,v_ 9 21])
 (.seq (.seq (.reg [v_ 22 8,v_ 23 9,o_ 24 (.bin .shr (.t 22) (.t 23)),o_ 25 (.bin .and (.t 24) (i_ 1)),o_ 26 (.bin .eql (.t 25) (i_ 0))])
 (.cond (.t 26) (.exit 1)
 .skip))
 (.seq (.reg [o_ 10 (.mov (i_ 0))])
 (.seq (.seq (.reg [v_ 27 0,o_ 28 (.nilck (.t 27)),o_ 29 (a_ 28 0),o_ 30 (a_ 29 4),y_ 31 30,o_ 32 (n_ 31),o_ 33 (.mov (i_ 0))])
 (.blk 2 (.loop [0,2,7,8,9,10,18,19,32,33] L78_0)))
 (.seq (.reg [v_ 71 8,v_ 72 10,o_ 73 (.bin .andNot (.t 71) (.t 72)),v_ 8 73])
 (.reg [v_ 74 7,v_ 75 10,o_ 76 (.bslice 1 [(.int .i64 0)] 1 [(0,1,(.t 75))]),o_ 77 (.app 1 [(.int .i64 0)] 8 (.t 74) (.t 76)),v_ 7 77])))))))
 (.reg [j_ 78 19,v_ 19 78]))))
def mf78 : SF := ⟨80,[(.t 6)],
 (.seq (.reg [o_ 6 (.mov (.k .nilS))])
 (.scope (.seq (.reg [o_ 7 (.mov (.k .nilS))])
 (.seq (.reg [v_ 12 1,v_ 8 12])
 (.seq (.lab 0)
 (.seq (.seq (.reg [v_ 13 0,o_ 14 (.nilck (.t 13)),o_ 15 (a_ 14 0),o_ 16 (a_ 15 4),y_ 17 16,o_ 18 (n_ 17),o_ 19 (.mov (i_ 0))])
 (.blk 0 (.loop [0,2,7,8,18,19] L78_1)))
 (.seq (.reg [v_ 79 7,v_ 6 79])
 .ret)))))))⟩
def D79_81 : List MIx := [o_ 32 (l_ 4),o_ 33 (.load (.t 7) (some 3)),o_ 34 (l_ 4),o_ 35 (.nilck (.t 34)),o_ 36 (.addr (.t 35) 0),o_ 37 (.addr (.t 36) 4),o_ 38 (l_ 37),o_ 39 (l_ 6),.call (some 40) none (f_ 81) [(.t 39)],o_ 41 (.idxs 1 (.t 38) (.t 40)),o_ 42 (l_ 41),o_ 43 (l_ 5),o_ 44 (.idxs 1 (.t 42) (.t 43)),o_ 45 (l_ 44),.call (some 46) none (f_ 80) [(.t 32),(.t 33),(.t 45)]]
def B79_81 : List (List Nat) := [[],[],[],[2],[3,2],[4,3,2],[5,4,3,2],[],[7],[6,5,4,3,2,8,7],[9,6,5,4,3,2,8,7],[],[10,9,6,5,4,3,2,8,7,11],[12,10,9,6,5,4,3,2,8,7,11],[0,1,13,12,10,9,6,5,4,3,2,8,7,11]]
def aCy : SC := (.reg [o_ 14 (.alloc [.nilS,.nilS,.nilS]),s_ 14 48 3])
def R79_0b : SC := (.blk 1 (.seq (.reg [y_ 49 4,y_ 50 5,j_ 51 50,y_ 52 6,o_ 53 (w_ 14 3),c_ 54 82 [(.t 49),(.t 51),(.t 52),(.t 53)],v_ 15 54])
 (.seq (.reg [y_ 55 12,o_ 56 (.bin .lss (.t 55) (i_ 0)),v_ 57 56,q_ 58 57 false (m_ 15),q_ 59 57 false (l_ 12),q_ 60 57 false (.bin .lss (.t 58) (.t 59)),o_ 61 (r_ 57 60)])
 (.cond (.t 61) (.reg [v_ 62 15,s_ 12 62 1])
 .skip))))
def mf79 : SF := ⟨70,[(.t 8)],
 (.seq (.reg [o_ 4 (.box (.t 0) 1),o_ 5 (.box (.t 1) 1),o_ 6 (.box (.t 2) 1),o_ 7 (.box (.t 3) 3),o_ 8 (.mov (i_ 0))])
 (.seq (.reg [y_ 16 4,y_ 17 5,y_ 18 6,o_ 19 (w_ 7 3),c_ 20 122 [(.t 16),(.t 17),(.t 18),(.t 19)],o_ 9 (.alloc [(.int .i64 0),(.int .i64 0),(.int .i64 0),(.int .i64 0),(.int .i64 0),(.int .i64 0),(.int .i64 0),(.int .i64 0),(.int .i64 0),(.int .i64 0)]),s_ 9 20 10])
 (.seq (.seq (.draw [true] [y_ 22 4,o_ 23 (.nilck (.t 22)),o_ 24 (a_ 23 5),y_ 25 24,o_ 26 (w_ 9 10),o_ 27 (.look (true,[true,true,true,true,true,true,true,true,true,true]) (.int .i64 0) true (.t 25) (.t 26)),v_ 21 27,o_ 28 (e_ 21 0),o_ 29 (e_ 21 1),v_ 10 28,v_ 11 29] [[],[0],[1,0],[2,1,0],[],[3,2,1,0,4],[5,3,2,1,0,4],[6,5,3,2,1,0,4],[6,5,3,2,1,0,4],[7,6,5,3,2,1,0,4],[8,6,5,3,2,1,0,4,9,7]])
 (.seq (.reg [v_ 30 11])
 (.cond (.t 30) (.seq (.reg [v_ 31 10,v_ 8 31])
 .ret)
 .skip)))
 (.seq (.reg [o_ 12 (.alloc [(.int .i64 0)]),.op none none (.store (.t 12) (i_ (-1)) 1)])
 (.seq (.seq (.draw [] D79_81 B79_81)
 (.blk 0 (.rng (.t 46) #[47,48] (eM (jY 79) [1,1,1,1,0,1,0,0]) (eM (jY 79) [1,1,1,1,0,1,0,1]) aCy R79_0b)))
 (.seq (.draw [true] [y_ 63 4,o_ 64 (.nilck (.t 63)),o_ 65 (a_ 64 5),y_ 66 65,o_ 67 (w_ 9 10),y_ 68 12,.op none none (.mput (true,[true,true,true,true,true,true,true,true,true,true]) (.t 66) (.t 67) (.t 68))] [[],[0],[1,0],[2,1,0],[],[],[3,2,1,0,4,5]])
 (.seq (.reg [y_ 69 12,v_ 8 69])
 .ret)))))))⟩
def mf80 : SF := ⟨8,[(.t 6)],
 (.seq (.reg [o_ 3 (.box (.t 0) 1),o_ 4 (.box (.t 1) 3),o_ 5 (.box (.t 2) 1),o_ 6 (.mov (.k .nilF))])
 (.seq (.reg [o_ 7 (.mkfn (.func 123) [] [(.t 3),(.t 4),(.t 5)]),v_ 6 7])
 .ret))⟩
def L81_0 : SC := (.seq (.seq (.reg [v_ 4 0,v_ 5 3,o_ 6 (.bin .shr (.t 4) (.t 5)),o_ 7 (.bin .and (.t 6) (i_ 1)),o_ 8 (.bin .eql (.t 7) (i_ 0))])
 (.cond (.t 8) .skip
 (.exit 0)))
 (.blk 1 (.reg [v_ 9 3,j_ 10 9,v_ 3 10])))
def mf81 : SF := ⟨12,[(.t 2)],
 (.seq (.reg [o_ 2 (.mov (i_ 0))])
 (.seq (.reg [o_ 3 (.mov (i_ 0))])
 (.seq (.blk 0 (.loop [0,3] L81_0))
 (.seq (.reg [v_ 11 3,v_ 2 11])
 .ret))))⟩
def L82_0 : SC := (.seq (.reg [o_ 31 (.bin .lss (.t 30) (.t 29))])
 (.seq (.cond (.t 31) .skip
 (.exit 0))
 (.seq (.blk 1 (.seq (.reg [z_ 32 1 28 30,y_ 33 32,v_ 11 33])
 (.reg [v_ 34 9,v_ 35 0,v_ 36 1,v_ 37 11,o_ 38 (w_ 7 3),c_ 39 79 [(.t 35),(.t 36),(.t 37),(.t 38)],o_ 40 (.minmax false [(.t 34),(.t 39)]),v_ 9 40])))
 (.reg [j_ 41 30,v_ 30 41]))))
def mf82 : SF := ⟨43,[(.t 8)],
 (.seq (.reg [o_ 7 (.box (.t 3) 3),o_ 8 (.mov (i_ 0))])
 (.seq (.seq (.reg [v_ 12 1,v_ 13 0,o_ 14 (.nilck (.t 13)),o_ 15 (a_ 14 0),o_ 16 (a_ 15 4),y_ 17 16,o_ 18 (.idxs 1 (.t 17) (i_ 0)),y_ 19 18,o_ 20 (n_ 19),o_ 21 (.bin .eql (.t 12) (.t 20))])
 (.cond (.t 21) (.seq (.reg [v_ 22 0,o_ 23 (w_ 7 3),c_ 24 91 [(.t 22),(.t 23)],v_ 8 24])
 .ret)
 .skip))
 (.seq (.reg [o_ 9 (.mov (i_ 0))])
 (.seq (.seq (.reg [v_ 25 0,v_ 26 2,v_ 27 1,c_ 28 78 [(.t 25),(.t 26),(.t 27)],o_ 29 (n_ 28),o_ 30 (.mov (i_ 0))])
 (.blk 0 (.loop [0,1,7,9,28,29,30] L82_0)))
 (.seq (.reg [v_ 42 9,v_ 8 42])
 .ret)))))⟩
def L83_0 : SC := (.seq (.reg [o_ 10 (.bin .lss (.t 9) (.t 8))])
 (.seq (.cond (.t 10) .skip
 (.exit 0))
 (.seq (.blk 1 (.seq (.reg [v_ 11 9,v_ 4 11])
 (.reg [v_ 12 3,v_ 13 4,v_ 14 3,v_ 15 4,z_ 16 2 14 15,o_ 17 (a_ 16 1),y_ 18 17,c_ 19 127 [(.t 18)],z_ 20 2 12 13,o_ 21 (a_ 20 1),s_ 21 19 1])))
 (.reg [j_ 22 9,v_ 9 22]))))
def mf83 : SF := ⟨24,[(.t 2)],
 (.seq (.reg [o_ 2 (.mov (.k .nilS))])
 (.seq (.reg [v_ 5 0,c_ 6 126 [(.t 5)],v_ 3 6])
 (.seq (.seq (.reg [v_ 7 3,o_ 8 (n_ 7),o_ 9 (.mov (i_ 0))])
 (.blk 0 (.loop [3,8,9] L83_0)))
 (.seq (.reg [v_ 23 3,v_ 2 23])
 .ret))))⟩
def L84_0 : SC := (.seq (.reg [o_ 23 (.bin .lss (.t 22) (.t 21))])
 (.seq (.cond (.t 23) .skip
 (.exit 0))
 (.seq (.blk 1 (.seq (.reg [z_ 24 5 20 22,o_ 25 (w_ 24 5),o_ 5 (.alloc [(.int .i64 0),(.int .i64 0),(.int .i64 0),(.int .i64 0),(.int .i64 0)]),s_ 5 25 5])
 (.reg [o_ 26 (a_ 3 0),y_ 27 26,o_ 28 (a_ 5 0),y_ 29 28,o_ 30 (.bslice 1 [(.int .i64 0)] 1 [(0,1,(.t 29))]),o_ 31 (.app 1 [(.int .i64 0)] 8 (.t 27) (.t 30)),o_ 32 (a_ 3 0),s_ 32 31 1])))
 (.reg [j_ 33 22,v_ 22 33]))))
def L84_1 : SC := (.seq (.reg [o_ 41 (.bin .lss (.t 40) (.t 39))])
 (.seq (.cond (.t 41) .skip
 (.exit 2))
 (.seq (.blk 3 (.seq (.reg [z_ 42 5 38 40,o_ 43 (w_ 42 5),o_ 7 (.alloc [(.int .i64 0),(.int .i64 0),(.int .i64 0),(.int .i64 0),(.int .i64 0)]),s_ 7 43 5])
 (.reg [o_ 44 (a_ 3 2),y_ 45 44,o_ 46 (a_ 7 0),y_ 47 46,o_ 48 (.bslice 1 [(.int .i64 0)] 1 [(0,1,(.t 47))]),o_ 49 (.app 1 [(.int .i64 0)] 8 (.t 45) (.t 48)),o_ 50 (a_ 3 2),s_ 50 49 1])))
 (.reg [j_ 51 40,v_ 40 51]))))
def mf84 : SF := ⟨53,[(.c 2 (some 3))],
 (.seq (.reg [o_ 2 (.alloc [.nilS,.nilS,.nilS])])
 (.seq (.reg [v_ 8 0,o_ 9 (.nilck (.t 8)),o_ 10 (a_ 9 0),o_ 11 (a_ 10 2),y_ 12 11,o_ 13 (n_ 12),o_ 14 (.mksl 1 [(.int .i64 0)] 8 (.t 13) (.t 13)),o_ 15 (.build [.nilS,.nilS,.nilS] [(1,1,(.t 14))]),o_ 3 (.alloc [.nilS,.nilS,.nilS]),s_ 3 15 3])
 (.seq (.seq (.reg [v_ 16 0,o_ 17 (.nilck (.t 16)),o_ 18 (a_ 17 0),o_ 19 (a_ 18 2),y_ 20 19,o_ 21 (n_ 20),o_ 22 (.mov (i_ 0))])
 (.blk 0 (.loop [0,2,3,20,21,22] L84_0)))
 (.seq (.seq (.reg [v_ 34 0,o_ 35 (.nilck (.t 34)),o_ 36 (a_ 35 0),o_ 37 (a_ 36 3),y_ 38 37,o_ 39 (n_ 38),o_ 40 (.mov (i_ 0))])
 (.blk 2 (.loop [2,3,38,39,40] L84_1)))
 (.seq (.reg [o_ 52 (w_ 3 3),s_ 2 52 3])
 .ret)))))⟩
def L85_0 : SC := (.seq (.seq (.reg [v_ 15 7,v_ 16 1,o_ 17 (n_ 16),o_ 18 (.bin .lss (.t 15) (.t 17))])
 (.cond (.t 18) .skip
 (.exit 2)))
 (.seq (.blk 3 (.seq (.reg [v_ 21 1,v_ 22 7,z_ 23 1 21 22,y_ 24 23,v_ 25 5,o_ 26 (.bin .eql (.t 24) (.t 25))])
 (.cond (.t 26) (.reg [v_ 27 6,j_ 28 27,v_ 6 28])
 .skip)))
 (.reg [v_ 19 7,j_ 20 19,v_ 7 20])))
def L85_1 : SC := (.seq (.seq (.reg [v_ 8 5,o_ 9 (a_ 2 0),y_ 10 9,o_ 11 (n_ 10),o_ 12 (.bin .lss (.t 8) (.t 11))])
 (.cond (.t 12) .skip
 (.exit 0)))
 (.seq (.blk 1 (.seq (.reg [o_ 6 (.mov (i_ 0))])
 (.seq (.seq (.reg [o_ 7 (.mov (i_ 0))])
 (.blk 2 (.loop [1,2,5,6,7] L85_0)))
 (.seq (.reg [v_ 29 6,o_ 30 (a_ 2 0),y_ 31 30,v_ 32 5,z_ 33 2 31 32,o_ 34 (a_ 33 0),y_ 35 34,o_ 36 (.bin .gtr (.t 29) (.t 35))])
 (.cond (.t 36) (.seq (.reg [o_ 4 (b_ true)])
 .ret)
 .skip)))))
 (.reg [v_ 13 5,j_ 14 13,v_ 5 14])))
def mf85 : SF := ⟨37,[(.t 4)],
 (.seq (.reg [o_ 2 (.box (.t 0) 5),o_ 4 (b_ false)])
 (.seq (.seq (.reg [o_ 5 (.mov (i_ 0))])
 (.blk 0 (.loop [1,2,5] L85_1)))
 (.seq (.reg [o_ 4 (b_ false)])
 .ret)))⟩
def L86_0 : SC := (.seq (.seq (.reg [v_ 35 15,v_ 36 4,o_ 37 (n_ 36),o_ 38 (.bin .lss (.t 35) (.t 37))])
 (.cond (.t 38) .skip
 (.exit 2)))
 (.seq (.blk 3 (.seq (.draw [true] [o_ 41 (w_ 5 5),v_ 42 12,v_ 43 13,z_ 44 1 42 43,y_ 45 44,v_ 46 4,v_ 47 15,z_ 48 1 46 47,y_ 49 48,v_ 50 3,c_ 51 46 [(.t 41),(.t 45),(.t 49),(.t 50)]] [[],[],[],[1,2],[3,1,2],[],[],[5,6],[7,5,6],[],[0,4,3,1,2,8,7,5,6,9]])
 (.cond (.t 51) (.reg [v_ 52 14,v_ 53 4,v_ 54 15,z_ 55 1 53 54,y_ 56 55,o_ 57 (.bslice 1 [(.int .i64 0)] 1 [(0,1,(.t 56))]),o_ 58 (.app 1 [(.int .i64 0)] 8 (.t 52) (.t 57)),v_ 14 58])
 .skip)))
 (.reg [v_ 39 15,j_ 40 39,v_ 15 40])))
def L86_1 : SC := (.seq (.seq (.reg [v_ 29 13,v_ 30 12,o_ 31 (n_ 30),o_ 32 (.bin .lss (.t 29) (.t 31))])
 (.cond (.t 32) .skip
 (.exit 0)))
 (.seq (.blk 1 (.seq (.reg [o_ 14 (.mov (.k .nilS))])
 (.seq (.seq (.reg [o_ 15 (.mov (i_ 0))])
 (.blk 2 (.loop [1,3,4,5,7,11,12,13,14,15] L86_0)))
 (.seq (.reg [o_ 60 (w_ 5 5),v_ 61 1,o_ 62 (w_ 7 3),v_ 63 3,v_ 64 14,c_ 65 89 [(.t 60),(.t 61),(.t 62),(.t 63),(.t 64)],v_ 59 65,o_ 66 (e_ 59 0),o_ 67 (e_ 59 1),v_ 16 66,v_ 17 67])
 (.reg [v_ 68 11,v_ 69 16,o_ 70 (.minmax false [(.t 68),(.t 69)]),v_ 11 70])))))
 (.reg [v_ 33 13,j_ 34 33,v_ 13 34])))
def mf86 : SF := ⟨72,[(.t 10)],
 (.seq (.reg [o_ 5 (.box (.t 0) 5),o_ 7 (.box (.t 2) 3),o_ 10 (.mov (i_ 0))])
 (.seq (.seq (.reg [v_ 18 3,o_ 19 (w_ 5 5),c_ 20 42 [(.t 19)],o_ 21 (.bin .eql (.t 18) (.t 20))])
 (.cond (.t 21) (.seq (.reg [o_ 22 (w_ 5 5),o_ 23 (w_ 7 3),c_ 24 54 [(.t 22),(.t 23)],v_ 10 24])
 .ret)
 .skip))
 (.seq (.reg [o_ 11 (.mov (i_ 0))])
 (.seq (.reg [o_ 25 (w_ 5 5),v_ 26 4,v_ 27 3,c_ 28 128 [(.t 25),(.t 26),(.t 27)],v_ 12 28])
 (.seq (.seq (.reg [o_ 13 (.mov (i_ 0))])
 (.blk 0 (.loop [1,3,4,5,7,11,12,13] L86_1)))
 (.seq (.reg [v_ 71 11,v_ 10 71])
 .ret))))))⟩
def D87_0 : List MIx := [o_ 31 (m_ 6),o_ 32 (m_ 3),o_ 33 (m_ 7),o_ 34 (.idxs 1 (.t 32) (.t 33)),o_ 35 (l_ 34),o_ 36 (.app 2 [(.int .i64 0),.nilS] 32 (.k .nilS) (.t 35)),o_ 37 (m_ 4),o_ 38 (m_ 8),o_ 39 (.idxs 2 (.t 37) (.t 38)),o_ 40 (.load (.t 39) (some 2)),o_ 41 (.bslice 2 [(.int .i64 0),.nilS] 1 [(0,2,(.t 40))]),o_ 42 (.app 2 [(.int .i64 0),.nilS] 32 (.t 36) (.t 41)),o_ 43 (.bslice 1 [.nilS] 1 [(0,1,(.t 42))]),o_ 44 (.app 1 [.nilS] 24 (.t 31) (.t 43)),o_ 6 (m_ 44)]
def B87_0 : List (List Nat) := [[],[],[],[1,2],[3,1,2],[4,3,1,2],[],[],[6,7],[8,6,7],[9,8,6,7],[5,4,3,1,2,10,9,8,6,7],[11,5,4,3,1,2,10,9,8,6,7],[0,12,11,5,4,3,1,2,10,9,8,6,7],[13,0,12,11,5,4,3,1,2,10,9,8,6,7]]
def L87_0 : SC := (.seq (.seq (.reg [v_ 25 8,v_ 26 4,o_ 27 (n_ 26),o_ 28 (.bin .lss (.t 25) (.t 27))])
 (.cond (.t 28) .skip
 (.exit 4)))
 (.seq (.blk 5 (.draw [] D87_0 B87_0))
 (.reg [v_ 29 8,j_ 30 29,v_ 8 30])))
def L87_1 : SC := (.seq (.seq (.reg [v_ 19 7,v_ 20 3,o_ 21 (n_ 20),o_ 22 (.bin .lss (.t 19) (.t 21))])
 (.cond (.t 22) .skip
 (.exit 2)))
 (.seq (.blk 3 (.seq (.reg [o_ 8 (.mov (i_ 0))])
 (.blk 4 (.loop [1,3,4,5,6,7,8] L87_0))))
 (.reg [v_ 23 7,j_ 24 23,v_ 7 24])))
def L87_2 : SC := (.seq (.seq (.reg [v_ 12 5,o_ 13 (a_ 1 2),y_ 14 13,o_ 15 (n_ 14),o_ 16 (.bin .lss (.t 12) (.t 15))])
 (.cond (.t 16) .skip
 (.exit 0)))
 (.seq (.blk 1 (.seq (.reg [o_ 6 (.mov (.k .nilS))])
 (.seq (.seq (.reg [o_ 7 (.mov (i_ 0))])
 (.blk 2 (.loop [1,3,4,5,6,7] L87_1)))
 (.reg [v_ 45 6,v_ 3 45]))))
 (.reg [v_ 17 5,j_ 18 17,v_ 5 18])))
def mf87 : SF := ⟨47,[(.t 2)],
 (.seq (.reg [o_ 1 (.box (.t 0) 5),o_ 2 (.mov (.k .nilS))])
 (.seq (.reg [o_ 9 (.bslice 1 [.nilS] 1 [(0,1,(.k .nilS))]),v_ 3 9])
 (.seq (.reg [o_ 10 (w_ 1 5),c_ 11 129 [(.t 10)],v_ 4 11])
 (.seq (.seq (.reg [o_ 5 (.mov (i_ 0))])
 (.blk 0 (.loop [1,3,4,5] L87_2)))
 (.seq (.reg [v_ 46 3,v_ 2 46])
 .ret)))))⟩
def L88_0 : SC := (.seq (.seq (.reg [v_ 5 4,o_ 6 (a_ 1 4),y_ 7 6,o_ 8 (n_ 7),o_ 9 (.bin .lss (.t 5) (.t 8))])
 (.cond (.t 9) .skip
 (.exit 0)))
 (.seq (.blk 1 (.reg [v_ 12 3,v_ 13 4,o_ 14 (.bslice 1 [(.int .i64 0)] 1 [(0,1,(.t 13))]),o_ 15 (.app 1 [(.int .i64 0)] 8 (.t 12) (.t 14)),v_ 3 15]))
 (.reg [v_ 10 4,j_ 11 10,v_ 4 11])))
def mf88 : SF := ⟨17,[(.t 2)],
 (.seq (.reg [o_ 1 (.box (.t 0) 5),o_ 2 (.mov (.k .nilS))])
 (.seq (.reg [o_ 3 (.mov (.k .nilS))])
 (.seq (.seq (.reg [o_ 4 (.mov (i_ 0))])
 (.blk 0 (.loop [1,3,4] L88_0)))
 (.seq (.reg [v_ 16 3,v_ 2 16])
 .ret))))⟩
def D89_0 : List MIx := [o_ 26 (.load (.t 5) (some 5)),o_ 27 (.load (.t 7) (some 3)),o_ 28 (.addr (.t 5) 4),o_ 29 (l_ 28),o_ 30 (m_ 4),o_ 31 (.idxs 1 (.t 30) (i_ 0)),o_ 32 (l_ 31),o_ 33 (.idxs 1 (.t 29) (.t 32)),o_ 34 (l_ 33),o_ 35 (m_ 3),o_ 36 (.idxs 1 (.t 34) (.t 35)),o_ 37 (l_ 36),o_ 38 (m_ 1),o_ 39 (m_ 14),o_ 40 (.idxs 1 (.t 38) (.t 39)),o_ 41 (l_ 40),.call (some 42) none (f_ 56) [(.t 26),(.t 27),(.t 37),(.t 41)],o_ 25 (m_ 42),o_ 43 (.ext (.t 25) 0),o_ 44 (.ext (.t 25) 1),o_ 45 (.ext (.t 25) 2),o_ 15 (.alloc [.nilS,.nilS,.nilS]),.op none none (.store (.t 15) (.t 43) 3),o_ 16 (m_ 44),o_ 17 (m_ 45)]
def B89_0 : List (List Nat) := [[],[],[],[2],[],[4],[5,4],[3,2,6,5,4],[7,3,2,6,5,4],[],[8,7,3,2,6,5,4,9],[10,8,7,3,2,6,5,4,9],[],[],[12,13],[14,12,13],[0,1,11,10,8,7,3,2,6,5,4,9,15,14,12,13],[16,0,1,11,10,8,7,3,2,6,5,4,9,15,14,12,13],[17,16,0,1,11,10,8,7,3,2,6,5,4,9,15,14,12,13],[17,16,0,1,11,10,8,7,3,2,6,5,4,9,15,14,12,13],[17,16,0,1,11,10,8,7,3,2,6,5,4,9,15,14,12,13],[],[21,18,17,16,0,1,11,10,8,7,3,2,6,5,4,9,15,14,12,13],[19,17,16,0,1,11,10,8,7,3,2,6,5,4,9,15,14,12,13,22,21,18],[20,17,16,0,1,11,10,8,7,3,2,6,5,4,9,15,14,12,13,23,19,22,21,18]]
def L89_0 : SC := (.seq (.seq (.reg [v_ 19 14,v_ 20 1,o_ 21 (n_ 20),o_ 22 (.bin .lss (.t 19) (.t 21))])
 (.cond (.t 22) .skip
 (.exit 0)))
 (.seq (.blk 1 (.seq (.draw [] D89_0 B89_0)
 (.seq (.seq (.reg [v_ 46 16,o_ 47 (.bin .neq (.t 46) (i_ 1))])
 (.cond (.t 47) (.exit 1)
 .skip))
 (.seq (.reg [o_ 48 (w_ 5 5),v_ 49 1,o_ 50 (w_ 15 3),v_ 51 3,j_ 52 51,v_ 53 4,c_ 54 86 [(.t 48),(.t 49),(.t 50),(.t 52),(.t 53)],v_ 18 54])
 (.seq (.reg [v_ 55 12,o_ 56 (.bin .lss (.t 55) (i_ 0)),v_ 57 56,q_ 58 57 false (m_ 18),q_ 59 57 false (m_ 12),q_ 60 57 false (.bin .lss (.t 58) (.t 59)),o_ 61 (r_ 57 60)])
 (.cond (.t 61) (.draw [true] [v_ 62 18,v_ 63 1,v_ 64 14,z_ 65 1 63 64,y_ 66 65,v_ 12 62,v_ 13 66] [[],[],[],[1,2],[3,1,2],[0],[4,3,1,2,5,0]])
 .skip))))))
 (.reg [v_ 23 14,j_ 24 23,v_ 14 24])))
def mf89 : SF := ⟨69,[(.t 10),(.t 11)],
 (.seq (.reg [o_ 5 (.box (.t 0) 5),o_ 7 (.box (.t 2) 3),o_ 10 (.mov (i_ 0)),o_ 11 (.mov (.k .nilS))])
 (.seq (.reg [o_ 12 (.mov (i_ (-1)))])
 (.seq (.reg [o_ 13 (.mov (.k .nilS))])
 (.seq (.seq (.reg [o_ 14 (.mov (i_ 0))])
 (.blk 0 (.loop [1,3,4,5,7,12,13,14] L89_0)))
 (.seq (.reg [v_ 67 12,v_ 68 13,v_ 10 67,v_ 11 68])
 .ret)))))⟩
def L91_0 : SC := (.seq (.reg [o_ 18 (.bin .lss (.t 17) (.t 16))])
 (.seq (.cond (.t 18) .skip
 (.exit 0))
 (.seq (.blk 1 (.seq (.reg [v_ 19 17,z_ 20 5 15 17,o_ 21 (w_ 20 5),o_ 7 (.alloc [(.int .i64 0),(.int .i64 0),(.int .i64 0),(.int .i64 0),(.int .i64 0)]),v_ 6 19,s_ 7 21 5])
 (.seq (.draw [true] [o_ 22 (a_ 3 0),y_ 23 22,v_ 24 6,z_ 25 1 23 24,y_ 26 25,o_ 27 (a_ 7 1),y_ 28 27,o_ 29 (.bin .neq (.t 26) (.t 28))] [[],[0],[],[1,0,2],[3,1,0,2],[],[5],[4,3,1,0,2,6,5]])
 (.cond (.t 29) (.reg [v_ 30 5,o_ 31 (a_ 7 4),y_ 32 31,o_ 33 (.bin .add (.t 30) (.t 32)),v_ 5 33])
 .skip))))
 (.reg [j_ 34 17,v_ 17 34]))))
def L91_1 : SC := (.seq (.reg [o_ 42 (.bin .lss (.t 41) (.t 40))])
 (.seq (.cond (.t 42) .skip
 (.exit 2))
 (.seq (.blk 3 (.seq (.reg [v_ 43 41,z_ 44 5 39 41,o_ 45 (w_ 44 5),o_ 9 (.alloc [(.int .i64 0),(.int .i64 0),(.int .i64 0),(.int .i64 0),(.int .i64 0)]),v_ 8 43,s_ 9 45 5])
 (.seq (.reg [o_ 46 (a_ 3 2),y_ 47 46,v_ 48 8,z_ 49 1 47 48,y_ 50 49,v_ 10 50])
 (.blk 4 (.seq (.reg [v_ 56 10,o_ 57 (a_ 9 1),y_ 58 57,o_ 59 (.bin .eql (.t 56) (.t 58)),v_ 55 59])
 (.cond (.t 55) .skip
 (.seq (.reg [v_ 61 0,o_ 62 (.nilck (.t 61)),o_ 63 (a_ 62 0),o_ 64 (a_ 63 0),y_ 65 64,v_ 66 10,z_ 67 2 65 66,o_ 68 (a_ 67 1),y_ 69 68,v_ 60 69])
 (.cond (.t 60) (.reg [v_ 70 5,o_ 71 (a_ 9 4),y_ 72 71,o_ 73 (.bin .add (.t 70) (.t 72)),v_ 5 73])
 (.reg [v_ 51 5,o_ 52 (a_ 9 3),y_ 53 52,o_ 54 (.bin .add (.t 51) (.t 53)),v_ 5 54])))))))))
 (.reg [j_ 74 41,v_ 41 74]))))
def mf91 : SF := ⟨76,[(.t 4)],
 (.seq (.reg [o_ 3 (.box (.t 1) 3),o_ 4 (.mov (i_ 0))])
 (.seq (.reg [o_ 5 (.mov (i_ 0))])
 (.seq (.seq (.reg [v_ 11 0,o_ 12 (.nilck (.t 11)),o_ 13 (a_ 12 0),o_ 14 (a_ 13 2),y_ 15 14,o_ 16 (n_ 15),o_ 17 (.mov (i_ 0))])
 (.blk 0 (.loop [0,3,5,15,16,17] L91_0)))
 (.seq (.seq (.reg [v_ 35 0,o_ 36 (.nilck (.t 35)),o_ 37 (a_ 36 0),o_ 38 (a_ 37 3),y_ 39 38,o_ 40 (n_ 39),o_ 41 (.mov (i_ 0))])
 (.blk 2 (.loop [0,3,5,39,40,41] L91_1)))
 (.seq (.reg [v_ 75 5,v_ 4 75])
 .ret)))))⟩
def D94_0 : List MIx := [o_ 25 (.addr (.t 5) 0),o_ 26 (l_ 25),.call (some 27) none (f_ 127) [(.t 26)],o_ 28 (.addr (.t 5) 1),o_ 29 (l_ 28),.call (some 30) none (f_ 127) [(.t 29)],o_ 31 (.addr (.t 5) 2),o_ 32 (l_ 31),.call (some 33) none (f_ 127) [(.t 32)],o_ 34 (.build [.nilS,.nilS,.nilS] [(0,1,(.t 27)),(1,1,(.t 30)),(2,1,(.t 33))]),o_ 10 (.alloc [.nilS,.nilS,.nilS]),.op none none (.store (.t 10) (.t 34) 3)]
def B94_0 : List (List Nat) := [[],[0],[1,0],[],[3],[4,3,2,1,0],[],[6],[7,6,5,4,3,2,1,0],[2,1,0,5,4,3,8,7,6],[],[10,9,2,1,0,5,4,3,8,7,6]]
def L94_0 : SC := (.seq (.reg [o_ 63 (.bin .lss (.t 62) (i_ 5))])
 (.seq (.cond (.t 63) .skip
 (.exit 2))
 (.seq (.blk 3 (.seq (.reg [o_ 64 (.idx 5 1 false (.t 61) (.t 62)),v_ 16 64])
 (.regC [v_ 65 16] (some 66) (.t 65) [] [])))
 (.reg [j_ 67 62,v_ 62 67]))))
def L94_1 : SC := (.seq (.reg [o_ 85 (.bin .lss (.t 84) (.t 83))])
 (.seq (.cond (.t 85) .skip
 (.exit 4))
 (.seq (.blk 5 (.seq (.reg [z_ 86 1 82 84,y_ 87 86,v_ 18 87])
 (.reg [o_ 88 (a_ 10 2),y_ 89 88,v_ 90 18,o_ 91 (a_ 13 0),y_ 92 91,z_ 93 1 89 90,s_ 93 92 1])))
 (.reg [j_ 94 84,v_ 84 94]))))
def L94_2 : SC := (.seq (.reg [o_ 38 (.bin .lss (.t 37) (.t 36))])
 (.seq (.cond (.t 38) .skip
 (.exit 0))
 (.seq (.blk 1 (.seq (.reg [v_ 39 37,z_ 40 2 35 37,o_ 41 (w_ 40 2),o_ 13 (.alloc [(.int .i64 0),.nilS]),v_ 12 39,s_ 13 41 2])
 (.seq (.seq (.reg [o_ 42 (a_ 13 0),y_ 43 42,o_ 44 (.bin .lss (.t 43) (i_ 0))])
 (.cond (.t 44) (.exit 1)
 .skip))
 (.seq (.reg [v_ 45 0,o_ 46 (w_ 13 2),o_ 47 (w_ 5 3),v_ 48 2,v_ 49 12,o_ 50 (.build [.nilP,(.int .i64 0),.nilS,.nilS,.nilS,.nilS,(.int .i64 0),(.int .i64 0),.nilP] [(0,1,(.t 45)),(1,2,(.t 46)),(3,3,(.t 47)),(6,1,(.t 48)),(7,1,(.t 49)),(8,1,(.t 11))]),o_ 14 (.alloc [.nilP,(.int .i64 0),.nilS,.nilS,.nilS,.nilS,(.int .i64 0),(.int .i64 0),.nilP]),s_ 14 50 9])
 (.seq (.seq (.reg [o_ 51 (w_ 14 9),o_ 52 (.mkfn (.func 137) [(.t 51)] []),o_ 53 (w_ 14 9),o_ 54 (.mkfn (.func 138) [(.t 53)] []),o_ 55 (w_ 14 9),o_ 56 (.mkfn (.func 139) [(.t 55)] []),o_ 57 (w_ 14 9),o_ 58 (.mkfn (.func 140) [(.t 57)] []),o_ 59 (w_ 14 9),o_ 60 (.mkfn (.func 141) [(.t 59)] []),o_ 61 (.build [.nilF,.nilF,.nilF,.nilF,.nilF] [(0,1,(.t 52)),(1,1,(.t 54)),(2,1,(.t 56)),(3,1,(.t 58)),(4,1,(.t 60))]),o_ 62 (.mov (i_ 0))])
 (.blk 2 (.loop [0,2,5,8,9,10,11,12,13,35,36,37,61,62] L94_0)))
 (.seq (.reg [o_ 68 (a_ 10 0),y_ 69 68,v_ 70 12,o_ 71 (a_ 13 0),y_ 72 71,z_ 73 1 69 70,s_ 73 72 1])
 (.seq (.reg [o_ 74 (a_ 10 1),y_ 75 74,v_ 76 12,z_ 77 1 75 76,y_ 78 77,j_ 79 78,z_ 80 1 75 76,s_ 80 79 1])
 (.seq (.reg [o_ 81 (a_ 13 1),y_ 82 81,o_ 83 (n_ 82),o_ 84 (.mov (i_ 0))])
 (.blk 4 (.loop [0,2,5,8,9,10,11,13,35,36,37,82,83,84] L94_1))))))))))
 (.reg [j_ 95 37,v_ 37 95]))))
def L94_3 : SC := (.seq (.reg [o_ 111 (.bin .lss (.t 110) (.t 109))])
 (.seq (.cond (.t 111) .skip
 (.exit 8))
 (.seq (.blk 9 (.seq (.reg [z_ 112 1 108 110,y_ 113 112,v_ 23 113])
 (.seq (.reg [v_ 114 23,v_ 115 19,o_ 116 (.bin .eql (.t 114) (.t 115))])
 (.cond (.t 116) (.reg [v_ 117 21,j_ 118 117,v_ 21 118])
 .skip))))
 (.reg [j_ 119 110,v_ 110 119]))))
def L94_4 : SC := (.seq (.reg [o_ 103 (.bin .lss (.t 102) (.t 101))])
 (.seq (.cond (.t 103) .skip
 (.exit 6))
 (.seq (.blk 7 (.seq (.reg [v_ 104 102,z_ 105 2 100 102,o_ 106 (w_ 105 2),o_ 20 (.alloc [(.int .i64 0),(.bool false)]),v_ 19 104,s_ 20 106 2])
 (.seq (.reg [o_ 21 (.mov (i_ 0))])
 (.seq (.seq (.reg [o_ 107 (a_ 10 0),y_ 108 107,o_ 109 (n_ 108),o_ 110 (.mov (i_ 0))])
 (.blk 8 (.loop [8,9,10,19,20,21,100,101,102,108,109,110] L94_3)))
 (.seq (.reg [v_ 120 21,o_ 121 (a_ 20 0),y_ 122 121,o_ 123 (.bin .gtr (.t 120) (.t 122))])
 (.cond (.t 123) (.regP [o_ 124 (.build [(.int .i64 0),(.int .i64 0)] [(0,1,(i_ 7)),(1,1,(i_ (-1)))]),o_ 125 (.mkif 147 (.t 124))] none (.t 125) [])
 .skip))))))
 (.reg [j_ 126 102,v_ 102 126]))))
def mf94 : SF := ⟨129,[(.c 8 (some 3)),(.c 9 (some 2))],
 (.seq (.reg [o_ 5 (.box (.t 1) 3),o_ 8 (.alloc [.nilS,.nilS,.nilS]),o_ 9 (.alloc [(.int .i64 0),(.int .i64 0)])])
 (.seq (.reg [o_ 24 (.mkfn (.func 136) [] [(.t 5),(.t 8),(.t 9)]),.op none none (.defer (.t 24) [])])
 (.seq (.draw [] D94_0 B94_0)
 (.seq (.reg [o_ 11 (.alloc [(.bool false),(.bool false),(.bool false),(.bool false)])])
 (.seq (.seq (.reg [v_ 35 3,o_ 36 (n_ 35),o_ 37 (.mov (i_ 0))])
 (.blk 0 (.loop [0,2,5,8,9,10,11,35,36,37] L94_2)))
 (.seq (.seq (.reg [v_ 96 0,o_ 97 (.nilck (.t 96)),o_ 98 (a_ 97 0),o_ 99 (a_ 98 0),y_ 100 99,o_ 101 (n_ 100),o_ 102 (.mov (i_ 0))])
 (.blk 6 (.loop [8,9,10,100,101,102] L94_4)))
 (.seq (.reg [o_ 127 (w_ 10 3),o_ 128 (.build [(.int .i64 0),(.int .i64 0)] [(0,1,(i_ 1)),(1,1,(i_ (-1)))]),s_ 8 127 3,s_ 9 128 2])
 .ret)))))))⟩
def L96_0 : SC := (.seq (.seq (.reg [v_ 99 16,v_ 100 3,v_ 101 15,z_ 102 2 100 101,o_ 103 (a_ 102 1),y_ 104 103,o_ 105 (n_ 104),o_ 106 (.bin .lss (.t 99) (.t 105))])
 (.cond (.t 106) .skip
 (.exit 4)))
 (.seq (.blk 5 (.seq (.reg [v_ 109 3,v_ 110 15,z_ 111 2 109 110,o_ 112 (a_ 111 1),y_ 113 112,v_ 114 16,z_ 115 1 113 114,y_ 116 115,v_ 117 14,o_ 118 (.bin .eql (.t 116) (.t 117))])
 (.cond (.t 118) (.seq (.reg [o_ 10 (.mov (i_ 5))])
 .ret)
 .skip)))
 (.reg [v_ 107 16,j_ 108 107,v_ 16 108])))
def L96_1 : SC := (.seq (.seq (.reg [v_ 94 15,v_ 95 4,o_ 96 (.bin .lss (.t 94) (.t 95))])
 (.cond (.t 96) .skip
 (.exit 2)))
 (.seq (.blk 3 (.seq (.reg [o_ 16 (.mov (i_ 0))])
 (.blk 4 (.loop [3,4,5,6,11,12,13,14,15,16] L96_0))))
 (.reg [v_ 97 15,j_ 98 97,v_ 15 98])))
def L96_2 : SC := (.seq (.seq (.reg [v_ 63 13,o_ 64 (a_ 11 1),y_ 65 64,o_ 66 (n_ 65),o_ 67 (.bin .lss (.t 63) (.t 66))])
 (.cond (.t 67) .skip
 (.exit 0)))
 (.seq (.blk 1 (.seq (.reg [o_ 70 (a_ 11 1),y_ 71 70,v_ 72 13,z_ 73 1 71 72,y_ 74 73,v_ 14 74])
 (.seq (.reg [v_ 75 12,o_ 76 (a_ 5 3),y_ 77 76,v_ 78 14,z_ 79 5 77 78,o_ 80 (a_ 79 2),y_ 81 80,o_ 82 (.bin .add (.t 75) (.t 81)),v_ 12 82])
 (.seq (.seq (.draw [true] [o_ 83 (a_ 6 2),y_ 84 83,v_ 85 14,z_ 86 1 84 85,y_ 87 86,o_ 88 (a_ 6 0),y_ 89 88,v_ 90 4,z_ 91 1 89 90,y_ 92 91,o_ 93 (.bin .neq (.t 87) (.t 92))] [[],[0],[],[1,0,2],[3,1,0,2],[],[5],[],[6,5,7],[8,6,5,7],[4,3,1,0,2,9,8,6,5,7]])
 (.cond (.t 93) (.seq (.reg [o_ 10 (.mov (i_ 5))])
 .ret)
 .skip))
 (.seq (.reg [o_ 15 (.mov (i_ 0))])
 (.blk 2 (.loop [3,4,5,6,11,12,13,14,15] L96_1)))))))
 (.reg [v_ 68 13,j_ 69 68,v_ 13 69])))
def mf96 : SF := ⟨127,[(.t 10)],
 (.seq (.reg [o_ 5 (.box (.t 0) 5),o_ 6 (.box (.t 1) 3),o_ 10 (.mov (i_ 0))])
 (.seq (.reg [v_ 17 3,v_ 18 4,z_ 19 2 17 18,o_ 20 (w_ 19 2),o_ 11 (.alloc [(.int .i64 0),.nilS]),s_ 11 20 2])
 (.seq (.seq (.reg [o_ 21 (a_ 11 0),y_ 22 21,o_ 23 (.bin .lss (.t 22) (i_ 0))])
 (.cond (.t 23) (.seq (.reg [o_ 10 (.mov (i_ 1))])
 .ret)
 .skip))
 (.seq (.seq (.draw [true] [o_ 24 (w_ 5 5),o_ 25 (a_ 6 0),y_ 26 25,v_ 27 4,z_ 28 1 26 27,y_ 29 28,o_ 30 (a_ 11 0),y_ 31 30,c_ 32 142 [(.t 24),(.t 29),(.t 31)],o_ 33 (.un .not (.t 32))] [[],[],[1],[],[2,1,3],[4,2,1,3],[],[6],[0,5,4,2,1,3,7,6],[8,0,5,4,2,1,3,7,6]])
 (.cond (.t 33) (.seq (.reg [o_ 10 (.mov (i_ 2))])
 .ret)
 .skip))
 (.seq (.seq (.reg [v_ 34 2,o_ 35 (a_ 6 0),y_ 36 35,v_ 37 4,z_ 38 1 36 37,y_ 39 38,o_ 40 (.bin .shr (.t 34) (.t 39)),o_ 41 (.bin .and (.t 40) (i_ 1)),o_ 42 (.bin .eql (.t 41) (i_ 0)),v_ 43 42,q_ 44 43 false (m_ 2),q_ 45 43 false (a_ 11 0),q_ 46 43 false (l_ 45),q_ 47 43 false (.bin .shr (.t 44) (.t 46)),q_ 48 43 false (.bin .and (.t 47) (i_ 1)),q_ 49 43 false (.bin .eql (.t 48) (i_ 0)),o_ 50 (r_ 43 49)])
 (.cond (.t 50) (.seq (.reg [o_ 10 (.mov (i_ 3))])
 .ret)
 .skip))
 (.seq (.seq (.draw [true] [o_ 51 (a_ 6 1),y_ 52 51,v_ 53 4,z_ 54 1 52 53,y_ 55 54,o_ 56 (a_ 5 2),y_ 57 56,v_ 58 4,z_ 59 5 57 58,o_ 60 (a_ 59 3),y_ 61 60,o_ 62 (.bin .geq (.t 55) (.t 61))] [[],[0],[],[1,0,2],[3,1,0,2],[],[5],[],[6,5,7],[8,6,5,7],[9,8,6,5,7],[4,3,1,0,2,10,9,8,6,5,7]])
 (.cond (.t 62) (.seq (.reg [o_ 10 (.mov (i_ 4))])
 .ret)
 .skip))
 (.seq (.reg [o_ 12 (.mov (i_ 0))])
 (.seq (.seq (.reg [o_ 13 (.mov (i_ 0))])
 (.blk 0 (.loop [3,4,5,6,11,12,13] L96_2)))
 (.seq (.seq (.reg [v_ 119 12,o_ 120 (a_ 5 2),y_ 121 120,v_ 122 4,z_ 123 5 121 122,o_ 124 (a_ 123 2),y_ 125 124,o_ 126 (.bin .gtr (.t 119) (.t 125))])
 (.cond (.t 126) (.seq (.reg [o_ 10 (.mov (i_ 6))])
 .ret)
 .skip))
 (.seq (.reg [o_ 10 (.mov (i_ 1))])
 .ret))))))))))⟩
def L100_0 : SC := (.seq (.reg [o_ 10 (.bin .lss (.t 9) (.t 8))])
 (.seq (.cond (.t 10) .skip
 (.exit 0))
 (.seq (.blk 1 (.seq (.reg [v_ 11 9,z_ 12 2 7 9,o_ 13 (w_ 12 2),o_ 6 (.alloc [.nilS,(.int .i64 0)]),v_ 5 11,s_ 6 13 2])
 (.seq (.reg [v_ 14 1,v_ 15 5,o_ 16 (w_ 6 2),.call (some 17) none (.t 14) [(.t 15),(.t 16)],o_ 18 (.un .not (.t 17))])
 (.cond (.t 18) (.seq (.reg [o_ 4 (b_ false)])
 .ret)
 .skip))))
 (.reg [j_ 19 9,v_ 9 19]))))
def mf100 : SF := ⟨20,[(.t 4)],
 (.seq (.reg [o_ 4 (b_ false)])
 (.seq (.seq (.reg [v_ 7 0,o_ 8 (n_ 7),o_ 9 (.mov (i_ 0))])
 (.blk 0 (.loop [1,7,8,9] L100_0)))
 (.seq (.reg [o_ 4 (b_ true)])
 .ret)))⟩
def mf101 : SF := ⟨20,[(.t 4)],
 (.seq (.reg [o_ 3 (.box (.t 1) 2),o_ 4 (b_ false)])
 (.seq (.reg [o_ 5 (a_ 3 0),y_ 6 5,o_ 7 (n_ 6),o_ 8 (.bin .leq (.t 7) (i_ 10)),v_ 9 8,q_ 10 9 true (a_ 3 1),q_ 11 9 true (l_ 10),d_ 12 9 true 68 [(.t 11),(i_ 0),(i_ 300)],o_ 13 (p_ 9 12),v_ 14 13,q_ 15 14 true (a_ 3 0),q_ 16 14 true (l_ 15),q_ 17 14 true (.mkfn (.func 103) [] [(.t 3)]),d_ 18 14 true 102 [(.t 16),(.t 17)],o_ 19 (p_ 14 18),v_ 4 19])
 .ret))⟩
def L102_0 : SC := (.seq (.reg [o_ 10 (.bin .lss (.t 9) (.t 8))])
 (.seq (.cond (.t 10) .skip
 (.exit 0))
 (.seq (.blk 1 (.seq (.reg [v_ 11 9,z_ 12 2 7 9,o_ 13 (w_ 12 2),o_ 6 (.alloc [(.int .i64 0),(.int .i64 0)]),v_ 5 11,s_ 6 13 2])
 (.seq (.reg [v_ 14 1,v_ 15 5,o_ 16 (w_ 6 2),.call (some 17) none (.t 14) [(.t 15),(.t 16)],o_ 18 (.un .not (.t 17))])
 (.cond (.t 18) (.seq (.reg [o_ 4 (b_ false)])
 .ret)
 .skip))))
 (.reg [j_ 19 9,v_ 9 19]))))
def mf102 : SF := ⟨20,[(.t 4)],
 (.seq (.reg [o_ 4 (b_ false)])
 (.seq (.seq (.reg [v_ 7 0,o_ 8 (n_ 7),o_ 9 (.mov (i_ 0))])
 (.blk 0 (.loop [1,7,8,9] L102_0)))
 (.seq (.reg [o_ 4 (b_ true)])
 .ret)))⟩
def mf103 : SF := ⟨25,[(.t 5)],
 (.seq (.reg [o_ 4 (.box (.t 1) 2),o_ 5 (b_ false)])
 (.seq (.draw [true] [o_ 6 (w_ 4 2),c_ 7 104 [(.t 6),(i_ 1440)],v_ 8 7,q_ 9 8 true (m_ 0),q_ 10 8 true (.bin .eql (.t 9) (i_ 0)),q_ 11 8 true (m_ 10),q_ 12 11 false (a_ 4 0),q_ 13 11 false (l_ 12),q_ 14 11 false (a_ 2 0),q_ 15 11 false (l_ 14),q_ 16 11 false (m_ 0),q_ 17 11 false (.bin .sub (.t 16) (i_ 1)),q_ 18 11 false (x_ 2 15 17),q_ 19 11 false (a_ 18 1),q_ 20 11 false (l_ 19),q_ 21 11 false (.bin .add (.t 20) (i_ 1)),q_ 22 11 false (.bin .gtr (.t 13) (.t 21)),q_ 23 8 true (r_ 11 22),o_ 24 (p_ 8 23),v_ 5 24] [[],[0],[1,0],[2,1,0],[3,2,1,0],[4,3,2,1,0],[5,4,3,2,1,0],[6,5,4,3,2,1,0],[5,4,3,2,1,0],[8,5,4,3,2,1,0],[5,4,3,2,1,0],[10,5,4,3,2,1,0],[9,8,5,4,3,2,1,0,11,10],[12,9,8,5,4,3,2,1,0,11,10],[13,12,9,8,5,4,3,2,1,0,11,10],[14,13,12,9,8,5,4,3,2,1,0,11,10],[7,6,5,4,3,2,1,0,15,14,13,12,9,8,11,10],[5,4,3,2,1,0,16,7,6,15,14,13,12,9,8,11,10],[2,1,0,17,5,4,3,16,7,6,15,14,13,12,9,8,11,10],[18,2,1,0,17,5,4,3,16,7,6,15,14,13,12,9,8,11,10]])
 .ret))⟩
def mf104 : SF := ⟨21,[(.t 4)],
 (.seq (.reg [o_ 2 (.box (.t 0) 2),o_ 4 (b_ false)])
 (.seq (.reg [o_ 5 (a_ 2 0),y_ 6 5,o_ 7 (.bin .geq (.t 6) (i_ 0)),v_ 8 7,q_ 9 8 true (a_ 2 0),q_ 10 8 true (l_ 9),q_ 11 8 true (a_ 2 1),q_ 12 8 true (l_ 11),q_ 13 8 true (.bin .leq (.t 10) (.t 12)),o_ 14 (p_ 8 13),v_ 15 14,q_ 16 15 true (a_ 2 1),q_ 17 15 true (l_ 16),q_ 18 15 true (m_ 1),q_ 19 15 true (.bin .leq (.t 17) (.t 18)),o_ 20 (p_ 15 19),v_ 4 20])
 .ret))⟩
def mf105 : SF := ⟨7,[(.t 4)],
 (.seq (.reg [o_ 3 (.box (.t 1) 2),o_ 4 (b_ false)])
 (.seq (.reg [o_ 5 (w_ 3 2),c_ 6 104 [(.t 5),(i_ 300)],v_ 4 6])
 .ret))⟩
def mf107 : SF := ⟨36,[(.t 5)],
 (.seq (.reg [o_ 5 (b_ false)])
 (.seq (.reg [o_ 7 (a_ 1 0),y_ 8 7,y_ 9 2,j_ 10 9,z_ 11 2 8 10,o_ 12 (w_ 11 2),o_ 6 (.alloc [.nilS,(.int .i64 0)]),s_ 6 12 2])
 (.seq (.draw [true] [o_ 13 (w_ 6 2),v_ 14 0,c_ 15 72 [(.t 13),(.t 14)],v_ 16 15,q_ 17 16 true (l_ 2),q_ 18 16 true (.bin .add (.t 17) (i_ 1)),q_ 19 16 true (a_ 1 1),q_ 20 16 true (l_ 19),q_ 21 16 true (n_ 20),q_ 22 16 true (.bin .eql (.t 18) (.t 21)),q_ 23 16 true (m_ 22),q_ 24 23 false (l_ 3),q_ 25 23 false (l_ 2),q_ 26 23 false (.bin .add (.t 25) (i_ 1)),q_ 27 23 false (x_ 1441 24 26),q_ 28 23 false (m_ 0),q_ 29 23 false (a_ 6 1),q_ 30 23 false (l_ 29),q_ 31 23 false (.bin .add (.t 28) (.t 30)),d_ 32 23 false 71 [(.t 27),(.t 31)],q_ 33 23 false (.bin .geq (.t 32) (i_ 0)),q_ 34 16 true (r_ 23 33),o_ 35 (p_ 16 34),v_ 5 35] [[],[],[0,1],[2,0,1],[3,2,0,1],[4,3,2,0,1],[3,2,0,1],[6,3,2,0,1],[7,6,3,2,0,1],[5,4,3,2,0,1,8,7,6],[9,5,4,3,2,0,1,8,7,6],[10,9,5,4,3,2,0,1,8,7,6],[10,9,5,4,3,2,0,1,8,7,6],[12,10,9,5,4,3,2,0,1,8,7,6],[11,10,9,5,4,3,2,0,1,8,7,6,13,12],[10,9,5,4,3,2,0,1,8,7,6],[10,9,5,4,3,2,0,1,8,7,6],[16,10,9,5,4,3,2,0,1,8,7,6],[15,10,9,5,4,3,2,0,1,8,7,6,17,16],[14,11,10,9,5,4,3,2,0,1,8,7,6,13,12,18,15,17,16],[19,14,11,10,9,5,4,3,2,0,1,8,7,6,13,12,18,15,17,16],[10,9,5,4,3,2,0,1,8,7,6,20,19,14,11,13,12,18,15,17,16],[3,2,0,1,21,10,9,5,4,8,7,6,20,19,14,11,13,12,18,15,17,16],[22,3,2,0,1,21,10,9,5,4,8,7,6,20,19,14,11,13,12,18,15,17,16]])
 .ret)))⟩
def mf108 : SF := ⟨8,[(.t 3)],
 (.seq (.reg [o_ 3 (b_ false)])
 (.seq (.reg [v_ 4 0,y_ 5 1,o_ 6 (.bin .sub (.t 5) (i_ 1)),c_ 7 68 [(.t 4),(i_ 0),(.t 6)],v_ 3 7])
 .ret))⟩
def L109_0 : SC := (.seq (.reg [o_ 10 (.bin .lss (.t 9) (.t 8))])
 (.seq (.cond (.t 10) .skip
 (.exit 0))
 (.seq (.blk 1 (.seq (.reg [v_ 11 9,z_ 12 5 7 9,o_ 13 (w_ 12 5),o_ 6 (.alloc [(.int .i64 0),(.int .i64 0),(.int .i64 0),(.int .i64 0),(.int .i64 0)]),v_ 5 11,s_ 6 13 5])
 (.seq (.reg [v_ 14 1,v_ 15 5,o_ 16 (w_ 6 5),.call (some 17) none (.t 14) [(.t 15),(.t 16)],o_ 18 (.un .not (.t 17))])
 (.cond (.t 18) (.seq (.reg [o_ 4 (b_ false)])
 .ret)
 .skip))))
 (.reg [j_ 19 9,v_ 9 19]))))
def mf109 : SF := ⟨20,[(.t 4)],
 (.seq (.reg [o_ 4 (b_ false)])
 (.seq (.seq (.reg [v_ 7 0,o_ 8 (n_ 7),o_ 9 (.mov (i_ 0))])
 (.blk 0 (.loop [1,7,8,9] L109_0)))
 (.seq (.reg [o_ 4 (b_ true)])
 .ret)))⟩
def mf110 : SF := ⟨43,[(.t 6)],
 (.seq (.reg [o_ 5 (.box (.t 1) 5),o_ 6 (b_ false)])
 (.seq (.seq (.reg [y_ 7 2,o_ 8 (a_ 5 0),y_ 9 8,.call (some 10) none (.t 7) [(.t 9)]])
 (.cond (.t 10) (.reg [y_ 11 3,o_ 12 (a_ 5 0),y_ 13 12,z_ 14 1 11 13,y_ 15 14,j_ 16 15,z_ 17 1 11 13,s_ 17 16 1])
 .skip))
 (.seq (.reg [y_ 18 2,o_ 19 (a_ 5 0),y_ 20 19,.call (some 21) none (.t 18) [(.t 20)],v_ 22 21,q_ 23 22 true (l_ 2),q_ 24 22 true (a_ 5 1),q_ 25 22 true (l_ 24),.call (some 26) (some (22,true)) (.t 23) [(.t 25)],o_ 27 (p_ 22 26),v_ 28 27,q_ 29 28 true (a_ 5 2),q_ 30 28 true (l_ 29),d_ 31 28 true 68 [(.t 30),(i_ 0),(i_ 20)],o_ 32 (p_ 28 31),v_ 33 32,q_ 34 33 true (a_ 5 3),q_ 35 33 true (l_ 34),d_ 36 33 true 68 [(.t 35),(i_ 0),(i_ 20)],o_ 37 (p_ 33 36),v_ 38 37,q_ 39 38 true (a_ 5 4),q_ 40 38 true (l_ 39),d_ 41 38 true 68 [(.t 40),(i_ 0),(i_ 1000000)],o_ 42 (p_ 38 41),v_ 6 42])
 .ret)))⟩
def L111_0 : SC := (.seq (.reg [o_ 10 (.bin .lss (.t 9) (.t 8))])
 (.seq (.cond (.t 10) .skip
 (.exit 0))
 (.seq (.blk 1 (.seq (.reg [v_ 11 9,z_ 12 5 7 9,o_ 13 (w_ 12 5),o_ 6 (.alloc [(.int .i64 0),(.int .i64 0),(.int .i64 0),(.int .i64 0),(.int .i64 0)]),v_ 5 11,s_ 6 13 5])
 (.seq (.reg [v_ 14 1,v_ 15 5,o_ 16 (w_ 6 5),.call (some 17) none (.t 14) [(.t 15),(.t 16)],o_ 18 (.un .not (.t 17))])
 (.cond (.t 18) (.seq (.reg [o_ 4 (b_ false)])
 .ret)
 .skip))))
 (.reg [j_ 19 9,v_ 9 19]))))
def mf111 : SF := ⟨20,[(.t 4)],
 (.seq (.reg [o_ 4 (b_ false)])
 (.seq (.seq (.reg [v_ 7 0,o_ 8 (n_ 7),o_ 9 (.mov (i_ 0))])
 (.blk 0 (.loop [1,7,8,9] L111_0)))
 (.seq (.reg [o_ 4 (b_ true)])
 .ret)))⟩
def mf112 : SF := ⟨31,[(.t 5)],
 (.seq (.reg [o_ 4 (.box (.t 1) 5),o_ 5 (b_ false)])
 (.seq (.reg [y_ 6 2,o_ 7 (a_ 4 0),y_ 8 7,.call (some 9) none (.t 6) [(.t 8)],v_ 10 9,q_ 11 10 true (l_ 2),q_ 12 10 true (a_ 4 1),q_ 13 10 true (l_ 12),.call (some 14) (some (10,true)) (.t 11) [(.t 13)],o_ 15 (p_ 10 14),v_ 16 15,q_ 17 16 true (a_ 4 2),q_ 18 16 true (l_ 17),d_ 19 16 true 68 [(.t 18),(i_ 1),(i_ 20)],o_ 20 (p_ 16 19),v_ 21 20,q_ 22 21 true (a_ 4 3),q_ 23 21 true (l_ 22),d_ 24 21 true 68 [(.t 23),(i_ 0),(i_ 1000000)],o_ 25 (p_ 21 24),v_ 26 25,q_ 27 26 true (a_ 4 4),q_ 28 26 true (l_ 27),d_ 29 26 true 68 [(.t 28),(i_ 0),(i_ 1000000)],o_ 30 (p_ 26 29),v_ 5 30])
 .ret))⟩
def L113_0 : SC := (.seq (.reg [o_ 10 (.bin .lss (.t 9) (.t 8))])
 (.seq (.cond (.t 10) .skip
 (.exit 0))
 (.seq (.blk 1 (.seq (.reg [v_ 11 9,z_ 12 2 7 9,o_ 13 (w_ 12 2),o_ 6 (.alloc [(.int .i64 0),(.int .i64 0)]),v_ 5 11,s_ 6 13 2])
 (.seq (.reg [v_ 14 1,v_ 15 5,o_ 16 (w_ 6 2),.call (some 17) none (.t 14) [(.t 15),(.t 16)],o_ 18 (.un .not (.t 17))])
 (.cond (.t 18) (.seq (.reg [o_ 4 (b_ false)])
 .ret)
 .skip))))
 (.reg [j_ 19 9,v_ 9 19]))))
def mf113 : SF := ⟨20,[(.t 4)],
 (.seq (.reg [o_ 4 (b_ false)])
 (.seq (.seq (.reg [v_ 7 0,o_ 8 (n_ 7),o_ 9 (.mov (i_ 0))])
 (.blk 0 (.loop [1,7,8,9] L113_0)))
 (.seq (.reg [o_ 4 (b_ true)])
 .ret)))⟩
def mf114 : SF := ⟨33,[(.t 6)],
 (.seq (.reg [o_ 5 (.box (.t 1) 2),o_ 6 (b_ false)])
 (.seq (.reg [y_ 7 2,o_ 8 (a_ 5 0),y_ 9 8,.call (some 10) none (.t 7) [(.t 9)],v_ 11 10,q_ 12 11 true (l_ 2),q_ 13 11 true (a_ 5 1),q_ 14 11 true (l_ 13),.call (some 15) (some (11,true)) (.t 12) [(.t 14)],o_ 16 (p_ 11 15),v_ 17 16,q_ 18 17 true (a_ 5 0),q_ 19 17 true (l_ 18),q_ 20 17 true (a_ 5 1),q_ 21 17 true (l_ 20),q_ 22 17 true (.bin .neq (.t 19) (.t 21)),o_ 23 (p_ 17 22),v_ 24 23,q_ 25 24 true (a_ 3 1),q_ 26 24 true (l_ 25),q_ 27 24 true (m_ 0),q_ 28 24 true (.slc 2 (.t 26) none (some (.t 27)) none),q_ 29 24 true (.mkfn (.func 116) [] [(.t 5)]),d_ 30 24 true 115 [(.t 28),(.t 29)],q_ 31 24 true (.un .not (.t 30)),o_ 32 (p_ 24 31),v_ 6 32])
 .ret))⟩
def mf115 : SF := ⟨9,[(.t 4)],
 (.seq (.reg [o_ 4 (b_ false)])
 (.seq (.reg [v_ 5 0,v_ 6 1,c_ 7 145 [(.t 5),(.t 6)],o_ 8 (.bin .geq (.t 7) (i_ 0)),v_ 4 8])
 .ret))⟩
def mf116 : SF := ⟨16,[(.t 3)],
 (.seq (.reg [o_ 2 (.box (.t 0) 2),o_ 3 (b_ false)])
 (.seq (.reg [o_ 4 (w_ 2 2),o_ 5 (w_ 1 2),o_ 6 (.eqag [true,true] false (.t 4) (.t 5)),v_ 7 6,q_ 8 7 false (w_ 2 2),q_ 9 7 false (a_ 1 1),q_ 10 7 false (l_ 9),q_ 11 7 false (a_ 1 0),q_ 12 7 false (l_ 11),q_ 13 7 false (.build [(.int .i64 0),(.int .i64 0)] [(0,1,(.t 10)),(1,1,(.t 12))]),q_ 14 7 false (.eqag [true,true] false (.t 8) (.t 13)),o_ 15 (r_ 7 14),v_ 3 15])
 .ret))⟩
def L117_0 : SC := (.seq (.reg [o_ 10 (.bin .lss (.t 9) (.t 8))])
 (.seq (.cond (.t 10) .skip
 (.exit 0))
 (.seq (.blk 1 (.seq (.reg [v_ 11 9,z_ 12 1 7 9,y_ 13 12,v_ 5 11,v_ 6 13])
 (.seq (.reg [v_ 14 1,v_ 15 5,v_ 16 6,.call (some 17) none (.t 14) [(.t 15),(.t 16)],o_ 18 (.un .not (.t 17))])
 (.cond (.t 18) (.seq (.reg [o_ 4 (b_ false)])
 .ret)
 .skip))))
 (.reg [j_ 19 9,v_ 9 19]))))
def mf117 : SF := ⟨20,[(.t 4)],
 (.seq (.reg [o_ 4 (b_ false)])
 (.seq (.seq (.reg [v_ 7 0,o_ 8 (n_ 7),o_ 9 (.mov (i_ 0))])
 (.blk 0 (.loop [1,7,8,9] L117_0)))
 (.seq (.reg [o_ 4 (b_ true)])
 .ret)))⟩
def mf118 : SF := ⟨25,[(.t 6)],
 (.seq (.reg [o_ 6 (b_ false)])
 (.seq (.reg [v_ 7 1,o_ 8 (n_ 7),c_ 9 68 [(.t 8),(i_ 1),(i_ 5)],v_ 10 9,q_ 11 10 true (m_ 1),q_ 12 10 true (n_ 11),q_ 13 10 true (a_ 2 4),q_ 14 10 true (l_ 13),q_ 15 10 true (.idxs 1 (.t 14) (i_ 0)),q_ 16 10 true (l_ 15),q_ 17 10 true (n_ 16),q_ 18 10 true (.bin .eql (.t 12) (.t 17)),o_ 19 (p_ 10 18),v_ 20 19,q_ 21 20 true (m_ 1),q_ 22 20 true (.mkfn (.func 119) [] [(.t 3)]),d_ 23 20 true 69 [(.t 21),(.t 22)],o_ 24 (p_ 20 23),v_ 6 24])
 .ret))⟩
def mf119 : SF := ⟨11,[(.t 5)],
 (.seq (.reg [o_ 5 (b_ false)])
 (.seq (.reg [v_ 6 1,y_ 7 2,o_ 8 (.bin .shl (i_ 1) (.t 7)),o_ 9 (.bin .sub (.t 8) (i_ 1)),c_ 10 68 [(.t 6),(i_ 0),(.t 9)],v_ 5 10])
 .ret))⟩
def L120_0 : SC := (.seq (.reg [o_ 10 (.bin .lss (.t 9) (.t 8))])
 (.seq (.cond (.t 10) .skip
 (.exit 0))
 (.seq (.blk 1 (.seq (.reg [v_ 11 9,z_ 12 2 7 9,o_ 13 (w_ 12 2),o_ 6 (.alloc [(.int .i64 0),(.bool false)]),v_ 5 11,s_ 6 13 2])
 (.seq (.reg [v_ 14 1,v_ 15 5,o_ 16 (w_ 6 2),.call (some 17) none (.t 14) [(.t 15),(.t 16)],o_ 18 (.un .not (.t 17))])
 (.cond (.t 18) (.seq (.reg [o_ 4 (b_ false)])
 .ret)
 .skip))))
 (.reg [j_ 19 9,v_ 9 19]))))
def mf120 : SF := ⟨20,[(.t 4)],
 (.seq (.reg [o_ 4 (b_ false)])
 (.seq (.seq (.reg [v_ 7 0,o_ 8 (n_ 7),o_ 9 (.mov (i_ 0))])
 (.blk 0 (.loop [1,7,8,9] L120_0)))
 (.seq (.reg [o_ 4 (b_ true)])
 .ret)))⟩
def mf121 : SF := ⟨18,[(.t 5)],
 (.seq (.reg [o_ 4 (.box (.t 1) 2),o_ 5 (b_ false)])
 (.seq (.draw [true] [o_ 6 (a_ 4 0),y_ 7 6,c_ 8 68 [(.t 7),(i_ 0),(i_ 2)],v_ 9 8,q_ 10 9 true (l_ 2),q_ 11 9 true (m_ 0),q_ 12 9 true (x_ 1 10 11),q_ 13 9 true (l_ 12),q_ 14 9 true (a_ 4 0),q_ 15 9 true (l_ 14),q_ 16 9 true (.bin .leq (.t 13) (.t 15)),o_ 17 (p_ 9 16),v_ 5 17] [[],[0],[1,0],[2,1,0],[3,2,1,0],[3,2,1,0],[4,3,2,1,0,5],[6,4,3,2,1,0,5],[3,2,1,0],[8,3,2,1,0],[7,6,4,3,2,1,0,5,9,8],[3,2,1,0,10,7,6,4,5,9,8],[11,3,2,1,0,10,7,6,4,5,9,8]])
 .ret))⟩
def aLI : List MIx := [o_ 13 (.addr (.t 9) 2),o_ 14 (.slca 2 1 (.t 13) none none none),o_ 15 (.addr (.t 7) 0),o_ 16 (l_ 15),o_ 17 (.copy 1 (.t 14) (.t 16))]
def aLN : List (List Nat) := [[],[0],[],[2],[1,0,3,2]]
def aLH : List MIx := [o_ 18 (.addr (.t 9) 4),o_ 19 (.slca 2 1 (.t 18) none none none),o_ 20 (.addr (.t 7) 1),o_ 21 (l_ 20),o_ 22 (.copy 1 (.t 19) (.t 21))]
def aLM : List (List Nat) := [[],[0],[],[2],[1,0,3,2]]
def aLG : List MIx := [o_ 23 (.addr (.t 9) 6),o_ 24 (.slca 4 1 (.t 23) none none none),o_ 25 (.addr (.t 7) 2),o_ 26 (l_ 25),o_ 27 (.copy 1 (.t 24) (.t 26))]
def aLL : List (List Nat) := [[],[0],[],[2],[1,0,3,2]]
def mf122 : SF := ⟨29,[(.c 8 (some 10))],
 (.seq (.reg [o_ 7 (.box (.t 3) 3),o_ 8 (.alloc [(.int .i64 0),(.int .i64 0),(.int .i64 0),(.int .i64 0),(.int .i64 0),(.int .i64 0),(.int .i64 0),(.int .i64 0),(.int .i64 0),(.int .i64 0)])])
 (.seq (.reg [v_ 10 1,v_ 11 2,o_ 12 (.build [(.int .i64 0),(.int .i64 0),(.int .i64 0),(.int .i64 0),(.int .i64 0),(.int .i64 0),(.int .i64 0),(.int .i64 0),(.int .i64 0),(.int .i64 0)] [(0,1,(.t 10)),(1,1,(.t 11))]),o_ 9 (.alloc [(.int .i64 0),(.int .i64 0),(.int .i64 0),(.int .i64 0),(.int .i64 0),(.int .i64 0),(.int .i64 0),(.int .i64 0),(.int .i64 0),(.int .i64 0)]),s_ 9 12 10])
 (.seq (.draw [] aLI aLN)
 (.seq (.draw [] aLH aLM)
 (.seq (.draw [] aLG aLL)
 (.seq (.reg [o_ 28 (w_ 9 10),s_ 8 28 10])
 .ret))))))⟩
def mf123 : SF := ⟨17,[],
 (.seq (.reg [o_ 4 (.box (.t 0) 1)])
 (.seq (.reg [y_ 7 1,o_ 8 (.nilck (.t 7)),o_ 9 (a_ 8 0),o_ 10 (a_ 9 2),y_ 11 10,o_ 12 (n_ 11),o_ 13 (.mksl 2 [(.int .i64 0),.nilS] 32 (.t 12) (.t 12)),o_ 5 (.alloc [.nilS]),s_ 5 13 1])
 (.seq (.reg [o_ 6 (.alloc [.nilF])])
 (.seq (.reg [o_ 14 (.mkfn (.func 124) [] [(.t 5),(.t 1),(.t 2),(.t 3),(.t 4),(.t 6)]),s_ 6 14 1])
 (.reg [y_ 15 6,.call (some 16) none (.t 15) [(i_ 0),(i_ 0)]])))))⟩
def R124_0a : SC := (.seq (.reg [o_ 13 (.alloc [(.int .i64 0),.nilS]),s_ 13 42 2])
 (.reg [v_ 14 43]))
def R124_0b : SC := (.blk 1 (.seq (.reg [y_ 44 2,y_ 45 8,o_ 46 (w_ 13 2),z_ 47 2 44 45,s_ 47 46 2])
 (.seq (.reg [y_ 48 7,y_ 49 8,j_ 50 49,v_ 51 14,.call (some 52) none (.t 48) [(.t 50),(.t 51)],o_ 53 (.un .not (.t 52))])
 (.cond (.t 53) (.seq (.reg [.op none none (.store (.t 10) (.k (.bool false)) 1)])
 .ret)
 .skip))))
def mf124 : SF := ⟨54,[(.c 10 none)],
 (.seq (.reg [o_ 8 (.box (.t 0) 1),o_ 10 (.alloc [(.bool false)])])
 (.seq (.seq (.reg [y_ 15 8,y_ 16 2,o_ 17 (n_ 16),o_ 18 (.bin .eql (.t 15) (.t 17))])
 (.cond (.t 18) (.seq (.reg [y_ 20 3,o_ 21 (w_ 4 3),y_ 22 5,y_ 23 2,c_ 24 94 [(.t 20),(.t 21),(.t 22),(.t 23)],v_ 19 24,o_ 25 (e_ 19 0),o_ 26 (e_ 19 1),o_ 11 (.alloc [.nilS,.nilS,.nilS]),o_ 12 (.alloc [(.int .i64 0),(.int .i64 0)]),s_ 11 25 3,s_ 12 26 2])
 (.seq (.reg [o_ 27 (a_ 12 0),y_ 28 27,o_ 29 (.bin .neq (.t 28) (i_ 1)),v_ 30 29,q_ 31 30 false (l_ 6),q_ 32 30 false (l_ 2),q_ 33 30 false (w_ 11 3),.call (some 34) (some (30,false)) (.t 31) [(.t 32),(.t 33)],o_ 35 (r_ 30 34),s_ 10 35 1])
 .ret))
 .skip))
 (.seq (.seq (.reg [y_ 36 3,o_ 37 (w_ 4 3),y_ 38 5,y_ 39 8,v_ 40 1,c_ 41 125 [(.t 36),(.t 37),(.t 38),(.t 39),(.t 40)]])
 (.blk 0 (.rng (.t 41) #[42,43] (eM (jY 124) [1,1,0,1,0,0]) (eM (jY 124) [1,1,0,1,0,1]) R124_0a R124_0b)))
 (.seq (.reg [.op none none (.store (.t 10) (.k (.bool true)) 1)])
 .ret))))⟩
def mf125 : SF := ⟨12,[(.t 10)],
 (.seq (.reg [o_ 5 (.box (.t 0) 1),o_ 6 (.box (.t 1) 3),o_ 7 (.box (.t 2) 1),o_ 8 (.box (.t 3) 1),o_ 9 (.box (.t 4) 1),o_ 10 (.mov (.k .nilF))])
 (.seq (.reg [o_ 11 (.mkfn (.func 146) [] [(.t 9),(.t 6),(.t 8),(.t 5),(.t 7)]),v_ 10 11])
 .ret))⟩
def mf126 : SF := ⟨8,[(.t 2)],
 (.seq (.reg [o_ 2 (.mov (.k .nilS))])
 (.seq (.seq (.reg [v_ 3 0,o_ 4 (.eqnil true false (.t 3))])
 (.cond (.t 4) (.seq (.reg [o_ 2 (.mov (.k .nilS))])
 .ret)
 .skip))
 (.seq (.reg [o_ 5 (.bslice 2 [(.int .i64 0),.nilS] 0 []),v_ 6 0,o_ 7 (.app 2 [(.int .i64 0),.nilS] 32 (.t 5) (.t 6)),v_ 2 7])
 .ret)))⟩
def mf127 : SF := ⟨8,[(.t 2)],
 (.seq (.reg [o_ 2 (.mov (.k .nilS))])
 (.seq (.seq (.reg [v_ 3 0,o_ 4 (.eqnil true false (.t 3))])
 (.cond (.t 4) (.seq (.reg [o_ 2 (.mov (.k .nilS))])
 .ret)
 .skip))
 (.seq (.reg [o_ 5 (.bslice 1 [(.int .i64 0)] 0 []),v_ 6 0,o_ 7 (.app 1 [(.int .i64 0)] 8 (.t 5) (.t 6)),v_ 2 7])
 .ret)))⟩
def L128_0 : SC := (.seq (.seq (.reg [v_ 17 10,v_ 18 8,o_ 19 (.bin .lss (.t 17) (.t 18))])
 (.cond (.t 19) .skip
 (.exit 2)))
 (.seq (.blk 3 (.draw [true] [v_ 22 9,v_ 23 22,q_ 24 23 true (w_ 3 5),q_ 25 23 true (m_ 1),q_ 26 23 true (m_ 10),q_ 27 23 true (x_ 1 25 26),q_ 28 23 true (l_ 27),q_ 29 23 true (m_ 1),q_ 30 23 true (m_ 8),q_ 31 23 true (x_ 1 29 30),q_ 32 23 true (l_ 31),q_ 33 23 true (m_ 2),d_ 34 23 true 46 [(.t 24),(.t 28),(.t 32),(.t 33)],q_ 35 23 true (.un .not (.t 34)),o_ 36 (p_ 23 35),v_ 9 36] [[],[0],[1,0],[1,0],[1,0],[3,1,0,4],[5,3,1,0,4],[1,0],[1,0],[7,1,0,8],[9,7,1,0,8],[1,0],[2,1,0,6,5,3,4,10,9,7,8,11],[12,2,1,0,6,5,3,4,10,9,7,8,11],[1,0,13,12,2,6,5,3,4,10,9,7,8,11],[14,1,0,13,12,2,6,5,3,4,10,9,7,8,11]]))
 (.reg [v_ 20 10,j_ 21 20,v_ 10 21])))
def L128_1 : SC := (.seq (.seq (.reg [v_ 11 8,v_ 12 1,o_ 13 (n_ 12),o_ 14 (.bin .lss (.t 11) (.t 13))])
 (.cond (.t 14) .skip
 (.exit 0)))
 (.seq (.blk 1 (.seq (.reg [o_ 9 (b_ true)])
 (.seq (.seq (.reg [o_ 10 (.mov (i_ 0))])
 (.blk 2 (.loop [1,2,3,7,8,9,10] L128_0)))
 (.seq (.reg [v_ 37 9])
 (.cond (.t 37) (.reg [v_ 38 7,v_ 39 1,v_ 40 8,z_ 41 1 39 40,y_ 42 41,o_ 43 (.bslice 1 [(.int .i64 0)] 1 [(0,1,(.t 42))]),o_ 44 (.app 1 [(.int .i64 0)] 8 (.t 38) (.t 43)),v_ 7 44])
 .skip)))))
 (.reg [v_ 15 8,j_ 16 15,v_ 8 16])))
def mf128 : SF := ⟨46,[(.t 6)],
 (.seq (.reg [o_ 3 (.box (.t 0) 5),o_ 6 (.mov (.k .nilS))])
 (.seq (.reg [o_ 7 (.mov (.k .nilS))])
 (.seq (.seq (.reg [o_ 8 (.mov (i_ 0))])
 (.blk 0 (.loop [1,2,3,7,8] L128_1)))
 (.seq (.reg [v_ 45 7,v_ 6 45])
 .ret))))⟩
def L129_0 : SC := (.seq (.seq (.reg [v_ 20 6,v_ 21 4,o_ 22 (n_ 21),o_ 23 (.bin .lss (.t 20) (.t 22))])
 (.cond (.t 23) .skip
 (.exit 2)))
 (.seq (.blk 3 (.reg [v_ 26 3,v_ 27 5,v_ 28 4,v_ 29 6,z_ 30 1 28 29,y_ 31 30,o_ 32 (.build [(.int .i64 0),.nilS] [(0,1,(.t 27)),(1,1,(.t 31))]),o_ 33 (.bslice 2 [(.int .i64 0),.nilS] 1 [(0,2,(.t 32))]),o_ 34 (.app 2 [(.int .i64 0),.nilS] 32 (.t 26) (.t 33)),v_ 3 34]))
 (.reg [v_ 24 6,j_ 25 24,v_ 6 25])))
def L129_1 : SC := (.seq (.seq (.reg [v_ 13 5,o_ 14 (a_ 1 0),y_ 15 14,o_ 16 (n_ 15),o_ 17 (.bin .lss (.t 13) (.t 16))])
 (.cond (.t 17) .skip
 (.exit 0)))
 (.seq (.blk 1 (.seq (.reg [o_ 6 (.mov (i_ 0))])
 (.blk 2 (.loop [1,3,4,5,6] L129_0))))
 (.reg [v_ 18 5,j_ 19 18,v_ 5 19])))
def mf129 : SF := ⟨36,[(.t 2)],
 (.seq (.reg [o_ 1 (.box (.t 0) 5),o_ 2 (.mov (.k .nilS))])
 (.seq (.reg [o_ 7 (.build [(.int .i64 0),.nilS] [(0,1,(i_ (-1)))]),o_ 8 (.bslice 2 [(.int .i64 0),.nilS] 1 [(0,2,(.t 7))]),v_ 3 8])
 (.seq (.reg [o_ 9 (a_ 1 3),y_ 10 9,o_ 11 (n_ 10),c_ 12 149 [(.t 11),(i_ 0),(.k .nilS)],v_ 4 12])
 (.seq (.seq (.reg [o_ 5 (.mov (i_ 0))])
 (.blk 0 (.loop [1,3,4,5] L129_1)))
 (.seq (.reg [v_ 35 3,v_ 2 35])
 .ret)))))⟩
def D136_0 : List MIx := [o_ 12 (.load (.t 0) (some 3)),o_ 13 (.load (.t 4) (some 2)),.op none none (.store (.t 1) (.t 12) 3),.op none none (.store (.t 2) (.t 13) 2)]
def B136_0 : List (List Nat) := [[],[],[0],[1,2,0]]
def mf136 : SF := ⟨14,[],
 (.seq (.reg [o_ 6 .recov])
 (.blk 0 (.seq (.reg [o_ 8 (.eqni false (.t 6))])
 (.cond (.t 8) (.reg [v_ 3 6])
 (.seq (.reg [o_ 9 (.tass 147 (.agg [(.int .i64 0),(.int .i64 0)]) true (.t 6)),o_ 10 (e_ 9 1),o_ 11 (e_ 9 0)])
 (.cond (.t 10) (.seq (.reg [o_ 4 (.alloc [(.int .i64 0),(.int .i64 0)]),s_ 4 11 2])
 (.draw [] D136_0 B136_0))
 (.seq (.reg [v_ 5 6])
 (.regP [v_ 7 5] none (.t 7) []))))))))⟩
def aD4 : List MIx := [o_ 2 (.load (.t 1) (some 9)),o_ 3 (.addr (.t 1) 0),o_ 4 (l_ 3),o_ 5 (.addr (.t 1) 3),o_ 6 (.addr (.t 5) 0),o_ 7 (l_ 6),o_ 8 (.addr (.t 1) 7),o_ 9 (l_ 8),o_ 10 (.idxs 1 (.t 7) (.t 9)),o_ 11 (l_ 10),o_ 12 (.addr (.t 1) 1),o_ 13 (.addr (.t 12) 0),o_ 14 (l_ 13),.call (some 15) none (f_ 147) [(.t 4),(.t 11),(.t 14)],.call (some 16) none (f_ 150) [(.t 2),(.t 15),(i_ 2)]]
def aLK : List (List Nat) := [[],[],[1],[],[3],[4,3],[],[6],[5,4,3,7,6],[8,5,4,3,7,6],[],[10],[11,10],[2,1,9,8,5,4,3,7,6,12,11,10],[0,13,2,1,9,8,5,4,3,7,6,12,11,10]]
def mf137 : SF := ⟨17,[],
 (.seq (.reg [o_ 1 (.box (.t 0) 9)])
 (.draw [] aD4 aLK))⟩
def mf138 : SF := ⟨23,[],
 (.seq (.reg [o_ 1 (.box (.t 0) 9)])
 (.drawE [o_ 2 (w_ 1 9),o_ 3 (a_ 1 6),y_ 4 3,o_ 5 (a_ 1 3),o_ 6 (a_ 5 0),y_ 7 6,o_ 8 (a_ 1 7),y_ 9 8,z_ 10 1 7 9,y_ 11 10,o_ 12 (.bin .shr (.t 4) (.t 11)),o_ 13 (a_ 1 6),y_ 14 13,o_ 15 (a_ 1 1),o_ 16 (a_ 15 0),y_ 17 16,o_ 18 (.bin .shr (.t 14) (.t 17)),o_ 19 (.bin .and (.t 12) (.t 18)),o_ 20 (.bin .and (.t 19) (i_ 1)),o_ 21 (.bin .eql (.t 20) (i_ 1))] (some 22) (f_ 150) [(.t 2),(.t 21),(i_ 3)] [[],[],[1],[],[3],[4,3],[],[6],[5,4,3,7,6],[8,5,4,3,7,6],[2,1,9,8,5,4,3,7,6],[],[11],[],[13],[14,13],[12,11,15,14,13],[10,2,1,9,8,5,4,3,7,6,16,12,11,15,14,13],[17,10,2,1,9,8,5,4,3,7,6,16,12,11,15,14,13],[18,17,10,2,1,9,8,5,4,3,7,6,16,12,11,15,14,13],[0,19,18,17,10,2,1,9,8,5,4,3,7,6,16,12,11,15,14,13]]))⟩
def mf139 : SF := ⟨23,[],
 (.seq (.reg [o_ 1 (.box (.t 0) 9)])
 (.drawE [o_ 2 (w_ 1 9),o_ 3 (a_ 1 3),o_ 4 (a_ 3 1),y_ 5 4,o_ 6 (a_ 1 7),y_ 7 6,z_ 8 1 5 7,y_ 9 8,o_ 10 (a_ 1 0),y_ 11 10,o_ 12 (.nilck (.t 11)),o_ 13 (a_ 12 0),o_ 14 (a_ 13 2),y_ 15 14,o_ 16 (a_ 1 7),y_ 17 16,z_ 18 5 15 17,o_ 19 (a_ 18 3),y_ 20 19,o_ 21 (.bin .lss (.t 9) (.t 20))] (some 22) (f_ 150) [(.t 2),(.t 21),(i_ 4)] [[],[],[1],[2,1],[],[4],[3,2,1,5,4],[6,3,2,1,5,4],[],[8],[9,8],[10,9,8],[11,10,9,8],[12,11,10,9,8],[],[14],[13,12,11,10,9,8,15,14],[16,13,12,11,10,9,8,15,14],[17,16,13,12,11,10,9,8,15,14],[7,6,3,2,1,5,4,18,17,16,13,12,11,10,9,8,15,14],[0,19,7,6,3,2,1,5,4,18,17,16,13,12,11,10,9,8,15,14]]))⟩
def L140_0 : SC := (.seq (.reg [o_ 9 (.bin .lss (.t 8) (.t 7))])
 (.seq (.cond (.t 9) .skip
 (.exit 0))
 (.seq (.blk 1 (.seq (.reg [z_ 10 1 6 8,y_ 11 10,v_ 3 11])
 (.seq (.drawE [o_ 12 (w_ 1 9),o_ 13 (a_ 1 3),o_ 14 (a_ 13 2),y_ 15 14,v_ 16 3,z_ 17 1 15 16,y_ 18 17,o_ 19 (a_ 1 3),o_ 20 (a_ 19 0),y_ 21 20,o_ 22 (a_ 1 7),y_ 23 22,z_ 24 1 21 23,y_ 25 24,o_ 26 (.bin .eql (.t 18) (.t 25)),v_ 27 26,q_ 28 27 true (a_ 1 8),q_ 29 27 true (l_ 28),q_ 30 27 true (m_ 3),q_ 31 27 true (.nilck (.t 29)),q_ 32 27 true (.idxa 4 1 (.t 31) (.t 30)),q_ 33 27 true (l_ 32),q_ 34 27 true (.un .not (.t 33)),o_ 35 (p_ 27 34)] (some 36) (f_ 150) [(.t 12),(.t 35),(i_ 5)] [[],[],[1],[2,1],[],[3,2,1,4],[5,3,2,1,4],[],[7],[8,7],[],[10],[9,8,7,11,10],[12,9,8,7,11,10],[6,5,3,2,1,4,13,12,9,8,7,11,10],[14,6,5,3,2,1,4,13,12,9,8,7,11,10],[15,14,6,5,3,2,1,4,13,12,9,8,7,11,10],[16,15,14,6,5,3,2,1,4,13,12,9,8,7,11,10],[15,14,6,5,3,2,1,4,13,12,9,8,7,11,10],[17,16,15,14,6,5,3,2,1,4,13,12,9,8,7,11,10],[19,17,16,15,14,6,5,3,2,1,4,13,12,9,8,7,11,10,18],[20,19,17,16,15,14,6,5,3,2,1,4,13,12,9,8,7,11,10,18],[21,20,19,17,16,15,14,6,5,3,2,1,4,13,12,9,8,7,11,10,18],[15,14,6,5,3,2,1,4,13,12,9,8,7,11,10,22,21,20,19,17,16,18],[0,23,15,14,6,5,3,2,1,4,13,12,9,8,7,11,10,22,21,20,19,17,16,18]])
 (.reg [o_ 37 (a_ 1 8),y_ 38 37,v_ 39 3,o_ 40 (.nilck (.t 38)),o_ 41 (.idxa 4 1 (.t 40) (.t 39)),.op none none (.store (.t 41) (.k (.bool true)) 1)]))))
 (.reg [j_ 42 8,v_ 8 42]))))
def mf140 : SF := ⟨43,[],
 (.seq (.reg [o_ 1 (.box (.t 0) 9)])
 (.seq (.reg [o_ 4 (a_ 1 1),o_ 5 (a_ 4 1),y_ 6 5,o_ 7 (n_ 6),o_ 8 (.mov (i_ 0))])
 (.blk 0 (.loop [1,6,7,8] L140_0))))⟩
def L141_0 : SC := (.seq (.reg [o_ 10 (.bin .lss (.t 9) (.t 8))])
 (.seq (.cond (.t 10) .skip
 (.exit 0))
 (.seq (.blk 1 (.seq (.reg [z_ 11 1 7 9,y_ 12 11,v_ 4 12])
 (.reg [v_ 13 2,o_ 14 (a_ 1 0),y_ 15 14,o_ 16 (.nilck (.t 15)),o_ 17 (a_ 16 0),o_ 18 (a_ 17 3),y_ 19 18,v_ 20 4,z_ 21 5 19 20,o_ 22 (a_ 21 2),y_ 23 22,o_ 24 (.bin .add (.t 13) (.t 23)),v_ 2 24])))
 (.reg [j_ 25 9,v_ 9 25]))))
def mf141 : SF := ⟨41,[],
 (.seq (.reg [o_ 1 (.box (.t 0) 9)])
 (.seq (.reg [o_ 2 (.mov (i_ 0))])
 (.seq (.seq (.reg [o_ 5 (a_ 1 1),o_ 6 (a_ 5 1),y_ 7 6,o_ 8 (n_ 7),o_ 9 (.mov (i_ 0))])
 (.blk 0 (.loop [1,2,7,8,9] L141_0)))
 (.drawE [o_ 26 (w_ 1 9),v_ 27 2,o_ 28 (a_ 1 0),y_ 29 28,o_ 30 (.nilck (.t 29)),o_ 31 (a_ 30 0),o_ 32 (a_ 31 2),y_ 33 32,o_ 34 (a_ 1 7),y_ 35 34,z_ 36 5 33 35,o_ 37 (a_ 36 2),y_ 38 37,o_ 39 (.bin .leq (.t 27) (.t 38))] (some 40) (f_ 150) [(.t 26),(.t 39),(i_ 6)] [[],[],[],[2],[3,2],[4,3,2],[5,4,3,2],[6,5,4,3,2],[],[8],[7,6,5,4,3,2,9,8],[10,7,6,5,4,3,2,9,8],[11,10,7,6,5,4,3,2,9,8],[1,12,11,10,7,6,5,4,3,2,9,8],[0,13,1,12,11,10,7,6,5,4,3,2,9,8]]))))⟩
def L142_0 : SC := (.seq (.seq (.reg [v_ 9 7,o_ 10 (a_ 3 1),y_ 11 10,o_ 12 (n_ 11),o_ 13 (.bin .lss (.t 9) (.t 12))])
 (.cond (.t 13) .skip
 (.exit 0)))
 (.seq (.blk 1 (.seq (.reg [o_ 16 (a_ 3 1),y_ 17 16,v_ 18 7,z_ 19 2 17 18,o_ 20 (w_ 19 2),o_ 8 (.alloc [(.int .i64 0),(.int .i64 0)]),s_ 8 20 2])
 (.seq (.reg [o_ 21 (a_ 8 0),y_ 22 21,v_ 23 1,o_ 24 (.bin .eql (.t 22) (.t 23)),v_ 25 24,q_ 26 25 true (a_ 8 1),q_ 27 25 true (l_ 26),q_ 28 25 true (m_ 2),q_ 29 25 true (.bin .eql (.t 27) (.t 28)),o_ 30 (p_ 25 29),v_ 31 30,q_ 32 31 false (a_ 8 0),q_ 33 31 false (l_ 32),q_ 34 31 false (m_ 2),q_ 35 31 false (.bin .eql (.t 33) (.t 34)),q_ 36 31 false (m_ 35),q_ 37 36 true (a_ 8 1),q_ 38 36 true (l_ 37),q_ 39 36 true (m_ 1),q_ 40 36 true (.bin .eql (.t 38) (.t 39)),q_ 41 31 false (p_ 36 40),o_ 42 (r_ 31 41)])
 (.cond (.t 42) (.seq (.reg [o_ 6 (b_ true)])
 .ret)
 .skip))))
 (.reg [v_ 14 7,j_ 15 14,v_ 7 15])))
def mf142 : SF := ⟨43,[(.t 6)],
 (.seq (.reg [o_ 3 (.box (.t 0) 5),o_ 6 (b_ false)])
 (.seq (.seq (.reg [o_ 7 (.mov (i_ 0))])
 (.blk 0 (.loop [1,2,3,7] L142_0)))
 (.seq (.reg [o_ 6 (b_ false)])
 .ret)))⟩
def L145_0 : SC := (.seq (.reg [o_ 9 (.bin .lss (.t 8) (.t 7))])
 (.seq (.cond (.t 9) .skip
 (.exit 0))
 (.seq (.blk 1 (.seq (.reg [v_ 10 8,v_ 5 10])
 (.seq (.reg [v_ 11 1,v_ 12 0,v_ 13 5,z_ 14 2 12 13,o_ 15 (w_ 14 2),.call (some 16) none (.t 11) [(.t 15)]])
 (.cond (.t 16) (.seq (.reg [v_ 17 5,v_ 4 17])
 .ret)
 .skip))))
 (.reg [j_ 18 8,v_ 8 18]))))
def mf145 : SF := ⟨19,[(.t 4)],
 (.seq (.reg [o_ 4 (.mov (i_ 0))])
 (.seq (.seq (.reg [v_ 6 0,o_ 7 (n_ 6),o_ 8 (.mov (i_ 0))])
 (.blk 0 (.loop [0,1,7,8] L145_0)))
 (.seq (.reg [o_ 4 (.mov (i_ (-1)))])
 .ret)))⟩
def aD3 : List MIx := [o_ 63 (l_ 9),o_ 64 (l_ 4),o_ 65 (.nilck (.t 64)),o_ 66 (.addr (.t 65) 0),o_ 67 (.addr (.t 66) 2),o_ 68 (l_ 67),o_ 69 (l_ 3),o_ 70 (.idxs 5 (.t 68) (.t 69)),o_ 71 (.addr (.t 70) 2),o_ 72 (l_ 71),o_ 73 (l_ 1),.call (some 74) none (.t 63) [(.k .nilS),(i_ 0),(.t 72),(.t 73)],o_ 75 (.un .not (.t 74))]
def aLJ : List (List Nat) := [[],[],[1],[2,1],[3,2,1],[4,3,2,1],[],[5,4,3,2,1,6],[7,5,4,3,2,1,6],[8,7,5,4,3,2,1,6],[],[0,9,8,7,5,4,3,2,1,6,10],[11,0,9,8,7,5,4,3,2,1,6,10]]
def L146_0 : SC := (.seq (.reg [o_ 27 (.bin .lss (.t 26) (.t 25))])
 (.seq (.cond (.t 27) .skip
 (.exit 0))
 (.seq (.blk 1 (.seq (.reg [v_ 28 26,o_ 8 (.alloc [(.int .i64 0)]),s_ 8 28 1])
 (.seq (.seq (.draw [true] [y_ 29 4,y_ 30 7,y_ 31 8,c_ 32 147 [(.t 29),(.t 30),(.t 31)],o_ 33 (.un .not (.t 32)),v_ 34 33,q_ 35 34 false (l_ 5),q_ 36 34 false (l_ 7),q_ 37 34 false (.bin .shr (.t 35) (.t 36)),q_ 38 34 false (l_ 5),q_ 39 34 false (l_ 8),q_ 40 34 false (.bin .shr (.t 38) (.t 39)),q_ 41 34 false (.bin .and (.t 37) (.t 40)),q_ 42 34 false (.bin .and (.t 41) (i_ 1)),q_ 43 34 false (.bin .eql (.t 42) (i_ 0)),o_ 44 (r_ 34 43),v_ 45 44,q_ 46 45 false (a_ 2 1),q_ 47 45 false (l_ 46),q_ 48 45 false (l_ 3),q_ 49 45 false (x_ 1 47 48),q_ 50 45 false (l_ 49),q_ 51 45 false (l_ 4),q_ 52 45 false (.nilck (.t 51)),q_ 53 45 false (a_ 52 0),q_ 54 45 false (a_ 53 2),q_ 55 45 false (l_ 54),q_ 56 45 false (l_ 3),q_ 57 45 false (x_ 5 55 56),q_ 58 45 false (a_ 57 3),q_ 59 45 false (l_ 58),q_ 60 45 false (.bin .geq (.t 50) (.t 59)),o_ 61 (r_ 45 60)] [[],[],[],[0,1,2],[3,0,1,2],[4,3,0,1,2],[5,4,3,0,1,2],[5,4,3,0,1,2],[6,5,4,3,0,1,2,7],[5,4,3,0,1,2],[5,4,3,0,1,2],[9,5,4,3,0,1,2,10],[8,6,5,4,3,0,1,2,7,11,9,10],[12,8,6,5,4,3,0,1,2,7,11,9,10],[13,12,8,6,5,4,3,0,1,2,7,11,9,10],[5,4,3,0,1,2,14,13,12,8,6,7,11,9,10],[15,5,4,3,0,1,2,14,13,12,8,6,7,11,9,10],[16,15,5,4,3,0,1,2,14,13,12,8,6,7,11,9,10],[17,16,15,5,4,3,0,1,2,14,13,12,8,6,7,11,9,10],[16,15,5,4,3,0,1,2,14,13,12,8,6,7,11,9,10],[18,17,16,15,5,4,3,0,1,2,14,13,12,8,6,7,11,9,10,19],[20,18,17,16,15,5,4,3,0,1,2,14,13,12,8,6,7,11,9,10,19],[16,15,5,4,3,0,1,2,14,13,12,8,6,7,11,9,10],[22,16,15,5,4,3,0,1,2,14,13,12,8,6,7,11,9,10],[23,22,16,15,5,4,3,0,1,2,14,13,12,8,6,7,11,9,10],[24,23,22,16,15,5,4,3,0,1,2,14,13,12,8,6,7,11,9,10],[25,24,23,22,16,15,5,4,3,0,1,2,14,13,12,8,6,7,11,9,10],[16,15,5,4,3,0,1,2,14,13,12,8,6,7,11,9,10],[26,25,24,23,22,16,15,5,4,3,0,1,2,14,13,12,8,6,7,11,9,10,27],[28,26,25,24,23,22,16,15,5,4,3,0,1,2,14,13,12,8,6,7,11,9,10,27],[29,28,26,25,24,23,22,16,15,5,4,3,0,1,2,14,13,12,8,6,7,11,9,10,27],[21,20,18,17,16,15,5,4,3,0,1,2,14,13,12,8,6,7,11,9,10,19,30,29,28,26,25,24,23,22,27],[16,15,5,4,3,0,1,2,14,13,12,8,6,7,11,9,10,31,21,20,18,17,19,30,29,28,26,25,24,23,22,27]])
 (.cond (.t 61) (.exit 1)
 .skip))
 (.seq (.reg [o_ 9 (.alloc [.nilF])])
 (.seq (.reg [o_ 62 (.mkfn (.func 148) [] [(.t 6),(.t 8),(.t 4),(.t 2),(.t 7),(.t 9)]),s_ 9 62 1])
 (.seq (.draw [] aD3 aLJ)
 (.cond (.t 75) .ret
 .skip)))))))
 (.reg [j_ 76 26,v_ 26 76]))))
def mf146 : SF := ⟨77,[],
 (.seq (.reg [o_ 6 (.box (.t 0) 1)])
 (.seq (.seq (.reg [y_ 10 6,o_ 11 (.build [(.int .i64 0),.nilS] [(0,1,(i_ (-1)))]),y_ 12 1,.call (some 13) none (.t 10) [(.t 11),(.t 12)],o_ 14 (.un .not (.t 13))])
 (.cond (.t 14) .ret
 .skip))
 (.seq (.reg [o_ 15 (a_ 2 0),y_ 16 15,y_ 17 3,z_ 18 1 16 17,y_ 19 18,o_ 7 (.alloc [(.int .i64 0)]),s_ 7 19 1])
 (.seq (.reg [y_ 20 4,o_ 21 (.nilck (.t 20)),o_ 22 (a_ 21 0),o_ 23 (a_ 22 0),y_ 24 23,o_ 25 (n_ 24),o_ 26 (.mov (i_ 0))])
 (.blk 0 (.loop [1,2,3,4,5,6,7,25,26] L146_0))))))⟩
def mf147 : SF := ⟨27,[(.t 6)],
 (.seq (.reg [o_ 6 (b_ false)])
 (.seq (.reg [v_ 7 0,o_ 8 (.nilck (.t 7)),o_ 9 (a_ 8 0),o_ 10 (a_ 9 1),y_ 11 10,v_ 12 1,v_ 13 2,o_ 14 (.build [(.int .i64 0),(.int .i64 0)] [(0,1,(.t 12)),(1,1,(.t 13))]),c_ 15 151 [(.t 11),(.t 14)],v_ 16 15,q_ 17 16 false (m_ 0),q_ 18 16 false (.nilck (.t 17)),q_ 19 16 false (a_ 18 0),q_ 20 16 false (a_ 19 1),q_ 21 16 false (l_ 20),q_ 22 16 false (m_ 2),q_ 23 16 false (m_ 1),q_ 24 16 false (.build [(.int .i64 0),(.int .i64 0)] [(0,1,(.t 22)),(1,1,(.t 23))]),d_ 25 16 false 151 [(.t 21),(.t 24)],o_ 26 (r_ 16 25),v_ 6 26])
 .ret))⟩
def D148_0 : List MIx := [o_ 61 (l_ 9),o_ 62 (m_ 0),o_ 63 (m_ 0),o_ 64 (.len (.t 63)),o_ 65 (m_ 0),o_ 66 (.len (.t 65)),o_ 67 (.slc 1 (.t 62) none (some (.t 64)) (some (.t 66))),o_ 68 (m_ 15),o_ 69 (.bslice 1 [(.int .i64 0)] 1 [(0,1,(.t 68))]),o_ 70 (.app 1 [(.int .i64 0)] 8 (.t 67) (.t 69)),o_ 71 (m_ 15),o_ 72 (.bin .add (.t 71) (i_ 1)),o_ 73 (m_ 2),o_ 74 (l_ 6),o_ 75 (.nilck (.t 74)),o_ 76 (.addr (.t 75) 0),o_ 77 (.addr (.t 76) 3),o_ 78 (l_ 77),o_ 79 (m_ 15),o_ 80 (.idxs 5 (.t 78) (.t 79)),o_ 81 (.addr (.t 80) 2),o_ 82 (l_ 81),o_ 83 (.bin .sub (.t 73) (.t 82)),o_ 84 (m_ 3),o_ 85 (m_ 15),o_ 86 (.bin .shl (i_ 1) (.t 85)),o_ 87 (.bin .or (.t 84) (.t 86)),.call (some 88) none (.t 61) [(.t 70),(.t 72),(.t 83),(.t 87)],o_ 89 (.un .not (.t 88))]
def B148_0 : List (List Nat) := [[],[],[],[2],[],[4],[1,3,2,5,4],[],[7],[6,1,3,2,5,4,8,7],[],[10],[],[],[13],[14,13],[15,14,13],[16,15,14,13],[],[17,16,15,14,13,18],[19,17,16,15,14,13,18],[20,19,17,16,15,14,13,18],[12,21,20,19,17,16,15,14,13,18],[],[],[24],[23,25,24],[0,9,6,1,3,2,5,4,8,7,11,10,22,12,21,20,19,17,16,15,14,13,18,26,23,25,24],[27,0,9,6,1,3,2,5,4,8,7,11,10,22,12,21,20,19,17,16,15,14,13,18,26,23,25,24]]
def L148_0 : SC := (.seq (.seq (.reg [v_ 24 15,y_ 25 6,o_ 26 (.nilck (.t 25)),o_ 27 (a_ 26 0),o_ 28 (a_ 27 3),y_ 29 28,o_ 30 (n_ 29),o_ 31 (.bin .lss (.t 24) (.t 30))])
 (.cond (.t 31) .skip
 (.exit 0)))
 (.seq (.blk 1 (.seq (.seq (.draw [true] [o_ 34 (a_ 7 2),y_ 35 34,v_ 36 15,z_ 37 1 35 36,y_ 38 37,y_ 39 8,o_ 40 (.bin .neq (.t 38) (.t 39)),v_ 41 40,q_ 42 41 false (m_ 3),q_ 43 41 false (m_ 15),q_ 44 41 false (.bin .shr (.t 42) (.t 43)),q_ 45 41 false (.bin .and (.t 44) (i_ 1)),q_ 46 41 false (.bin .eql (.t 45) (i_ 1)),o_ 47 (r_ 41 46),v_ 48 47,q_ 49 48 false (l_ 6),q_ 50 48 false (.nilck (.t 49)),q_ 51 48 false (a_ 50 0),q_ 52 48 false (a_ 51 3),q_ 53 48 false (l_ 52),q_ 54 48 false (m_ 15),q_ 55 48 false (x_ 5 53 54),q_ 56 48 false (a_ 55 2),q_ 57 48 false (l_ 56),q_ 58 48 false (m_ 2),q_ 59 48 false (.bin .gtr (.t 57) (.t 58)),o_ 60 (r_ 48 59)] [[],[0],[],[1,0,2],[3,1,0,2],[],[4,3,1,0,2,5],[6,4,3,1,0,2,5],[7,6,4,3,1,0,2,5],[7,6,4,3,1,0,2,5],[8,7,6,4,3,1,0,2,5,9],[10,8,7,6,4,3,1,0,2,5,9],[11,10,8,7,6,4,3,1,0,2,5,9],[7,6,4,3,1,0,2,5,12,11,10,8,9],[13,7,6,4,3,1,0,2,5,12,11,10,8,9],[14,13,7,6,4,3,1,0,2,5,12,11,10,8,9],[15,14,13,7,6,4,3,1,0,2,5,12,11,10,8,9],[16,15,14,13,7,6,4,3,1,0,2,5,12,11,10,8,9],[17,16,15,14,13,7,6,4,3,1,0,2,5,12,11,10,8,9],[18,17,16,15,14,13,7,6,4,3,1,0,2,5,12,11,10,8,9],[14,13,7,6,4,3,1,0,2,5,12,11,10,8,9],[19,18,17,16,15,14,13,7,6,4,3,1,0,2,5,12,11,10,8,9,20],[21,19,18,17,16,15,14,13,7,6,4,3,1,0,2,5,12,11,10,8,9,20],[22,21,19,18,17,16,15,14,13,7,6,4,3,1,0,2,5,12,11,10,8,9,20],[14,13,7,6,4,3,1,0,2,5,12,11,10,8,9],[23,22,21,19,18,17,16,15,14,13,7,6,4,3,1,0,2,5,12,11,10,8,9,20,24],[14,13,7,6,4,3,1,0,2,5,12,11,10,8,9,25,23,22,21,19,18,17,16,15,20,24]])
 (.cond (.t 60) (.exit 1)
 .skip))
 (.seq (.draw [] D148_0 B148_0)
 (.cond (.t 89) (.seq (.reg [o_ 14 (b_ false)])
 .ret)
 .skip))))
 (.reg [v_ 32 15,j_ 33 32,v_ 15 33])))
def mf148 : SF := ⟨90,[(.t 14)],
 (.seq (.reg [o_ 14 (b_ false)])
 (.seq (.seq (.reg [y_ 16 4,y_ 17 5,v_ 18 0,o_ 19 (.build [(.int .i64 0),.nilS] [(0,1,(.t 17)),(1,1,(.t 18))]),v_ 20 3,.call (some 21) none (.t 16) [(.t 19),(.t 20)],o_ 22 (.un .not (.t 21))])
 (.cond (.t 22) (.seq (.reg [o_ 14 (b_ false)])
 .ret)
 .skip))
 (.seq (.seq (.reg [v_ 23 1,v_ 15 23])
 (.blk 0 (.loop [0,2,3,6,7,8,9,15] L148_0)))
 (.seq (.reg [o_ 14 (b_ true)])
 .ret))))⟩
def L149_0 : SC := (.seq (.seq (.reg [v_ 12 8,v_ 13 0,o_ 14 (.bin .lss (.t 12) (.t 13))])
 (.cond (.t 14) .skip
 (.exit 0)))
 (.seq (.blk 1 (.reg [v_ 17 7,v_ 18 0,v_ 19 8,j_ 20 19,v_ 21 2,o_ 22 (.app 1 [(.int .i64 0)] 8 (.k .nilS) (.t 21)),v_ 23 8,o_ 24 (.bslice 1 [(.int .i64 0)] 1 [(0,1,(.t 23))]),o_ 25 (.app 1 [(.int .i64 0)] 8 (.t 22) (.t 24)),c_ 26 149 [(.t 18),(.t 20),(.t 25)],o_ 27 (.app 1 [.nilS] 24 (.t 17) (.t 26)),v_ 7 27]))
 (.reg [v_ 15 8,j_ 16 15,v_ 8 16])))
def mf149 : SF := ⟨29,[(.t 6)],
 (.seq (.reg [o_ 6 (.mov (.k .nilS))])
 (.seq (.reg [v_ 9 2,o_ 10 (.bslice 1 [.nilS] 1 [(0,1,(.t 9))]),v_ 7 10])
 (.seq (.seq (.reg [v_ 11 1,v_ 8 11])
 (.blk 0 (.loop [0,2,7,8] L149_0)))
 (.seq (.reg [v_ 28 7,v_ 6 28])
 .ret))))⟩
def mf150 : SF := ⟨13,[],
 (.seq (.reg [o_ 3 (.box (.t 0) 9)])
 (.seq (.reg [v_ 6 1,o_ 7 (.un .not (.t 6))])
 (.cond (.t 7) (.regP [v_ 8 2,o_ 9 (a_ 3 7),y_ 10 9,o_ 11 (.build [(.int .i64 0),(.int .i64 0)] [(0,1,(.t 8)),(1,1,(.t 10))]),o_ 12 (.mkif 147 (.t 11))] none (.t 12) [])
 .skip)))⟩
def mf151 : SF := ⟨9,[(.t 4)],
 (.seq (.reg [o_ 3 (.box (.t 1) 2),o_ 4 (b_ false)])
 (.seq (.reg [v_ 5 0,o_ 6 (w_ 3 2),c_ 7 152 [(.t 5),(.t 6)],o_ 8 (.bin .geq (.t 7) (i_ 0)),v_ 4 8])
 .ret))⟩
def L152_0 : SC := (.seq (.reg [o_ 9 (.bin .lss (.t 8) (.t 7))])
 (.seq (.cond (.t 9) .skip
 (.exit 0))
 (.seq (.blk 1 (.seq (.reg [v_ 10 8,v_ 5 10])
 (.seq (.draw [true] [o_ 11 (w_ 3 2),v_ 12 0,v_ 13 5,z_ 14 2 12 13,o_ 15 (w_ 14 2),o_ 16 (.eqag [true,true] false (.t 11) (.t 15))] [[],[],[],[1,2],[3,1,2],[0,4,3,1,2]])
 (.cond (.t 16) (.seq (.reg [v_ 17 5,v_ 4 17])
 .ret)
 .skip))))
 (.reg [j_ 18 8,v_ 8 18]))))
def mf152 : SF := ⟨19,[(.t 4)],
 (.seq (.reg [o_ 3 (.box (.t 1) 2),o_ 4 (.mov (i_ 0))])
 (.seq (.seq (.reg [v_ 6 0,o_ 7 (n_ 6),o_ 8 (.mov (i_ 0))])
 (.blk 0 (.loop [0,3,7,8] L152_0)))
 (.seq (.reg [o_ 4 (.mov (i_ (-1)))])
 .ret)))⟩
theorem mf9_ok : bC Try.prog 9 = some mf9.er := by kernel_rfl
theorem mf9_b : aL Try.prog 9 = true := by kernel_rfl
theorem mf9_g : mf9.body.good = true := by kernel_rfl
theorem aJu : bC Try.prog 17 = some mf17.er := by kernel_rfl
theorem mf17_b : aL Try.prog 17 = true := by kernel_rfl
theorem mf17_g : mf17.body.good = true := by kernel_rfl
theorem aJt : bC Try.prog 18 = some mf18.er := by kernel_rfl
theorem mf18_b : aL Try.prog 18 = true := by kernel_rfl
theorem mf18_g : mf18.body.good = true := by kernel_rfl
theorem aLx : L18_0.good = true := by kernel_rfl
theorem aJs : bC Try.prog 21 = some mf21.er := by kernel_rfl
theorem mf21_b : aL Try.prog 21 = true := by kernel_rfl
theorem mf21_g : mf21.body.good = true := by kernel_rfl
theorem aDY : L21_0.good = true := by kernel_rfl
theorem aJr : bC Try.prog 22 = some mf22.er := by kernel_rfl
theorem mf22_b : aL Try.prog 22 = true := by kernel_rfl
theorem mf22_g : mf22.body.good = true := by kernel_rfl
theorem aLw : L22_0.good = true := by kernel_rfl
theorem aJq : bC Try.prog 23 = some mf23.er := by kernel_rfl
theorem mf23_b : aL Try.prog 23 = true := by kernel_rfl
theorem mf23_g : mf23.body.good = true := by kernel_rfl
theorem aJp : bC Try.prog 26 = some mf26.er := by kernel_rfl
theorem mf26_b : aL Try.prog 26 = true := by kernel_rfl
theorem mf26_g : mf26.body.good = true := by kernel_rfl
theorem aDX : L26_0.good = true := by kernel_rfl
theorem aJo : bC Try.prog 30 = some mf30.er := by kernel_rfl
theorem mf30_b : aL Try.prog 30 = true := by kernel_rfl
theorem mf30_g : mf30.body.good = true := by kernel_rfl
theorem aJn : bC Try.prog 31 = some mf31.er := by kernel_rfl
theorem mf31_b : aL Try.prog 31 = true := by kernel_rfl
theorem mf31_g : mf31.body.good = true := by kernel_rfl
theorem aDW : L31_0.good = true := by kernel_rfl
theorem aJm : bC Try.prog 32 = some mf32.er := by kernel_rfl
theorem mf32_b : aL Try.prog 32 = true := by kernel_rfl
theorem mf32_g : mf32.body.good = true := by kernel_rfl
theorem aDV : L32_0.good = true := by kernel_rfl
theorem aLv : L32_1.good = true := by kernel_rfl
theorem aLu : L32_2.good = true := by kernel_rfl
theorem aLt : L32_3.good = true := by kernel_rfl
theorem aLs : L32_4.good = true := by kernel_rfl
theorem aDU : L32_5.good = true := by kernel_rfl
theorem aDT : L32_6.good = true := by kernel_rfl
theorem aJl : bC Try.prog 33 = some mf33.er := by kernel_rfl
theorem mf33_b : aL Try.prog 33 = true := by kernel_rfl
theorem mf33_g : mf33.body.good = true := by kernel_rfl
theorem aDS : L33_0.good = true := by kernel_rfl
theorem aLr : L33_1.good = true := by kernel_rfl
theorem aCX : bC Try.prog 34 = some mf34.er := by kernel_rfl
theorem aF4 : aL Try.prog 34 = true := by kernel_rfl
theorem aF3 : mf34.body.good = true := by kernel_rfl
theorem aJk : bC Try.prog 35 = some mf35.er := by kernel_rfl
theorem mf35_b : aL Try.prog 35 = true := by kernel_rfl
theorem mf35_g : mf35.body.good = true := by kernel_rfl
theorem aJj : bC Try.prog 36 = some mf36.er := by kernel_rfl
theorem mf36_b : aL Try.prog 36 = true := by kernel_rfl
theorem mf36_g : mf36.body.good = true := by kernel_rfl
theorem aDR : L36_0.good = true := by kernel_rfl
theorem aDQ : L36_1.good = true := by kernel_rfl
theorem aJi : bC Try.prog 37 = some mf37.er := by kernel_rfl
theorem mf37_b : aL Try.prog 37 = true := by kernel_rfl
theorem mf37_g : mf37.body.good = true := by kernel_rfl
theorem aLq : L37_0.good = true := by kernel_rfl
theorem aLp : L37_1.good = true := by kernel_rfl
theorem aJh : bC Try.prog 38 = some mf38.er := by kernel_rfl
theorem mf38_b : aL Try.prog 38 = true := by kernel_rfl
theorem mf38_g : mf38.body.good = true := by kernel_rfl
theorem aJg : bC Try.prog 40 = some mf40.er := by kernel_rfl
theorem mf40_b : aL Try.prog 40 = true := by kernel_rfl
theorem mf40_g : mf40.body.good = true := by kernel_rfl
theorem aLo : L40_0.good = true := by kernel_rfl
theorem aLn : L40_1.good = true := by kernel_rfl
theorem aJf : bC Try.prog 42 = some mf42.er := by kernel_rfl
theorem mf42_b : aL Try.prog 42 = true := by kernel_rfl
theorem mf42_g : mf42.body.good = true := by kernel_rfl
theorem aJe : bC Try.prog 43 = some mf43.er := by kernel_rfl
theorem mf43_b : aL Try.prog 43 = true := by kernel_rfl
theorem mf43_g : mf43.body.good = true := by kernel_rfl
theorem aLm : L43_0.good = true := by kernel_rfl
theorem aJd : bC Try.prog 46 = some mf46.er := by kernel_rfl
theorem mf46_b : aL Try.prog 46 = true := by kernel_rfl
theorem mf46_g : mf46.body.good = true := by kernel_rfl
theorem aDP : L46_0.good = true := by kernel_rfl
theorem aJc : bC Try.prog 47 = some mf47.er := by kernel_rfl
theorem mf47_b : aL Try.prog 47 = true := by kernel_rfl
theorem mf47_g : mf47.body.good = true := by kernel_rfl
theorem aDO : L47_0.good = true := by kernel_rfl
theorem aJb : bC Try.prog 54 = some mf54.er := by kernel_rfl
theorem mf54_b : aL Try.prog 54 = true := by kernel_rfl
theorem mf54_g : mf54.body.good = true := by kernel_rfl
theorem aDN : L54_0.good = true := by kernel_rfl
theorem aDM : L54_1.good = true := by kernel_rfl
theorem aJa : bC Try.prog 56 = some mf56.er := by kernel_rfl
theorem mf56_b : aL Try.prog 56 = true := by kernel_rfl
theorem mf56_g : mf56.body.good = true := by kernel_rfl
theorem aDL : L56_0.good = true := by kernel_rfl
theorem aDK : L56_1.good = true := by kernel_rfl
theorem aDJ : L56_2.good = true := by kernel_rfl
theorem aI9 : bC Try.prog 60 = some mf60.er := by kernel_rfl
theorem mf60_b : aL Try.prog 60 = true := by kernel_rfl
theorem mf60_g : mf60.body.good = true := by kernel_rfl
theorem aI8 : bC Try.prog 61 = some mf61.er := by kernel_rfl
theorem mf61_b : aL Try.prog 61 = true := by kernel_rfl
theorem mf61_g : mf61.body.good = true := by kernel_rfl
theorem aI7 : bC Try.prog 62 = some mf62.er := by kernel_rfl
theorem mf62_b : aL Try.prog 62 = true := by kernel_rfl
theorem mf62_g : mf62.body.good = true := by kernel_rfl
theorem aI6 : bC Try.prog 63 = some mf63.er := by kernel_rfl
theorem mf63_b : aL Try.prog 63 = true := by kernel_rfl
theorem mf63_g : mf63.body.good = true := by kernel_rfl
theorem aLl : L63_0.good = true := by kernel_rfl
theorem aLk : L63_1.good = true := by kernel_rfl
theorem aI5 : bC Try.prog 64 = some mf64.er := by kernel_rfl
theorem mf64_b : aL Try.prog 64 = true := by kernel_rfl
theorem mf64_g : mf64.body.good = true := by kernel_rfl
theorem aLj : L64_0.good = true := by kernel_rfl
theorem aI4 : bC Try.prog 66 = some mf66.er := by kernel_rfl
theorem mf66_b : aL Try.prog 66 = true := by kernel_rfl
theorem mf66_g : mf66.body.good = true := by kernel_rfl
theorem aI3 : bC Try.prog 68 = some mf68.er := by kernel_rfl
theorem mf68_b : aL Try.prog 68 = true := by kernel_rfl
theorem mf68_g : mf68.body.good = true := by kernel_rfl
theorem aI2 : bC Try.prog 69 = some mf69.er := by kernel_rfl
theorem mf69_b : aL Try.prog 69 = true := by kernel_rfl
theorem mf69_g : mf69.body.good = true := by kernel_rfl
theorem aDI : L69_0.good = true := by kernel_rfl
theorem aI1 : bC Try.prog 70 = some mf70.er := by kernel_rfl
theorem mf70_b : aL Try.prog 70 = true := by kernel_rfl
theorem mf70_g : mf70.body.good = true := by kernel_rfl
theorem aI0 : bC Try.prog 71 = some mf71.er := by kernel_rfl
theorem mf71_b : aL Try.prog 71 = true := by kernel_rfl
theorem mf71_g : mf71.body.good = true := by kernel_rfl
theorem aLi : L71_0.good = true := by kernel_rfl
theorem aIZ : bC Try.prog 72 = some mf72.er := by kernel_rfl
theorem mf72_b : aL Try.prog 72 = true := by kernel_rfl
theorem mf72_g : mf72.body.good = true := by kernel_rfl
theorem aDH : L72_0.good = true := by kernel_rfl
theorem aIY : bC Try.prog 73 = some mf73.er := by kernel_rfl
theorem mf73_b : aL Try.prog 73 = true := by kernel_rfl
theorem mf73_g : mf73.body.good = true := by kernel_rfl
theorem aLh : L73_0.good = true := by kernel_rfl
theorem aIX : bC Try.prog 76 = some mf76.er := by kernel_rfl
theorem mf76_b : aL Try.prog 76 = true := by kernel_rfl
theorem mf76_g : mf76.body.good = true := by kernel_rfl
theorem aCW : bC Try.prog 77 = some mf77.er := by kernel_rfl
theorem aF2 : aL Try.prog 77 = true := by kernel_rfl
theorem aF1 : mf77.body.good = true := by kernel_rfl
theorem aDG : L77_0.good = true := by kernel_rfl
theorem aHN : R77_1a.good = true := by kernel_rfl
theorem aHM : R77_1b.good = true := by kernel_rfl
theorem aDF : L77_2.good = true := by kernel_rfl
theorem aIW : bC Try.prog 78 = some mf78.er := by kernel_rfl
theorem mf78_b : aL Try.prog 78 = true := by kernel_rfl
theorem mf78_g : mf78.body.good = true := by kernel_rfl
theorem aDE : L78_0.good = true := by kernel_rfl
theorem aDD : L78_1.good = true := by kernel_rfl
theorem aIV : bC Try.prog 79 = some mf79.er := by kernel_rfl
theorem mf79_b : aL Try.prog 79 = true := by kernel_rfl
theorem mf79_g : mf79.body.good = true := by kernel_rfl
theorem aHL : aCy.good = true := by kernel_rfl
theorem aHK : R79_0b.good = true := by kernel_rfl
theorem aIU : bC Try.prog 80 = some mf80.er := by kernel_rfl
theorem mf80_b : aL Try.prog 80 = true := by kernel_rfl
theorem mf80_g : mf80.body.good = true := by kernel_rfl
theorem aIT : bC Try.prog 81 = some mf81.er := by kernel_rfl
theorem mf81_b : aL Try.prog 81 = true := by kernel_rfl
theorem mf81_g : mf81.body.good = true := by kernel_rfl
theorem aDC : L81_0.good = true := by kernel_rfl
theorem aCV : bC Try.prog 82 = some mf82.er := by kernel_rfl
theorem aF0 : aL Try.prog 82 = true := by kernel_rfl
theorem aFZ : mf82.body.good = true := by kernel_rfl
theorem aDB : L82_0.good = true := by kernel_rfl
theorem aIS : bC Try.prog 83 = some mf83.er := by kernel_rfl
theorem mf83_b : aL Try.prog 83 = true := by kernel_rfl
theorem mf83_g : mf83.body.good = true := by kernel_rfl
theorem aDA : L83_0.good = true := by kernel_rfl
theorem aIR : bC Try.prog 84 = some mf84.er := by kernel_rfl
theorem mf84_b : aL Try.prog 84 = true := by kernel_rfl
theorem mf84_g : mf84.body.good = true := by kernel_rfl
theorem aDz : L84_0.good = true := by kernel_rfl
theorem aDy : L84_1.good = true := by kernel_rfl
theorem aIQ : bC Try.prog 85 = some mf85.er := by kernel_rfl
theorem mf85_b : aL Try.prog 85 = true := by kernel_rfl
theorem mf85_g : mf85.body.good = true := by kernel_rfl
theorem aDx : L85_0.good = true := by kernel_rfl
theorem aDw : L85_1.good = true := by kernel_rfl
theorem aCU : bC Try.prog 86 = some mf86.er := by kernel_rfl
theorem aFY : aL Try.prog 86 = true := by kernel_rfl
theorem aFX : mf86.body.good = true := by kernel_rfl
theorem aLg : L86_0.good = true := by kernel_rfl
theorem aLf : L86_1.good = true := by kernel_rfl
theorem aIP : bC Try.prog 87 = some mf87.er := by kernel_rfl
theorem mf87_b : aL Try.prog 87 = true := by kernel_rfl
theorem mf87_g : mf87.body.good = true := by kernel_rfl
theorem aLe : L87_0.good = true := by kernel_rfl
theorem aLd : L87_1.good = true := by kernel_rfl
theorem aLc : L87_2.good = true := by kernel_rfl
theorem aIO : bC Try.prog 88 = some mf88.er := by kernel_rfl
theorem mf88_b : aL Try.prog 88 = true := by kernel_rfl
theorem mf88_g : mf88.body.good = true := by kernel_rfl
theorem aLb : L88_0.good = true := by kernel_rfl
theorem aIN : bC Try.prog 89 = some mf89.er := by kernel_rfl
theorem mf89_b : aL Try.prog 89 = true := by kernel_rfl
theorem mf89_g : mf89.body.good = true := by kernel_rfl
theorem aLa : L89_0.good = true := by kernel_rfl
theorem aIM : bC Try.prog 91 = some mf91.er := by kernel_rfl
theorem mf91_b : aL Try.prog 91 = true := by kernel_rfl
theorem mf91_g : mf91.body.good = true := by kernel_rfl
theorem aDv : L91_0.good = true := by kernel_rfl
theorem aDu : L91_1.good = true := by kernel_rfl
theorem aIL : bC Try.prog 94 = some mf94.er := by kernel_rfl
theorem mf94_b : aL Try.prog 94 = true := by kernel_rfl
theorem mf94_g : mf94.body.good = true := by kernel_rfl
theorem pA : L94_0.good = true := by kernel_rfl
theorem aDt : L94_1.good = true := by kernel_rfl
theorem aDs : L94_2.good = true := by kernel_rfl
theorem aDr : L94_3.good = true := by kernel_rfl
theorem aDq : L94_4.good = true := by kernel_rfl
theorem aIK : bC Try.prog 96 = some mf96.er := by kernel_rfl
theorem mf96_b : aL Try.prog 96 = true := by kernel_rfl
theorem mf96_g : mf96.body.good = true := by kernel_rfl
theorem aDp : L96_0.good = true := by kernel_rfl
theorem aDo : L96_1.good = true := by kernel_rfl
theorem aDn : L96_2.good = true := by kernel_rfl
theorem aGJ : bC Try.prog 100 = some mf100.er := by kernel_rfl
theorem aKO : aL Try.prog 100 = true := by kernel_rfl
theorem aKN : mf100.body.good = true := by kernel_rfl
theorem aBz : L100_0.good = true := by kernel_rfl
theorem aGI : bC Try.prog 101 = some mf101.er := by kernel_rfl
theorem aKM : aL Try.prog 101 = true := by kernel_rfl
theorem aKL : mf101.body.good = true := by kernel_rfl
theorem aGH : bC Try.prog 102 = some mf102.er := by kernel_rfl
theorem aKK : aL Try.prog 102 = true := by kernel_rfl
theorem aKJ : mf102.body.good = true := by kernel_rfl
theorem aBy : L102_0.good = true := by kernel_rfl
theorem aGG : bC Try.prog 103 = some mf103.er := by kernel_rfl
theorem aKI : aL Try.prog 103 = true := by kernel_rfl
theorem aKH : mf103.body.good = true := by kernel_rfl
theorem aGF : bC Try.prog 104 = some mf104.er := by kernel_rfl
theorem aKG : aL Try.prog 104 = true := by kernel_rfl
theorem aKF : mf104.body.good = true := by kernel_rfl
theorem aGE : bC Try.prog 105 = some mf105.er := by kernel_rfl
theorem aKE : aL Try.prog 105 = true := by kernel_rfl
theorem aKD : mf105.body.good = true := by kernel_rfl
theorem aGD : bC Try.prog 107 = some mf107.er := by kernel_rfl
theorem aKC : aL Try.prog 107 = true := by kernel_rfl
theorem aKB : mf107.body.good = true := by kernel_rfl
theorem aGC : bC Try.prog 108 = some mf108.er := by kernel_rfl
theorem aKA : aL Try.prog 108 = true := by kernel_rfl
theorem aKz : mf108.body.good = true := by kernel_rfl
theorem aGB : bC Try.prog 109 = some mf109.er := by kernel_rfl
theorem aKy : aL Try.prog 109 = true := by kernel_rfl
theorem aKx : mf109.body.good = true := by kernel_rfl
theorem aBx : L109_0.good = true := by kernel_rfl
theorem aGA : bC Try.prog 110 = some mf110.er := by kernel_rfl
theorem aKw : aL Try.prog 110 = true := by kernel_rfl
theorem aKv : mf110.body.good = true := by kernel_rfl
theorem aGz : bC Try.prog 111 = some mf111.er := by kernel_rfl
theorem aKu : aL Try.prog 111 = true := by kernel_rfl
theorem aKt : mf111.body.good = true := by kernel_rfl
theorem aBw : L111_0.good = true := by kernel_rfl
theorem aGy : bC Try.prog 112 = some mf112.er := by kernel_rfl
theorem aKs : aL Try.prog 112 = true := by kernel_rfl
theorem aKr : mf112.body.good = true := by kernel_rfl
theorem aGx : bC Try.prog 113 = some mf113.er := by kernel_rfl
theorem aKq : aL Try.prog 113 = true := by kernel_rfl
theorem aKp : mf113.body.good = true := by kernel_rfl
theorem aBv : L113_0.good = true := by kernel_rfl
theorem aGw : bC Try.prog 114 = some mf114.er := by kernel_rfl
theorem aKo : aL Try.prog 114 = true := by kernel_rfl
theorem aKn : mf114.body.good = true := by kernel_rfl
theorem aGv : bC Try.prog 115 = some mf115.er := by kernel_rfl
theorem aKm : aL Try.prog 115 = true := by kernel_rfl
theorem aKl : mf115.body.good = true := by kernel_rfl
theorem aGu : bC Try.prog 116 = some mf116.er := by kernel_rfl
theorem aKk : aL Try.prog 116 = true := by kernel_rfl
theorem aKj : mf116.body.good = true := by kernel_rfl
theorem aGt : bC Try.prog 117 = some mf117.er := by kernel_rfl
theorem aKi : aL Try.prog 117 = true := by kernel_rfl
theorem aKh : mf117.body.good = true := by kernel_rfl
theorem aBu : L117_0.good = true := by kernel_rfl
theorem aGs : bC Try.prog 118 = some mf118.er := by kernel_rfl
theorem aKg : aL Try.prog 118 = true := by kernel_rfl
theorem aKf : mf118.body.good = true := by kernel_rfl
theorem aGr : bC Try.prog 119 = some mf119.er := by kernel_rfl
theorem aKe : aL Try.prog 119 = true := by kernel_rfl
theorem aKd : mf119.body.good = true := by kernel_rfl
theorem aGq : bC Try.prog 120 = some mf120.er := by kernel_rfl
theorem aKc : aL Try.prog 120 = true := by kernel_rfl
theorem aKb : mf120.body.good = true := by kernel_rfl
theorem aBt : L120_0.good = true := by kernel_rfl
theorem aGp : bC Try.prog 121 = some mf121.er := by kernel_rfl
theorem aKa : aL Try.prog 121 = true := by kernel_rfl
theorem aJ9 : mf121.body.good = true := by kernel_rfl
theorem aGo : bC Try.prog 122 = some mf122.er := by kernel_rfl
theorem aJ8 : aL Try.prog 122 = true := by kernel_rfl
theorem aJ7 : mf122.body.good = true := by kernel_rfl
theorem aGn : bC Try.prog 123 = some mf123.er := by kernel_rfl
theorem aJ6 : aL Try.prog 123 = true := by kernel_rfl
theorem aJ5 : mf123.body.good = true := by kernel_rfl
theorem aAL : bC Try.prog 124 = some mf124.er := by kernel_rfl
theorem aC2 : aL Try.prog 124 = true := by kernel_rfl
theorem aC1 : mf124.body.good = true := by kernel_rfl
theorem aE7 : R124_0a.good = true := by kernel_rfl
theorem aE6 : R124_0b.good = true := by kernel_rfl
theorem aGm : bC Try.prog 125 = some mf125.er := by kernel_rfl
theorem aJ4 : aL Try.prog 125 = true := by kernel_rfl
theorem aJ3 : mf125.body.good = true := by kernel_rfl
theorem aGl : bC Try.prog 126 = some mf126.er := by kernel_rfl
theorem aJ2 : aL Try.prog 126 = true := by kernel_rfl
theorem aJ1 : mf126.body.good = true := by kernel_rfl
theorem aGk : bC Try.prog 127 = some mf127.er := by kernel_rfl
theorem aJ0 : aL Try.prog 127 = true := by kernel_rfl
theorem aJZ : mf127.body.good = true := by kernel_rfl
theorem aGj : bC Try.prog 128 = some mf128.er := by kernel_rfl
theorem aJY : aL Try.prog 128 = true := by kernel_rfl
theorem aJX : mf128.body.good = true := by kernel_rfl
theorem aBs : L128_0.good = true := by kernel_rfl
theorem aHX : L128_1.good = true := by kernel_rfl
theorem aGi : bC Try.prog 129 = some mf129.er := by kernel_rfl
theorem aJW : aL Try.prog 129 = true := by kernel_rfl
theorem aJV : mf129.body.good = true := by kernel_rfl
theorem aHW : L129_0.good = true := by kernel_rfl
theorem aHV : L129_1.good = true := by kernel_rfl
theorem aAK : bC Try.prog 136 = some mf136.er := by kernel_rfl
theorem aC0 : aL Try.prog 136 = true := by kernel_rfl
theorem mf136_g : mf136.body.good = true := by kernel_rfl
theorem aGh : bC Try.prog 137 = some mf137.er := by kernel_rfl
theorem aJU : aL Try.prog 137 = true := by kernel_rfl
theorem aJT : mf137.body.good = true := by kernel_rfl
theorem aGg : bC Try.prog 138 = some mf138.er := by kernel_rfl
theorem aJS : aL Try.prog 138 = true := by kernel_rfl
theorem aJR : mf138.body.good = true := by kernel_rfl
theorem aGf : bC Try.prog 139 = some mf139.er := by kernel_rfl
theorem aJQ : aL Try.prog 139 = true := by kernel_rfl
theorem aJP : mf139.body.good = true := by kernel_rfl
theorem aGe : bC Try.prog 140 = some mf140.er := by kernel_rfl
theorem aJO : aL Try.prog 140 = true := by kernel_rfl
theorem aJN : mf140.body.good = true := by kernel_rfl
theorem aBr : L140_0.good = true := by kernel_rfl
theorem aGd : bC Try.prog 141 = some mf141.er := by kernel_rfl
theorem aJM : aL Try.prog 141 = true := by kernel_rfl
theorem aJL : mf141.body.good = true := by kernel_rfl
theorem aBq : L141_0.good = true := by kernel_rfl
theorem aGc : bC Try.prog 142 = some mf142.er := by kernel_rfl
theorem aJK : aL Try.prog 142 = true := by kernel_rfl
theorem aJJ : mf142.body.good = true := by kernel_rfl
theorem aHU : L142_0.good = true := by kernel_rfl
theorem aGb : bC Try.prog 145 = some mf145.er := by kernel_rfl
theorem aJI : aL Try.prog 145 = true := by kernel_rfl
theorem aJH : mf145.body.good = true := by kernel_rfl
theorem aBp : L145_0.good = true := by kernel_rfl
theorem aGa : bC Try.prog 146 = some mf146.er := by kernel_rfl
theorem aJG : aL Try.prog 146 = true := by kernel_rfl
theorem aJF : mf146.body.good = true := by kernel_rfl
theorem aHT : L146_0.good = true := by kernel_rfl
theorem aF9 : bC Try.prog 147 = some mf147.er := by kernel_rfl
theorem aJE : aL Try.prog 147 = true := by kernel_rfl
theorem aJD : mf147.body.good = true := by kernel_rfl
theorem aF8 : bC Try.prog 148 = some mf148.er := by kernel_rfl
theorem aJC : aL Try.prog 148 = true := by kernel_rfl
theorem aJB : mf148.body.good = true := by kernel_rfl
theorem aHS : L148_0.good = true := by kernel_rfl
theorem aF7 : bC Try.prog 149 = some mf149.er := by kernel_rfl
theorem aJA : aL Try.prog 149 = true := by kernel_rfl
theorem aJz : mf149.body.good = true := by kernel_rfl
theorem aHR : L149_0.good = true := by kernel_rfl
theorem aAJ : bC Try.prog 150 = some mf150.er := by kernel_rfl
theorem aCZ : aL Try.prog 150 = true := by kernel_rfl
theorem aCY : mf150.body.good = true := by kernel_rfl
theorem aF6 : bC Try.prog 151 = some mf151.er := by kernel_rfl
theorem aJy : aL Try.prog 151 = true := by kernel_rfl
theorem aJx : mf151.body.good = true := by kernel_rfl
theorem aF5 : bC Try.prog 152 = some mf152.er := by kernel_rfl
theorem aJw : aL Try.prog 152 = true := by kernel_rfl
theorem aJv : mf152.body.good = true := by kernel_rfl
theorem aBo : L152_0.good = true := by kernel_rfl
end
end Go.Proofs.Ab
