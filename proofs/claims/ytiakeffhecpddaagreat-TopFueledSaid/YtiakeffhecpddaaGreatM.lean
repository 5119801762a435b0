/- The own layer under the proofs of this seat, part M: what calls of the program come to on an abstract heap. No condition. -/
import Derived.Test.YtiakeffhecpddaaGreatJ
set_option linter.unusedSimpArgs false
set_option linter.unusedVariables false
namespace Go.Proofs.Ab
open Go Go.Proofs
variable {w0 : World} {h : aA}
attribute [local irreducible] ACall bN dG aQ dA rvC lp rg dr ex un rv
structure sA (w0 : World) (H : aA) (sb : Nat) (v ov : AV) (ob : Nat) (l : List aX) (ord rest : List Int) : Prop where
 b : H[sb]? = some (some (.row [v,ov]))
 v : dB w0 H v l
 o : (ord = [] ∧ ov = .nilS) ∨ ∃ f,ov = .sl (.own ob 0) ord.length 1 f ∧ H[ob]? = some (some (.row (cF (ord ++ rest))))
 r : ∀ n ∈ ord,0 ≤ n ∧ n < l.length
theorem sA.at_ {H : aA} {sb ob : Nat} {v ov : AV} {l : List aX} {ord rest : List Int} (s : sA w0 H sb v ov ob l ord rest) {j : Nat} (hj : j < ord.length) : cS 1 ov (some j) = some (.ptr (.own ob j)) ∧ ∀ L,rd w0 (H ++ L) (.own ob j) = some (.int .i64 ord[j]) := by
 rcases s.o with ⟨e,_⟩ | ⟨f,rfl,hb⟩
 · subst e; simp at hj
 · refine ⟨by simp [cS,hj,Pl.add,gO],fun L => ?_⟩
   simp only [rd,aB (k := L) hb]
   rw [cF,List.getElem?_map,qH hj,qA hj]; rfl
def qJ (l : List aX) (a b : Int) : Bool := decide ((l.getD a.toNat ⟨0,0⟩).til < (l.getD b.toNat ⟨0,0⟩).til) || (decide ((l.getD a.toNat ⟨0,0⟩).til = (l.getD b.toNat ⟨0,0⟩).til) && decide (a < b))
set_option maxRecDepth 20000 in
theorem aAk {sb ob : Nat} {v ov : AV} {l : List aX} {ord rest : List Int} (s : sA w0 h sb v ov ob l ord rest) {i k : Nat} (hi : i < ord.length) (hk : k < ord.length) : aQ Tryz.prog w0 231 [.ptr (.own sb 0),.int .i64 i,.int .i64 k] h (.bool (qJ l ord[i] ord[k])) h := by
 obtain ⟨i1,r1⟩ := s.at_ hi
 obtain ⟨i2,r2⟩ := s.at_ hk
 have b1 := s.r _ (qG hi)
 have b2 := s.r _ (qG hk)
 obtain ⟨a,ha⟩ : ∃ a : Nat,ord[i] = a := ⟨ord[i].toNat,by omega⟩
 obtain ⟨b,hb2⟩ : ∃ b : Nat,ord[k] = b := ⟨ord[k].toNat,by omega⟩
 rw [ha] at r1 b1 ⊢
 rw [hb2] at r2 b2 ⊢
 have al : a < l.length := by omega
 have bl : b < l.length := by omega
 obtain ⟨_,q,ix,row,_⟩ := s.v.use
 rw [List.length_map] at ix
 have t1 : ∀ L,rd w0 (h ++ L) ((q.add (a * 2)).add 1) = some (.int .i64 l[a].til) := fun L => cV (hJ row al L) (o := 1) rfl
 have t2 : ∀ L,rd w0 (h ++ L) ((q.add (b * 2)).add 1) = some (.int .i64 l[b].til) := fun L => cV (hJ row bl L) (o := 1) rfl
 have bx : ∀ L,(h ++ L : aA)[sb]? = _ := fun L => aB (k := L) s.b
 have e : qJ l a b = (decide (l[a].til < l[b].til) || (decide (l[a].til = l[b].til) && decide ((a : Int) < b))) := by
  simp only [qJ,Int.toNat_natCast,aO al,aO bl]
 rw [e]
 refine aF aI aCi aFe aFd (qE rfl) (by simp [AV.bdd,AV.bdds]) fun hb ha => aL ?_
 by_cases c1 : l[a].til < l[b].til
 · simp only [go_sem,mf231,bx,i1,i2,r1,r2,ix a al,ix b bl,t1,t2,c1]
   simp
 · by_cases c2 : l[a].til = l[b].til
   · have c2' : (l[a].til == l[b].til) = true := by simpa using c2
     simp only [go_sem,mf231,bx,i1,i2,r1,r2,ix a al,ix b bl,t1,t2,c1,c2']
     simp [c2]
   · have c2' : (l[a].til == l[b].til) = false := by simpa using c2
     simp only [go_sem,mf231,bx,i1,i2,r1,r2,ix a al,ix b bl,t1,t2,c1,c2']
     simp [c2]
structure jE (w0 : World) (K H : aA) (sb : Nat) (v ov : AV) (l : List aX) (ord : List Int) : Prop where
 k : K[sb]? = some none
 b : H[sb]? = some (some (.row [v,ov]))
 v : dB w0 K v l
 g : Gro K H 1 ord.length ov (cF ord)
 r : ∀ n ∈ ord,0 ≤ n ∧ n < l.length
theorem jE.soon {K H : aA} {sb : Nat} {v ov : AV} {l : List aX} {ord : List Int} (s : jE w0 K H sb v ov l ord) : ∃ ob,K.length ≤ ob ∧ sA w0 H sb v ov ob l ord [] := by
 obtain ⟨h1,h2⟩ : (ord = [] ∧ ov = .nilS) ∨ ∃ io,K.length ≤ io ∧ ov = .sl (.own io 0) ord.length 1 false ∧ H[io]? = some (some (.row (cF ord))) := by
  rcases s.g.own with ⟨a,b,_⟩ | ⟨io,a,b,c,d,_⟩
  · exact .inl ⟨List.eq_nil_of_length_eq_zero a,b⟩
  · exact .inr ⟨io,a,c,d⟩
 · exact ⟨K.length,Nat.le_refl _,s.b,s.v.sub s.g.sub,.inl ⟨h1,h2⟩,s.r⟩
 · rename_i hh
   obtain ⟨io,a,c,d⟩ := hh
   exact ⟨io,a,s.b,s.v.sub s.g.sub,.inr ⟨false,c,by rw [List.append_nil]; exact d⟩,s.r⟩
def lW (l : List Int) (i j : Nat) : List Int := (l.set i (l.getD j 0)).set j (l.getD i 0)
theorem oX {l : List Int} {i j : Nat} (hi : i < l.length) (hj : j < l.length) : (lW l i j).Perm l := by
 rw [lW,aO hi,aO hj]
 exact List.set_set_perm hi hj
theorem iM {o : List Int} {i : Nat} {x : Int} (hi : i < o.length) : List.take i (cF o) ++ AV.int .i64 x :: List.drop (i + 1) (cF o) = cF (o.set i x) := by
 rw [cF,cF,List.map_set,List.set_eq_take_append_cons_drop,if_pos (by simpa using hi)]
theorem uG {l : List Int} {i j : Nat} (hi : i < l.length) (hj : j < l.length) : (l.set i l[j]).set j l[i] = lW l i j := by rw [lW,aO hi,aO hj]
set_option maxRecDepth 20000 in
theorem push_c {K H : aA} {sb : Nat} {v ov : AV} {l : List aX} {ord : List Int} {x : Int} (s : jE w0 K H sb v ov l ord) (hx : 0 ≤ x ∧ x < l.length) (hl : l.length ≤ 1000) (hn : ord.length ≤ 1000) :
 ACall Tryz.prog w0 230 [.ptr (.own sb 0),.int .i64 x] H fun _ H' => ∃ ov' ord',jE w0 K H' sb v ov' l ord' ∧ ord'.Perm (ord ++ [x]) := by
 refine aR aI aCj aFg aFf (qE rfl) fun hb ha => aL ?_
 have bx : ∀ L,(H ++ L : aA)[sb]? = _ := fun L => aB (k := L) s.b
 obtain ⟨G,ap,g2⟩ := ((s.g.at1 s.b).app (L := [some (Blk.row [AV.int .i64 x])])).more (w0 := w0) (b := 8) (k := H.length) (x := [AV.int .i64 x]) (f := true) (by simp) rfl rfl (by omega) (by omega)
 have gl : (H ++ [some (Blk.row [AV.int .i64 x])]).length = H.length + 1 := by simp
 rw [gl] at ap g2
 obtain ⟨g3,w8⟩ := g2.unat s.k
 have co := s.g.gro1
 simp only [go_sem,mf230,bx,co.1,co.2,ap,w8]
 obtain ⟨ov2,hov2⟩ : ∃ y,y = AV.sl (.own (H.length + 1) 0) (ord.length + 1) 1 false := ⟨_,rfl⟩
 obtain ⟨Z,eZ⟩ : ∃ Z,Z = G.set sb (some (Blk.row [v,ov2])) := ⟨_,rfl⟩
 have z8 : Z[sb]? = some (some (.row [v,ov2])) := by rw [eZ]; exact qF (aM w8)
 have sZ : jE w0 K Z sb v ov2 l (ord ++ [x]) := ⟨s.k,z8,s.v,by
  rw [eZ,hov2,List.length_append,cF,List.map_append]; exact g3.setN s.k,fun n hn => by
  rcases List.mem_append.1 hn with h1 | h1
  · exact s.r n h1
  · rw [List.mem_singleton.1 h1]; exact hx⟩
 have lz : eH ov2 = some (.int .i64 (ord.length + 1 : Nat)) := by rw [hov2]; rfl
 rw [← hov2,← eZ]
 have w2 := bO (n := ((ord.length + 1 : Nat) : Int) - 1) (by unfold I64; omega)
 have w3 : ((ord.length + 1 : Nat) : Int) - 1 = (ord.length : Nat) := by omega
 rw [w3] at w2
 simp only [go_sem,z8,lz,w3,w2]
 have hsl : (ord ++ [x]).length = ord.length + 1 := by simp
 refine gZ (S := aA × List Int × Nat) (F := fun s => [(0,.ptr (.own sb 0)),(4,.int .i64 s.2.2)]) (H := fun s => s.1) (meas := fun s => s.2.2)
  (Inv := fun s => s.2.2 ≤ ord.length ∧ s.2.1.Perm (ord ++ [x]) ∧ jE w0 K s.1 sb v ov2 l s.2.1) (Z,ord ++ [x],ord.length) ⟨Nat.le_refl _,List.Perm.refl _,sZ⟩ rfl rfl ?_
 rintro ⟨X,o,i⟩ ⟨hi,hp,sX⟩ ih
 simp only at hi hp sX ih ⊢
 have lo : o.length = ord.length + 1 := by rw [hp.length_eq,hsl]
 refine aH aI aDT [0,4] L230_0.eq_1 ?_
 obtain ⟨ob,hob,p2,p3,p4,p5⟩ := sX.g.put (by omega)
 have sv : sA w0 X sb v ov2 ob l o [] := ⟨sX.b,sX.v.sub sX.g.sub,.inr ⟨false,p2,by rw [List.append_nil]; exact p3⟩,sX.r⟩
 by_cases h0 : 0 < i
 · have e0 : (0 : Int) < i := by omega
   obtain ⟨m,hm⟩ : ∃ m,m = (i - 1) / 2 := ⟨_,rfl⟩
   have m1 : m < i := by omega
   have wa := bO (n := ((i : Nat) : Int) - 1) (by unfold I64; omega)
   have td : (((i : Nat) : Int) - 1).tdiv 2 = (m : Int) := by
    rw [Int.tdiv_eq_ediv_of_nonneg (by omega)]; omega
   have wb := bO (n := (m : Int)) (by unfold I64; omega)
   have ah := aAk (h := X) sv (i := i) (k := m) (by omega) (by omega)
   simp only [go_sem,e0,wa,td,wb]
   refine ⟨(by unfold I64; omega),aC ah.v ?_⟩
   cases hA : qJ l (o[i]'(by omega)) (o[m]'(by omega)) with
   | false =>
    simp only [go_sem]
    exact ⟨ov2,o,sX,hp⟩
   | true =>
    obtain ⟨j1,r1⟩ := sv.at_ (j := i) (by omega)
    obtain ⟨j2,r2⟩ := sv.at_ (j := m) (by omega)
    have x8 := sX.b
    have r1 := r1 []
    have r2 := r2 []
    rw [List.append_nil] at r1 r2
    simp only [go_sem,x8,wa,td,wb,j1,j2,r1,r2,p3,p4]
    refine ⟨(by unfold I64; omega),(by unfold I64; omega),by omega,?_⟩
    rw [iM (by omega)]
    have p6 : (X.set ob (some (Blk.row (cF (o.set i (o[m]'(by omega)))))))[ob]? = _ := qF (aM p3)
    have p7 : (cF (o.set i (o[m]'(by omega)))).length = o.length := by simp [cF]
    have hml : m + 1 ≤ o.length := by omega
    simp only [go_sem,p6,p7,hml,wa,td,wb]
    rw [iM (by simp; omega),List.set_set,uG (by omega) (by omega)]
    have sp := oX (l := o) (i := i) (j := m) (by omega) (by omega)
    have hne : sb ≠ ob := fun e => by have := aM sX.k; omega
    refine ⟨(by unfold I64; omega),ih (X.set ob (some (Blk.row (cF (lW o i m)))),lW o i m,m) ⟨by simp only; omega,sp.trans hp,sX.k,?_,sX.v,?_,fun n hn => sX.r n (sp.mem_iff.1 hn)⟩ m1⟩
    · simp only; rw [qB (fun e => hne e.symm)]; exact sX.b
    · simp only; rw [sp.length_eq]; exact p5 _ (by simp [cF,sp.length_eq])
 · have e0 : ¬ (0 : Int) < i := by omega
   simp only [go_sem,e0]
   exact ⟨ov2,o,sX,hp⟩
structure jF (w0 : World) (K H : aA) (sb : Nat) (v ov : AV) (ob : Nat) (l : List aX) (ord rest : List Int) : Prop where
 sub : aD K H
 k : ∀ b,K[sb]? ≠ some (some b)
 o : ∀ b,K[ob]? ≠ some (some b)
 ne : sb ≠ ob
 bv : dB w0 K v l
 s : sA w0 H sb v ov ob l ord rest
theorem jF.put {K H : aA} {sb ob : Nat} {v ov : AV} {l : List aX} {ord rest : List Int} (s : jF w0 K H sb v ov ob l ord rest) {ord' : List Int} (hl : ord'.length = ord.length) (hr : ∀ n ∈ ord',0 ≤ n ∧ n < l.length) (hn : ord ≠ []) : jF w0 K (H.set ob (some (.row (cF (ord' ++ rest))))) sb v ov ob l ord' rest := by
 rcases s.s.o with ⟨e,_⟩ | ⟨f,h1,h2⟩
 · exact absurd e hn
 have hs : aD K (H.set ob (some (.row (cF (ord' ++ rest))))) := ⟨by rw [List.length_set]; exact s.sub.1,fun i b e => by
  by_cases hi : ob = i
  · exact absurd (hi ▸ e) (s.o b)
  · rw [qB hi]; exact s.sub.2 i b e⟩
 refine ⟨hs,s.k,s.o,s.ne,s.bv,⟨?_,s.bv.sub hs,.inr ⟨f,by rw [hl]; exact h1,qF (aM h2)⟩,hr⟩⟩
 rw [qB s.ne.symm]; exact s.s.b
theorem aB5 {ord rest : List Int} {n : Nat} (hn : ord.length = n + 1) : (ord[0] :: ((ord ++ rest).set 0 ord[n]).take n).Perm ord := by
 rcases ord with _ | ⟨a,t⟩
 · simp at hn
 rcases n with _ | k
 · simp only [List.length_cons] at hn
   have : t = [] := List.eq_nil_of_length_eq_zero (by omega)
   subst this; simp
 · simp only [List.length_cons,Nat.add_right_cancel_iff] at hn
   have e : t.take k ++ [t[k]] = t := by rw [← List.take_succ_eq_append_getElem (by omega),List.take_of_length_le (by omega)]
   simp only [List.cons_append,List.getElem_cons_zero,List.getElem_cons_succ,List.set_cons_zero,List.take_succ_cons]
   rw [List.take_append_of_le_length (by omega)]
   refine List.Perm.cons _ ?_
   conv => rhs; rw [← e]
   exact (List.perm_append_singleton _ _).symm
def PopK (w0 : World) (K : aA) (sb ob : Nat) (v : AV) (l : List aX) (ord : List Int) (y : AV) (H' : aA) : Prop :=
 ∃ ov' ord' rest',jF w0 K H' sb v ov' ob l ord' rest' ∧ ((ord = [] ∧ ord' = [] ∧ y = .tup [.int .i64 0,.bool false]) ∨ ∃ x,y = .tup [.int .i64 x,.bool true] ∧ (x :: ord').Perm ord)
set_option maxRecDepth 20000 in
theorem pop_c {K H : aA} {sb ob : Nat} {v ov : AV} {l : List aX} {ord rest : List Int} (s : jF w0 K H sb v ov ob l ord rest) (hl : l.length ≤ 1000) (hn : ord.length ≤ 1000) :
 ACall Tryz.prog w0 229 [.ptr (.own sb 0)] H (PopK w0 K sb ob v l ord) := by
 refine aR aI aCk aFi aFh (qE rfl) fun hb ha => aL ?_
 rw [List.append_nil]
 have bx := s.s.b
 have lo : eH ov = some (.int .i64 ord.length) := by
  rcases s.s.o with ⟨h1,h2⟩ | ⟨f,h1,_⟩
  · subst h1; subst h2; rfl
  · subst h1; rfl
 by_cases h0 : ord = []
 · subst h0
   have lo : eH ov = some (.int .i64 0) := lo
   have wm : wi (-1) = -1 := by decide
   simp only [go_sem,mf229,bx,lo,wm]
   exact ⟨ov,[],rest,s,.inl ⟨rfl,rfl,rfl⟩⟩
 obtain ⟨n,hn1⟩ : ∃ n,ord.length = n + 1 := ⟨ord.length - 1,by have := List.length_pos_iff.2 h0; omega⟩
 have wa := bO (n := ((ord.length : Nat) : Int) - 1) (by unfold I64; omega)
 have wc : ((ord.length : Nat) : Int) - 1 = (n : Nat) := by omega
 rw [wc] at wa
 have e0 : ¬ ((n : Nat) : Int) < 0 := by omega
 obtain ⟨i0,r0⟩ := s.s.at_ (j := 0) (by omega)
 obtain ⟨i1,r1⟩ := s.s.at_ (j := n) (by omega)
 have r0 := r0 []
 have r1 := r1 []
 rw [List.append_nil] at r0 r1
 obtain ⟨f,hov,h2⟩ : ∃ f,ov = .sl (.own ob 0) ord.length 1 f ∧ H[ob]? = some (some (.row (cF (ord ++ rest)))) := by
  rcases s.s.o with ⟨e,_⟩ | h1
  · exact absurd e h0
  · exact h1
 have hl2 : (cF (ord ++ rest)).length = ord.length + rest.length := by simp [cF]
 have hl3 : 1 ≤ ord.length + rest.length := by omega
 simp only [go_sem,mf229,bx,lo,wc,wa,e0,i0,i1,r0,r1,h2,hl2,hl3]
 obtain ⟨M,eM⟩ : ∃ M,M = (ord ++ rest).set 0 (ord[n]'(by omega)) := ⟨_,rfl⟩
 have lM : M.length = ord.length + rest.length := by rw [eM]; simp
 have e1 := iM (o := ord ++ rest) (i := 0) (x := ord[n]'(by omega)) (by simp; omega)
 rw [List.take_zero,List.nil_append,Nat.zero_add,← eM] at e1
 rw [e1]
 obtain ⟨H1,eH1⟩ : ∃ H1,H1 = H.set ob (some (Blk.row (cF M))) := ⟨_,rfl⟩
 have b1 : H1[sb]? = some (some (.row [v,ov])) := by rw [eH1,qB s.ne.symm]; exact bx
 have o1 : H1[ob]? = some (some (.row (cF M))) := by rw [eH1]; exact qF (aM h2)
 rw [← eH1]
 rw [hov] at b1 ⊢
 have c1 : (n : Int) ≤ (ord.length : Nat) := by omega
 simp only [go_sem,b1,c1]
 refine ⟨⟨by omega,by omega⟩,?_⟩
 obtain ⟨ov1,hov1⟩ : ∃ y,y = AV.sl (.own ob 0) (n - 0) 1 (f && n == ord.length) := ⟨_,rfl⟩
 rw [← hov1]
 rw [Nat.sub_zero] at hov1
 obtain ⟨H2,eH2⟩ : ∃ H2,H2 = H1.set sb (some (Blk.row [v,ov1])) := ⟨_,rfl⟩
 rw [← eH2]
 have pp := aB5 (rest := rest) hn1
 rw [← eM] at pp
 have lT : (M.take n).length = n := by rw [List.length_take]; omega
 have sH2 : aD K H2 := ⟨by rw [eH2,List.length_set,eH1,List.length_set]; exact s.sub.1,fun i b e => by
  have n1 : sb ≠ i := fun w => by subst w; exact s.k b e
  have n2 : ob ≠ i := fun w => by subst w; exact s.o b e
  rw [eH2,qB n1,eH1,qB n2]
  exact s.sub.2 i b e⟩
 have sP : jF w0 K H2 sb v ov1 ob l (M.take n) (M.drop n) := ⟨sH2,s.k,s.o,s.ne,s.bv,⟨by rw [eH2]; exact qF (aM b1),s.bv.sub sH2,.inr ⟨_,by rw [lT]; exact hov1,by rw [eH2,qB s.ne,List.take_append_drop]; exact o1⟩,fun z hz => s.s.r z (pp.mem_iff.1 (List.mem_cons_of_mem _ hz))⟩⟩
 refine gZ (S := aA × List Int × Nat) (F := fun s => [(0,.ptr (.own sb 0)),(4,.int .i64 n),(5,.int .i64 (ord[0]'(by omega))),(6,.int .i64 s.2.2)]) (H := fun s => s.1) (meas := fun s => n - s.2.2)
  (Inv := fun s => s.2.2 ≤ n ∧ s.2.1.Perm (M.take n) ∧ jF w0 K s.1 sb v ov1 ob l s.2.1 (M.drop n)) (H2,M.take n,0) ⟨by simp,List.Perm.refl _,sP⟩ rfl rfl ?_
 rintro ⟨X,o,i⟩ ⟨hi,hp,sX⟩ ih
 simp only at hi hp sX ih ⊢
 have lo : o.length = n := by rw [hp.length_eq,lT]
 refine aH aI aDU [0,4,5,6] L229_1.eq_1 ?_
 have wk1 := bO (n := 2 * (i : Int)) (by unfold I64; omega)
 have wk2 := bO (n := 2 * (i : Int) + 1) (by unfold I64; omega)
 have wk3 := bO (n := 2 * (i : Int) + 2) (by unfold I64; omega)
 simp only [go_sem,wk1,wk2]
 refine ⟨(by unfold I64; omega),(by unfold I64; omega),?_⟩
 refine gZ (S := Nat × Nat) (F := fun s => [(0,.ptr (.own sb 0)),(4,.int .i64 n),(5,.int .i64 (ord[0]'(by omega))),(6,.int .i64 i),(7,.int .i64 s.1),(8,.int .i64 s.2)]) (H := fun _ => X) (meas := fun s => 2 * i + 3 - s.2)
  (Inv := fun s => (s.1 = i ∨ i < s.1 ∧ s.1 < n) ∧ i < s.2 ∧ s.2 ≤ 2 * i + 3) (i,2 * i + 1) ⟨.inl rfl,by simp only; omega,by simp only; omega⟩ (by simp) rfl ?_
 rintro ⟨m,k⟩ ⟨hm,hk1,hk2⟩ ih2
 simp only at hm hk1 hk2 ih2 ⊢
 refine aH aI aDV [0,4,5,6,7,8] L229_0.eq_1 ?_
 rcases (show ((k : Int) ≤ 2 * (i : Int) + 2 ∧ (k : Int) < n) ∨ ¬ (k : Int) ≤ 2 * (i : Int) + 2 ∨ ((k : Int) ≤ 2 * (i : Int) + 2 ∧ ¬ (k : Int) < n) from by omega) with ⟨c1,c2⟩ | c1 | ⟨c1,c2⟩
 · have ah := aAk (h := X) sX.s (i := k) (k := m) (by omega) (by omega)
   simp only [go_sem,wk1,c1,c2]
   refine ⟨(by unfold I64; omega),(by unfold I64; omega),aC ah.v ?_⟩
   cases hA : qJ l (o[k]'(by omega)) (o[m]'(by omega)) with
   | false =>
    simp only [go_sem]
    exact ⟨(by unfold I64; omega),ih2 (m,k + 1) ⟨hm,by simp only; omega,by simp only; omega⟩ (by simp only; omega)⟩
   | true =>
    simp only [go_sem]
    exact ⟨(by unfold I64; omega),ih2 (k,k + 1) ⟨.inr ⟨hk1,by omega⟩,by simp only; omega,by simp only; omega⟩ (by simp only; omega)⟩
 case' inr.inl => simp only [go_sem,wk1,c1]
 case' inr.inr => simp only [go_sem,wk1,c1,c2]
 all_goals
  refine ⟨(by unfold I64; omega),(by unfold I64; omega),?_⟩
  by_cases e : m = i
  · subst e
    simp only [go_sem]
    exact ⟨ov1,o,M.drop n,sX,.inr ⟨_,rfl,(List.Perm.cons _ hp).trans pp⟩⟩
  · have e' : ((m : Int) == (i : Int)) = false := by simp only [beq_eq_false_iff_ne]; omega
    have hm' : i < m ∧ m < n := hm.resolve_left e
    obtain ⟨j1,q1⟩ := sX.s.at_ (j := i) (by omega)
    obtain ⟨j2,q2⟩ := sX.s.at_ (j := m) (by omega)
    have q1 := q1 []
    have q2 := q2 []
    rw [List.append_nil] at q1 q2
    have x8 := sX.s.b
    obtain ⟨f2,_,p3⟩ : ∃ f,ov1 = .sl (.own ob 0) o.length 1 f ∧ X[ob]? = some (some (.row (cF (o ++ M.drop n)))) := by
     rcases sX.s.o with ⟨e,_⟩ | h1
     · subst e; simp at lo; omega
     · exact h1
    have p4 : (cF (o ++ M.drop n)).length = o.length + (M.drop n).length := by simp [cF]
    have p5 : i + 1 ≤ o.length + (M.drop n).length := by omega
    have p5' : m + 1 ≤ o.length + (M.drop n).length := by omega
    simp only [go_sem,e',x8,j1,j2,q1,q2,p3,p4,p5]
    refine ⟨fun a => absurd a (by omega),fun _ => ?_⟩
    have il : i < (o ++ M.drop n).length := by rw [List.length_append]; omega
    have ml : m < (o ++ M.drop n).length := by rw [List.length_append]; omega
    rw [iM il]
    have p6 : (X.set ob (some (Blk.row (cF ((o ++ M.drop n).set i (o[m]'(by omega)))))))[ob]? = _ := qF (aM p3)
    have p7 : (cF ((o ++ M.drop n).set i (o[m]'(by omega)))).length = o.length + (M.drop n).length := by simp [cF]
    simp only [go_sem,p6,p7,p5']
    have sw : ((o ++ M.drop n).set i (o[m]'(by omega))).set m (o[i]'(by omega)) = lW o i m ++ M.drop n := by
     rw [List.set_append_left _ _ (by omega),List.set_append_left _ _ (by rw [List.length_set]; omega),uG (by omega) (by omega)]
    rw [iM (by rw [List.length_set]; exact ml),List.set_set,sw]
    have sp := oX (l := o) (i := i) (j := m) (by omega) (by omega)
    have sX' := sX.put (ord' := lW o i m) sp.length_eq (fun z hz => sX.s.r z (sp.mem_iff.1 hz)) (fun e => by subst e; simp at lo; omega)
    exact ih (_,lW o i m,m) ⟨by simp only; omega,sp.trans hp,sX'⟩ (by simp only; omega)
end Go.Proofs.Ab
namespace Go.Proofs.Ab
open Go Go.Proofs
def kil (o : List aX) (n : Int) : Int := (o.getD n.toNat ⟨0,0⟩).kilos
def eD (o : List aX) (ord : List Int) : Int := (ord.map (kil o)).sum
theorem aB8 {a b : List Int} (h : a.Perm b) : a.sum = b.sum := by
 induction h with
 | nil => rfl
 | cons x _ ih => simp only [List.sum_cons,ih]
 | swap x y l => simp only [List.sum_cons]; omega
 | trans _ _ i1 i2 => exact i1.trans i2
theorem oY {o : List aX} {a b : List Int} (h : a.Perm b) : eD o a = eD o b := aB8 (h.map _)
theorem oZ {o : List aX} {x : Int} {r : List Int} : eD o (x :: r) = kil o x + eD o r := by simp [eD]
theorem aAI {o : List aX} {a b : List Int} : eD o (a ++ b) = eD o a + eD o b := by simp [eD]
def eL (d : Int) (l : List aX) : Nat → List Int
 | 0 => []
 | j + 1 => eL d l j ++ if dJ d (l.getD j ⟨0,0⟩) then [(j : Int)] else []
theorem nG {d : Int} {l : List aX} {n : Int} : ∀ {j : Nat},n ∈ eL d l j ↔ 0 ≤ n ∧ n < j ∧ dJ d (l.getD n.toNat ⟨0,0⟩) = true
 | 0 => by simp only [eL,List.not_mem_nil,false_iff]; omega
 | j + 1 => by
  rw [eL,List.mem_append,nG (j := j)]
  by_cases hg : dJ d (l.getD j ⟨0,0⟩) = true
  · rw [if_pos hg,List.mem_singleton]
    constructor
    · rintro (⟨a,b,c⟩ | rfl)
      · exact ⟨a,by omega,c⟩
      · exact ⟨by omega,by omega,by rw [Int.toNat_natCast]; exact hg⟩
    · rintro ⟨a,b,c⟩
      by_cases e : n = j
      · exact .inr e
      · exact .inl ⟨a,by omega,c⟩
  · rw [if_neg hg]
    constructor
    · rintro (⟨a,b,c⟩ | c)
      · exact ⟨a,by omega,c⟩
      · cases c
    · rintro ⟨a,b,c⟩
      by_cases e : n = j
      · subst e; rw [Int.toNat_natCast] at c; exact absurd c hg
      · exact .inl ⟨a,by omega,c⟩
theorem jQ {d : Int} {l : List aX} : ∀ {j : Nat},(eL d l j).Nodup
 | 0 => List.nodup_nil
 | j + 1 => by
  rw [eL]
  split
  · rw [List.nodup_append]
    refine ⟨jQ,by simp,fun a h1 b h2 e => ?_⟩
    have := (nG.1 h1).2.1
    rw [List.mem_singleton.1 h2] at e
    omega
  · rw [List.append_nil]; exact jQ
theorem jP {d : Int} {a b : List aX} : cT d (a ++ b) = cT d a + cT d b := by simp [cT,cH]
theorem pR {d : Int} {b : aX} : cT d [b] = if dJ d b then b.kilos else 0 := by
 unfold cT cH
 cases hg : dJ d b
 · rw [List.filter_cons_of_neg (by simp [hg])]; simp
 · rw [List.filter_cons_of_pos hg]; simp
theorem cX {l : List aX} {j : Nat} (h : j < l.length) : l.getD j ⟨0,0⟩ = l[j] := by rw [List.getD_eq_getElem?_getD,qA h]; rfl
theorem rM {d : Int} {l : List aX} : ∀ {j : Nat},j ≤ l.length → eD l (eL d l j) = cT d (l.take j)
 | 0,_ => by simp [eL,eD,cT,cH]
 | j + 1,hj => by
  rw [eL,aAI,rM (by omega),List.take_succ_eq_append_getElem (by omega),jP,pR,cX (by omega)]
  split
  · rw [oZ,kil,Int.toNat_natCast,cX (by omega)]; simp [eD]
  · simp [eD]
structure DrS (d : Int) (l o : List aX) (ord : List Int) (am0 am : Int) : Prop where
 len : o.length = l.length
 at_ : ∀ i,i < l.length → (o.getD i ⟨0,0⟩).til = (l.getD i ⟨0,0⟩).til ∧ 0 ≤ (o.getD i ⟨0,0⟩).kilos ∧ (o.getD i ⟨0,0⟩).kilos ≤ (l.getD i ⟨0,0⟩).kilos
 nd : ord.Nodup
 mem : ∀ n ∈ ord,0 ≤ n ∧ n < l.length ∧ dJ d (l.getD n.toNat ⟨0,0⟩) = true
 bd : 0 ≤ am ∧ am ≤ eD o ord
 has : cT d o = cT d l - (am0 - am)
theorem rO {d : Int} {a b : aX} (e : a.til = b.til) : dJ d a = dJ d b := by rw [dJ,dJ,e]
theorem rP {o : List aX} {x : Nat} (hx : x < o.length) {b : aX} {i : Nat} : (o.set x b).getD i ⟨0,0⟩ = if i = x then b else o.getD i ⟨0,0⟩ := by
 rw [List.getD_eq_getElem?_getD,List.getD_eq_getElem?_getD]
 split
 · rename_i e; subst e; rw [qF hx]; rfl
 · rename_i e; rw [qB (fun h => e h.symm)]
theorem aDh {d : Int} {o : List aX} {x : Nat} (hx : x < o.length) {n : Int} (hg : dJ d o[x] = true) : cT d (o.set x ⟨o[x].kilos - n,o[x].til⟩) = cT d o - n := by
 have e2 : o = o.take x ++ o[x] :: o.drop (x + 1) := by rw [← List.drop_eq_getElem_cons hx,List.take_append_drop]
 have e1 : ∀ b : aX,cT d (b :: o.drop (x + 1)) = (if dJ d b then b.kilos else 0) + cT d (o.drop (x + 1)) := fun b => by
  rw [show b :: o.drop (x + 1) = [b] ++ o.drop (x + 1) from rfl,jP,pR]
 rw [List.set_eq_take_append_cons_drop,if_pos hx,jP,e1]
 conv => rhs; rw [e2,jP,e1,if_pos hg]
 rw [if_pos ((rO (a := ⟨o[x].kilos - n,o[x].til⟩) (b := o[x]) rfl).trans hg)]
 simp only; omega
theorem DrS.init {d : Int} {l : List aX} {am : Int} {ord : List Int} (hp : ord.Perm (eL d l l.length)) (h0 : 0 ≤ am) (h1 : am ≤ cT d l) (hk : ∀ b ∈ l,0 ≤ b.kilos) : DrS d l l ord am am := by
 refine ⟨rfl,fun i hi => ⟨rfl,?_,Int.le_refl _⟩,hp.nodup_iff.2 jQ,fun n hn => nG.1 (hp.mem_iff.1 hn),⟨h0,?_⟩,by omega⟩
 · rw [cX hi]; exact hk _ (qG hi)
 · rw [oY hp,rM (Nat.le_refl _),List.take_length]; exact h1
theorem DrS.step {d : Int} {l o : List aX} {ord ord' : List Int} {am0 am x : Int} (s : DrS d l o ord am0 am) (hp : (x :: ord').Perm ord) {n : Int} (hn : n = min am (kil o x)) :
 0 ≤ n ∧ n ≤ am ∧ n ≤ kil o x ∧ DrS d l (o.set x.toNat ⟨kil o x - n,(o.getD x.toNat ⟨0,0⟩).til⟩) ord' am0 (am - n) := by
 have nd := hp.nodup_iff.2 s.nd
 rw [List.nodup_cons] at nd
 obtain ⟨x0,x1,xg⟩ := s.mem x (hp.mem_iff.1 List.mem_cons_self)
 have xl : x.toNat < l.length := by omega
 have xo : x.toNat < o.length := by rw [s.len]; exact xl
 obtain ⟨t1,t2,t3⟩ := s.at_ _ xl
 have ks : kil o x = (o.getD x.toNat ⟨0,0⟩).kilos := rfl
 have sm := oY (o := o) hp
 rw [oZ] at sm
 have am1 := s.bd
 have same : eD (o.set x.toNat ⟨kil o x - n,(o.getD x.toNat ⟨0,0⟩).til⟩) ord' = eD o ord' := by
  rw [eD,eD]
  congr 1
  refine List.map_congr_left fun y hy => ?_
  have y0 := (s.mem y (hp.mem_iff.1 (List.mem_cons_of_mem _ hy))).1
  have ne : y.toNat ≠ x.toNat := fun e => nd.1 (by
   have : y = x := by omega
   exact this ▸ hy)
  simp only [kil]
  rw [rP xo,if_neg ne]
 have n0 : 0 ≤ n := by rw [hn]; omega
 refine ⟨n0,by rw [hn]; omega,by rw [hn]; omega,by rw [List.length_set]; exact s.len,fun i hi => ?_,nd.2,fun y hy => s.mem y (hp.mem_iff.1 (List.mem_cons_of_mem _ hy)),?_,?_⟩
 · rw [rP xo]
   split
   · rename_i e; subst e; exact ⟨t1,by rw [hn]; simp only; omega,by simp only; omega⟩
   · exact s.at_ i hi
 · rw [same]
   have : 0 ≤ eD o ord' := by
    rw [eD]
    have : ∀ k ∈ ord'.map (kil o),0 ≤ k := fun k hk => by
     obtain ⟨y,hy,rfl⟩ := List.mem_map.1 hk
     obtain ⟨y0,y1,_⟩ := s.mem y (hp.mem_iff.1 (List.mem_cons_of_mem _ hy))
     exact (s.at_ y.toNat (by omega)).2.1
    revert this
    generalize ord'.map (kil o) = q
    intro hq
    induction q with
    | nil => simp
    | cons a q ih => simp only [List.sum_cons]; have := hq a List.mem_cons_self; have := ih (fun k hk => hq k (List.mem_cons_of_mem _ hk)); omega
   omega
 · have hg : dJ d (o.getD x.toNat ⟨0,0⟩) = true := by rw [rO t1]; exact xg
   have := aDh (d := d) xo (n := n) (by rw [← cX xo]; exact hg)
   rw [← cX xo] at this
   rw [ks,this,s.has]; omega
theorem DrS.end_ {d : Int} {l o : List aX} {ord : List Int} {am0 am : Int} (s : DrS d l o ord am0 am) (ha : ¬ 0 < am) (hc : dL l = true) : dL (o.filter fun b => decide (0 < b.kilos)) = true ∧ cT d (o.filter fun b => decide (0 < b.kilos)) = cT d l - am0 := by
 have a0 := s.bd.1
 obtain ⟨ln,lb⟩ := mS hc
 have ob : ∀ b ∈ o,0 ≤ b.kilos ∧ b.kilos ≤ 1000 ∧ 0 ≤ b.til ∧ b.til ≤ 400 := fun b hb => by
  obtain ⟨i,hi,rfl⟩ := List.getElem_of_mem hb
  obtain ⟨t1,t2,t3⟩ := s.at_ i (by rw [← s.len]; exact hi)
  rw [cX hi,cX (by rw [← s.len]; exact hi)] at t1 t3
  rw [cX hi] at t2
  have := lb (l[i]'(by rw [← s.len]; exact hi)) (qG _)
  omega
 constructor
 · simp only [dL,Bool.and_eq_true,decide_eq_true_eq,List.all_eq_true,mW,inB]
   refine ⟨fun b hb => ?_,?_⟩
   · obtain ⟨h1,h2⟩ := List.mem_filter.1 hb
     have := ob b h1
     simp only [decide_eq_true_eq] at h2
     refine ⟨⟨by omega,by omega⟩,by omega,by omega⟩
   · have := List.length_filter_le (fun b : aX => decide (0 < b.kilos)) o
     have := s.len
     omega
 · have hs := s.has
   have : cT d (o.filter fun b => decide (0 < b.kilos)) = cT d o := by
    clear hs s
    induction o with
    | nil => rfl
    | cons b o ih =>
     have ih := ih (fun c hc => ob c (List.mem_cons_of_mem _ hc))
     have b0 := ob b List.mem_cons_self
     have e : ∀ q : List aX,cT d (b :: q) = (if dJ d b then b.kilos else 0) + cT d q := fun q => by
      rw [show b :: q = [b] ++ q from rfl,jP,pR]
     by_cases hb : 0 < b.kilos
     · rw [List.filter_cons_of_pos (by simpa using hb),e,e,ih]
     · rw [List.filter_cons_of_neg (by simpa using hb),e,ih]
       have : b.kilos = 0 := by omega
       rw [this]; split <;> omega
   rw [this,hs]; omega
end Go.Proofs.Ab
namespace Go.Proofs.Ab
open Go Go.Proofs
variable {w0 : World} {h : aA}
attribute [local irreducible] ACall bN dG aQ dA rvC lp rg dr ex un rv
def bD (l : List aX) : List AV := (l.map aX.c).flatten
theorem pY {l : List aX} : (bD l).length = l.length * 2 := by
 induction l with
 | nil => rfl
 | cons b l ih => simp only [bD,List.map_cons,List.flatten_cons,List.length_append] at ih ⊢; rw [ih]; simp [aX.c]; omega
theorem pX {l : List aX} {x : AV} (hx : x ∈ bD l) : ∃ n : Int,x = .int .i64 n := by
 obtain ⟨c,hc,hx⟩ := List.mem_flatten.1 hx
 obtain ⟨r,_,rfl⟩ := List.mem_map.1 hc
 simp [aX.c] at hx
 rcases hx with rfl | rfl <;> exact ⟨_,rfl⟩
theorem rZ {l : List aX} {j : Nat} (hj : j < l.length) : ((bD l).drop (j * 2)).take 2 = l[j].c := by
 induction l generalizing j with
 | nil => simp at hj
 | cons b l ih =>
  rcases j with _ | j
  · simp [bD,aX.c]
  · have e : bD (b :: l) = b.c ++ bD l := by simp [bD]
    rw [e,show (j + 1) * 2 = b.c.length + j * 2 by simp [aX.c]; omega,List.drop_length_add_append]
    exact ih (by simpa using hj)
theorem aBi {H : aA} {b n : Nat} {l : List aX} {f : Bool} (hb : H[b]? = some (some (.row (bD l)))) (hn : n = l.length) : dB w0 H (.sl (.own b 0) n 2 f) l := by
 refine .inr ⟨.own b 0,f,⟨2,by rw [List.length_map,hn],iY⟩,aM hb,fun j c hc => ?_⟩
 rw [List.getElem?_map] at hc
 obtain ⟨x,hx,rfl⟩ := qD.1 hc
 obtain ⟨hj,rfl⟩ := List.getElem?_eq_some_iff.1 hx
 simp only [Pl.add,rdn,hb]
 rw [if_pos (by rw [pY]; omega),Nat.zero_add,rZ hj]
theorem aDs {v : AV} {l : List aX} (hv : dB w0 h v l) (hn : l.length ≤ 1000) (hne : l ≠ []) : ACall Tryz.prog w0 88 [v] h fun y H => y = .sl (.own (h.length + 1) 0) l.length 2 false ∧ H = h ++ [some (.row []),some (.row (bD l))] := by
 refine aBD aI aEy mf88_b mf88_g (qE rfl) fun hb ha => aL ?_
 have hv' := hv
 rcases hv with ⟨h1,h2⟩ | ⟨q,f,⟨es',h1,h4⟩,h2,h3⟩
 · simp at h2; exact absurd h2 hne
 rw [List.length_map] at h1
 subst h1
 simp only [go_sem,mf88]
 have hall : rdn w0 h q (l.length * 2) = some (bD l) := by
  have := Sl.all (w0 := w0) (H := h) (es := 2) (p := q) (rows := l.map aX.c) (by simpa using hne) h3
  rwa [List.length_map] at this
 have hl0 : l.length ≠ 0 := fun e => hne (List.length_eq_zero_iff.1 e)
 have hone : (bD l).all one = true := List.all_eq_true.2 fun x hx => by obtain ⟨n,rfl⟩ := pX hx; rfl
 have hap : eV w0 (h ++ [some (.row [])]) 2 16 (.sl (.own h.length 0) 0 2 true) (.sl q l.length es' f) = some (.sl (.own (h.length + 1) 0) l.length 2 false,h ++ [some (.row []),some (.row (bD l))]) := by
  have r1 : rdn w0 (h ++ [some (.row [])]) q (l.length * 2) = some (bD l) := dU hall
  have r2 : rdn w0 (h ++ [some (.row [])]) (.own h.length 0) (0 * 2) = some [] := by simp [rdn]
  simp only [eV,fY,h4,if_true,r1,Option.map_some,Option.bind_some]
  rw [if_neg hl0,if_pos ⟨by simp [gO],by omega,hone⟩,r2]
  simp [jG]
 rw [hap]
 have hbb : ∀ N,AV.bdds N (bD l) := fun N => bA.2 fun x hx => by obtain ⟨n,rfl⟩ := pX hx; exact trivial
 have hbh : HB (h ++ [some (.row []),some (.row (bD l))]) := tZ hb (by
  intro b hb
  simp only [List.mem_cons,Option.some.injEq,List.not_mem_nil,or_false] at hb
  rcases hb with rfl | rfl
  · exact bA.1 trivial
  · exact bA.1 (hbb _))
 simp only [go_sem]
 exact ⟨_,[],(List.append_nil _).symm,by simp,hbh,by simp [AV.bdd,Pl.bdd],rfl⟩
def restB (b : aX) : Bool := decide (0 < b.kilos)
theorem aHa (b : aX) : aQ Tryz.prog w0 89 [.agg b.c] h (.bool (restB b)) h := by
 simp only [aX.c]
 refine aF aI aEx mf89_b mf89_g (qE rfl) (by simp [AV.bdd,AV.bdds]) fun hb ha => aL ?_
 simp only [go_sem,mf89]
 rfl
theorem sI {n : String} {t : TypeId} {f : FuncId} {v : AV} {rest : List AV} {Q : AV → aA → Prop} (hm : pK Tryz.prog n t = some f) (c : ACall Tryz.prog w0 f (v :: rest) h Q) : bN Tryz.prog w0 (.fn (.method n) [] []) (.ifc t v :: rest) h Q := by
 unfold bN lU
 simp only [List.nil_append,hm]
 exact c
theorem push_m : pK Tryz.prog "windsock/cache.push" 185 = some 230 := by kernel_rfl
theorem pop_m : pK Tryz.prog "windsock/cache.pop" 185 = some 229 := by kernel_rfl
theorem jE.app {K H L : aA} {sb : Nat} {v ov : AV} {l : List aX} {ord : List Int} (s : jE w0 K H sb v ov l ord) : jE w0 K (H ++ L) sb v ov l ord := ⟨s.k,aB s.b,s.v,s.g.app,s.r⟩
theorem yN {o : List aX} {x : Nat} (hx : x < o.length) {n : Int} : List.take (x * 2) (bD o) ++ AV.int .i64 n :: List.drop (x * 2 + 1) (bD o) = bD (o.set x ⟨n,o[x].til⟩) := by
 induction o generalizing x with
 | nil => simp at hx
 | cons b o ih =>
  have e : ∀ (b : aX) (o : List aX),bD (b :: o) = b.c ++ bD o := fun b o => by simp [bD]
  rcases x with _ | x
  · simp [e,aX.c]
  · have := ih (x := x) (by simpa using hx)
    simp only [List.set_cons_succ,e,List.getElem_cons_succ]
    rw [← this,show (x + 1) * 2 = b.c.length + x * 2 by simp [aX.c]; omega,List.take_length_add_append,show b.c.length + x * 2 + 1 = b.c.length + (x * 2 + 1) by omega,List.drop_length_add_append,List.append_assoc]
theorem jF.out {K H : aA} {sb ob io : Nat} {v ov : AV} {l : List aX} {ord rest : List Int} {b c : Option Blk} (s : jF w0 (K.set io b) H sb v ov ob l ord rest) (hio : io < K.length) (h1 : io ≠ sb) (h2 : io ≠ ob) (hv : dB w0 (K.set io c) v l) : jF w0 (K.set io c) (H.set io c) sb v ov ob l ord rest := by
 have hs : aD (K.set io c) (H.set io c) := ⟨by rw [List.length_set,List.length_set]; have := s.sub.1; rwa [List.length_set] at this,fun i x e => by
  by_cases hi : io = i
  · subst hi
    rw [qF hio] at e
    have := s.sub.1
    rw [List.length_set] at this
    rw [qF (by omega)]; exact e
  · rw [qB hi] at e ⊢
    exact s.sub.2 i x (by rw [qB hi]; exact e)⟩
 have ne : ∀ {j : Nat},io ≠ j → ∀ {X : aA} {y : Option Blk},(X.set io y)[j]? = X[j]? := fun e _ _ => qB e
 refine ⟨hs,fun x => by have := s.k x; rwa [ne h1] at this ⊢,fun x => by have := s.o x; rwa [ne h2] at this ⊢,s.ne,hv,⟨by rw [ne h1]; exact s.s.b,hv.sub hs,?_,s.s.r⟩⟩
 rcases s.s.o with e | ⟨f,e1,e2⟩
 · exact .inl e
 · exact .inr ⟨f,e1,by rw [ne h2]; exact e2⟩
theorem rN (d : Int) (l : List aX) (n : Nat) : (eL d l n).length ≤ n := by
 induction n with
 | zero => simp [eL]
 | succ n ih => rw [eL,List.length_append]; split <;> simp <;> omega
def DrawK (w0 : World) (h : aA) (l : List aX) (d am : Int) (y : AV) (H : aA) : Prop :=
 aD h H ∧ ((cT d l < am ∧ y = .tup [.nilS,.bool false]) ∨ (am ≤ cT d l ∧ ∃ z e,y = .tup [z,.bool true] ∧ dB w0 H z e ∧ dL e = true ∧ cT d e = cT d l - am))
set_option maxRecDepth 20000 in
theorem draw_c {v : AV} {l : List aX} {d am : Int} (hv : dB w0 h v l) (hc : dL l = true) (ha0 : 0 < am) (ha1 : am ≤ 30000) :
 ACall Tryz.prog w0 47 [v,.int .i64 d,.int .i64 am] h (DrawK w0 h l d am) := by
 obtain ⟨ln,lb⟩ := mS hc
 have fl := List.length_filter_le (dJ d) l
 refine aR aI aEQ mf47_b mf47_g (qE rfl) fun hb1 ha => aL ?_
 rw [List.append_nil]
 simp only [go_sem,mf47]
 refine aP (ACall.vc (first := []) (args := [_,_]) (zH (d := d) hv (by omega))) ?_
 rintro y H1 ⟨s1,bv⟩
 simp only [go_sem]
 refine aC (zX bv (fun b hb => by have := (lb b (List.mem_filter.1 hb).1).1; omega) (by omega)).v ?_
 have ek : cH (l.filter (dJ d)) = cT d l := rfl
 rw [ek]
 by_cases c1 : cT d l < am
 · simp only [go_sem,c1]
   exact ⟨s1,.inl ⟨c1,rfl⟩⟩
 have hne : l ≠ [] := fun e => by subst e; simp [cT,cH] at c1; omega
 simp only [go_sem,c1]
 have vb := hv.sub s1
 refine aP (ACall.vc (first := []) (args := [_]) (aDs vb (by omega) hne)) ?_
 rintro y H2 ⟨rfl,eH2⟩
 have s2 : aD h H2 := by rw [eH2]; exact s1.app
 have lH2 : H2.length = H1.length + 2 := by rw [eH2]; simp
 have io2 : H2[H1.length + 1]? = some (some (.row (bD l))) := by rw [eH2,qI (by omega)]; simp
 obtain ⟨io,eio⟩ : ∃ io,io = H1.length + 1 := ⟨_,rfl⟩
 rw [← eio] at io2
 have ov1 := Sl.one (hv.sub s2)
 have lv : eH v = some (.int .i64 l.length) := by have := hv.use.1; rwa [List.length_map] at this
 rw [← eio]
 simp only [go_sem,ov1.1,ov1.2,lv]
 obtain ⟨sb,esb⟩ : ∃ sb,sb = H2.length := ⟨_,rfl⟩
 rw [← esb]
 obtain ⟨H3,eH3⟩ : ∃ H3,H3 = H2 ++ [some (Blk.row [v,AV.nilS])] := ⟨_,rfl⟩
 rw [← eH3]
 have l3 : H3.length = sb + 1 := by rw [eH3,esb]; simp
 have b3 : H3[sb]? = some (some (.row [v,.nilS])) := by rw [eH3,esb]; simp
 have io3 : H3[io]? = some (some (.row (bD l))) := by rw [eH3]; exact aB io2
 have iosb : io ≠ sb := by omega
 have lh : h.length ≤ H1.length := s1.1
 have s3 : aD h (msk [sb] H3) := by
  have : aD h H3 := by rw [eH3]; exact s2.app
  exact ⟨by rw [bT]; exact this.1,fun i b e => by
   have := aM e
   rw [bZ (by simp only [List.mem_singleton]; omega)]
   exact (by assumption : aD h H3).2 i b e⟩
 obtain ⟨K,eK⟩ : ∃ K,K = msk [sb] H3 := ⟨_,rfl⟩
 rw [← eK] at s3
 have kb : K[sb]? = some none := by rw [eK]; exact lH (by simp) (by omega)
 have kio : K[io]? = some (some (.row (bD l))) := by rw [eK,bZ (by simp only [List.mem_singleton]; exact iosb)]; exact io3
 have kl : K.length = sb + 1 := by rw [eK,bT,l3]
 have sw0 : jE w0 K H3 sb v .nilS l [] := ⟨kb,b3,hv.sub s3,Gro.nil (by rw [eK]; exact fT),fun n hn => by cases hn⟩
 obtain ⟨q0,q,ix,row,_⟩ := hv.use
 rw [List.length_map] at ix
 refine cG (S := aA × AV × List Int) (fun j _ => [(1,.int .i64 d),(2,.int .i64 am),(8,.sl (.own io 0) l.length 2 false),(9,.ifc 185 (.ptr (.own sb 0))),(27,v),(28,.int .i64 l.length),(29,.int .i64 j)]) (fun _ s => s.1)
  (fun j s => jE w0 K s.1 sb v s.2.1 l s.2.2 ∧ s.2.2.Perm (eL d l j)) l.length (H3,.nilS,[]) ⟨sw0,List.Perm.refl _⟩ rfl rfl ?_ ?_
 · rintro j ⟨X,ov,ord⟩ hj ⟨sW,hp⟩ ih
   simp only at sW hp ih ⊢
   refine aH aI aAr [1,2,8,9,27,28,29] L47_0.eq_1 ?_
   have e1 : (j : Int) < l.length := by omega
   obtain ⟨b,hbj⟩ : ∃ b,b = l[j] := ⟨_,rfl⟩
   have r0 := (s3.trans sW.g.sub).rdn (dO (hJ row hj))
   rw [← hbj] at r0
   have gj : dJ d (l.getD j ⟨0,0⟩) = decide (d ≤ b.til) := by rw [cX hj,← hbj]; rfl
   rw [eL,gj] at ih
   have nx : ((j : Int) + 1) = ((j + 1 : Nat) : Int) := by omega
   simp only [go_sem,e1,ix j hj,r0]
   obtain ⟨X1,eX1⟩ : ∃ X1,X1 = X ++ [some (Blk.row [AV.int IntKind.i64 b.kilos,AV.int IntKind.i64 b.til])] := ⟨_,rfl⟩
   have sW1 : jE w0 K X1 sb v ov l ord := by rw [eX1]; exact sW.app
   rw [← eX1]
   refine ⟨fun c2 => ?_,fun c2 => ⟨(by unfold I64; omega),ih (X1,ov,ord) ⟨sW1,by simp only [decide_eq_false c2,Bool.false_eq_true,if_false,List.append_nil]; exact hp⟩⟩⟩
   have ol : ord.length ≤ 1000 := by
    rw [hp.length_eq]
    have := rN d l j
    omega
   refine aP (sI push_m (push_c sW1 (x := (j : Int)) ⟨by omega,by omega⟩ (by omega) ol)) ?_
   rintro y X2 ⟨ov',ord',sW2,hp2⟩
   simp only [go_sem]
   exact ⟨(by unfold I64; omega),ih (X2,ov',ord') ⟨sW2,by simp only [decide_eq_true c2,if_true]; exact hp2.trans (hp.append_right _)⟩⟩
 · rintro ⟨X,ov,ord⟩ ⟨sW,hp⟩
   simp only at sW hp ⊢
   refine aH aI aAr [1,2,8,9,27,28,29] L47_0.eq_1 ?_
   have e1 : ¬ (l.length : Int) < l.length := by omega
   simp only [go_sem,e1]
   obtain ⟨ob,hob,sV⟩ := sW.soon
   have kset : K.set io (some (.row (bD l))) = K := by
    apply List.ext_getElem?
    intro i
    by_cases hi : io = i
    · subst hi; rw [qF (by omega),kio]
    · rw [qB hi]
   have bvK : ∀ o : List aX,dB w0 (K.set io (some (.row (bD o)))) v l := fun o => hv.sub ⟨by rw [List.length_set]; exact s3.1,fun i b e => by
    have := aM e
    rw [qB (by omega)]; exact s3.2 i b e⟩
   have obk : ∀ (o : List aX) b,(K.set io (some (.row (bD o))))[ob]? ≠ some (some b) := fun o b => by
    rw [qB (by omega),List.getElem?_eq_none (by omega)]; simp
   have sbk : ∀ (o : List aX) b,(K.set io (some (.row (bD o))))[sb]? ≠ some (some b) := fun o b => by
    rw [qB iosb,kb]; simp
   have sP : jF w0 (K.set io (some (.row (bD l)))) X sb v ov ob l ord [] := ⟨by rw [kset]; exact sW.g.sub,sbk l,obk l,by omega,bvK l,sV⟩
   have dr0 : DrS d l l ord am am := DrS.init hp (by omega) (by omega) fun b hb => by have := (lb b hb).1; omega
   have hK : ∀ o : List aX,aD h (K.set io (some (.row (bD o)))) := fun o => ⟨by rw [List.length_set]; exact s3.1,fun i b e => by
    have := aM e
    rw [qB (by omega)]; exact s3.2 i b e⟩
   have ol : ord.length ≤ 1000 := by
    rw [hp.length_eq]
    have := rN d l l.length
    omega
   refine gZ (S := aA × AV × List Int × List Int × List aX × Int) (F := fun s => [(2,.int .i64 s.2.2.2.2.2),(8,.sl (.own io 0) l.length 2 false),(9,.ifc 185 (.ptr (.own sb 0)))]) (H := fun s => s.1) (meas := fun s => s.2.2.1.length)
    (Inv := fun s => jF w0 (K.set io (some (.row (bD s.2.2.2.2.1)))) s.1 sb v s.2.1 ob l s.2.2.1 s.2.2.2.1 ∧ DrS d l s.2.2.2.2.1 s.2.2.1 am s.2.2.2.2.2 ∧ s.2.2.1.length ≤ 1000 ∧ s.2.2.2.2.2 ≤ am) (X,ov,ord,[],l,am) ⟨sP,dr0,ol,Int.le_refl _⟩ rfl rfl ?_
   rintro ⟨Y,yv,od,rest,o,a⟩ ⟨sY,dr,odl,am1⟩ ih
   simp only at sY dr odl am1 ih ⊢
   refine aH aI aHi [2,8,9] L47_1.eq_1 ?_
   have io4 : Y[io]? = some (some (.row (bD o))) := sY.sub.2 io _ (qF (by omega))
   by_cases c2 : 0 < a
   rotate_left
   · simp only [go_sem,c2]
     obtain ⟨en,eh⟩ := dr.end_ c2 hc
     have bo := aBi (w0 := w0) (n := l.length) (f := false) io4 dr.len.symm
     have pc := aAd (w0 := w0) (fv := .fn (.func 89) [] []) (P := restB) bo (by rw [dr.len]; omega) fun b hb H sH => @aQ.vc _ _ _ [] [_] [] _ _ _ (aHa b)
     refine aP (ACall.vc (first := []) (args := [_,_]) pc) ?_
     rintro y Y1 ⟨sY1,bv1⟩
     simp only [go_sem]
     exact ⟨((hK o).trans sY.sub).trans sY1,.inr ⟨by omega,_,_,rfl,bv1,en,eh⟩⟩
   simp only [go_sem,c2]
   refine aP (sI pop_m (pop_c sY (by omega) odl)) ?_
   rintro y Y1 ⟨yv1,od1,rest1,sY1,⟨z1,z2,rfl⟩ | ⟨x,rfl,hx⟩⟩
   · have := dr.bd.2
     rw [z1] at this
     simp [eD] at this
     omega
   obtain ⟨n,hn⟩ : ∃ n,n = min a (kil o x) := ⟨_,rfl⟩
   obtain ⟨n0,n1,n2,dr1⟩ := dr.step hx hn
   obtain ⟨x0,x1,xg⟩ := dr.mem x (hx.mem_iff.1 List.mem_cons_self)
   obtain ⟨m,rfl⟩ : ∃ m : Nat,x = m := ⟨x.toNat,by omega⟩
   have ml : m < l.length := by omega
   have mo : m < o.length := by rw [dr.len]; exact ml
   rw [Int.toNat_natCast] at dr1
   have ek : kil o m = o[m].kilos := by rw [kil,Int.toNat_natCast,cX mo]
   rw [cX mo] at dr1
   rw [ek] at hn n2 dr1
   have k3 : o[m].kilos ≤ 1000 := by
    have h1 := (dr.at_ m ml).2.2
    rw [cX mo,cX ml] at h1
    have := lb _ (qG ml)
    omega
   have ixm : cS 2 (.sl (.own io 0) l.length 2 false) (some m) = some (.ptr (.own io (m * 2))) := by simp [cS,ml,Pl.add,gO]
   have io5 : Y1[io]? = some (some (.row (bD o))) := sY1.sub.2 io _ (qF (by omega))
   have cl := pY (l := o)
   have rm : rd w0 Y1 (.own io (m * 2)) = some (.int .i64 o[m].kilos) := by
    simp only [rd,io5]
    have := rZ mo
    have e := congrArg (fun z : List AV => z[0]?) this
    simp only [List.getElem?_take,List.getElem?_drop,Nat.add_zero] at e
    simpa [aX.c] using e
   have w1 := bO (n := o[m].kilos - n) (by unfold I64; omega)
   have w2 := bO (n := a - n) (by unfold I64; omega)
   have w3 : m * 2 + 1 ≤ o.length * 2 := by omega
   simp only [go_sem,ixm,rm,io5,cl,w1]
   rw [← hn,w1,w2,yN mo]
   have io6 := sY1.out (c := some (.row (bD (o.set m ⟨o[m].kilos - n,o[m].til⟩)))) (by omega) iosb (by omega) (bvK _)
   exact ⟨w3,ih (_,yv1,od1,rest1,_,a - n) ⟨io6,dr1,by have := hx.length_eq; simp only [List.length_cons] at this; simp only; omega,by simp only; omega⟩ (by have := hx.length_eq; simp only [List.length_cons] at this; simp only; omega)⟩
theorem dB.set1 {H : aA} {v x : AV} {l : List aX} {i : Nat} {b : Option Blk} (hv : dB w0 H v l) (hi : H[i]? = some (some (.row [x]))) : dB w0 (H.set i b) v l := by
 rcases hv with e | ⟨p,f,e1,e2,e3⟩
 · exact .inl e
 · refine .inr ⟨p,f,e1,by rw [List.length_set]; exact e2,fun j c hc => ?_⟩
   have := e3 j c hc
   cases p with
   | old a => exact this
   | own k o =>
    simp only [Pl.add,rdn] at this ⊢
    by_cases hk : i = k
    · subst hk
      rw [hi] at this
      simp only [List.length_cons,List.length_nil] at this
      rw [if_neg (by omega)] at this
      cases this
    · rw [qB hk]; exact this
def DrwK (w0 : World) (h : aA) (l : List aX) (d am : Int) (y : AV) (H : aA) : Prop :=
 aD h H ∧ ((cT d l < am ∧ y = .tup [.agg [.nilS],.int .i64 5]) ∨ (am ≤ cT d l ∧ ∃ z e,y = .tup [.agg [z],.int .i64 0] ∧ dB w0 H z e ∧ dL e = true ∧ cT d e = cT d l - am))
set_option maxRecDepth 20000 in
theorem Draw_c {v : AV} {l : List aX} {d am : Int} (hv : dB w0 h v l) (hc : dL l = true) (hd : inB d 0 400 = true) (ha0 : 0 < am) (ha1 : am ≤ 30000) :
 ACall Tryz.prog w0 14 [.agg [v],.int .i64 d,.int .i64 am] h (DrwK w0 h l d am) := by
 have o1 := Sl.one hv
 refine aR aI aGf mf14_b mf14_g (qE rfl) fun hb1 ha => aL ?_
 have ia : inB am 0 30000 = true := by simp [inB]; omega
 rw [List.append_nil]
 obtain ⟨K,eK⟩ : ∃ K,K = h ++ [some (Blk.row [v]),some (Blk.row [AV.nilS])] := ⟨_,rfl⟩
 have sK : aD h K := by rw [eK]; exact aD.refl.app
 have k0 : K[h.length]? = some (some (.row [v])) := by rw [eK,qI (by omega)]; simp
 have k1 : K[h.length + 1]? = some (some (.row [.nilS])) := by rw [eK,qI (by omega)]; simp
 have k0L := xL k0
 have k1L := xL k1
 have k0' : rdn w0 K (.own h.length 0) 1 = some [v] := by simp [rdn,k0]
 simp only [go_sem,mf14,o1.1,o1.2]
 rw [← eK]
 refine aC (uH (Sl.sub hv sK) hc).v ?_
 simp only [go_sem]
 refine aC (vO d 0 400).v ?_
 rw [hd]
 simp only [go_sem]
 refine aC (vO am 0 30000).v ?_
 rw [ia]
 simp only [go_sem,k0,k0L]
 refine aP (ACall.vc (first := []) (args := [_,_,_]) (draw_c (Sl.sub hv sK) hc ha0 ha1)) ?_
 rintro y H ⟨s1,⟨c1,rfl⟩ | ⟨c1,z,e,rfl,hz,he,hh⟩⟩
 · have q1 := s1.2 _ _ k1
   have q1L := xL q1
   have g1 : ∀ b,(H.set (h.length + 1) (some b))[h.length + 1]? = some (some b) := fun b => qF (aM q1)
   simp only [go_sem,q1,q1L,g1]
   exact ⟨(sK.trans s1).setR (by omega),.inl ⟨c1,rfl⟩⟩
 · have q1 := s1.2 _ _ k1
   have q1L := xL q1
   have g1 : ∀ b,(H.set (h.length + 1) (some b))[h.length + 1]? = some (some b) := fun b => qF (aM q1)
   have z1 := Sl.one hz
   simp only [go_sem,q1,q1L,z1.1,z1.2,g1]
   exact ⟨(sK.trans s1).setR (by omega),.inr ⟨c1,z,e,rfl,hz.set1 q1,he,hh⟩⟩
end Go.Proofs.Ab
