/- The own layer under the proofs of this seat, part P: what calls of the program come to on an abstract heap. No condition. -/
import Derived.Test.YtajecdfdnlfndaaGreatO
set_option linter.unusedSimpArgs false
set_option linter.unusedVariables false
namespace Go.Proofs.Ab
open Go Go.Proofs
def fY : List Int → List CallD → Bool
 | _,[] => true
 | ho,c :: r => decide ((doD ho c).2 = c.result) && fY (doD ho c).1 r
def rP : List Int → List CallD → List Int
 | ho,[] => ho
 | ho,c :: r => rP (doD ho c).1 r
theorem lJ {c : CallD} : ∀ {l : List CallD} {ho : List Int},fY ho (l ++ [c]) = (fY ho l && decide ((doD (rP ho l) c).2 = c.result))
 | [],ho => by rw [List.nil_append,fY,fY,fY,Bool.and_true,Bool.true_and,rP]
 | a :: l,ho => by rw [List.cons_append,fY,fY,lJ (l := l),rP,Bool.and_assoc]
theorem nO {c : CallD} : ∀ {l : List CallD} {ho : List Int},rP ho (l ++ [c]) = (doD (rP ho l) c).1
 | [],ho => rfl
 | a :: l,ho => by rw [List.cons_append,rP,nO (l := l)]; rfl
theorem mK {l : List CallD} (hp : ∀ i j,i < j → j < l.length → ¬ (aL l j).end_ < (aL l i).begin_) : ∀ (m k : Nat) (ho : List Int),k + m = l.length → fY ho (l.drop k) = true → mV l (List.range k) ho (List.range' k m) = true
 | 0,k,ho,_,_ => rfl
 | m + 1,k,ho,hk,hr => by
  have hkl : k < l.length := by omega
  rw [List.drop_eq_getElem_cons hkl,fY,Bool.and_eq_true] at hr
  rw [List.range'_succ,mV,Bool.and_eq_true,Bool.and_eq_true,nX hkl]
  refine ⟨List.all_eq_true.2 fun i hi => ?_,hr.1,?_⟩
  · have := hp i k (List.mem_range.1 hi) hkl
    rw [nX hkl] at this
    simpa using this
  · rw [← List.range_succ]
    exact mK hp m (k + 1) _ (by omega) hr.2
structure mM (t : Nat) (l : List CallD) (hd : List Int) : Prop where
 all : ∀ c ∈ l,bA ((t : Int) - 1) c = true
 bg : ∀ i,i < l.length → 100 + 10 * (i : Int) - 90 ≤ (aL l i).begin_ ∧ (aL l i).begin_ ≤ 100 + 10 * i
 en : ∀ i,i < l.length → 101 + 10 * (i : Int) ≤ (aL l i).end_
 ok : fY (cY t) l = true
 eq : hd = rP (cY t) l
 len : hd.length = t
 rg : ∀ x ∈ hd,-1 ≤ x ∧ x ≤ 3
theorem mM.good {t : Nat} {l : List CallD} {hd : List Int} (a : mM t l hd) : goodO l t (List.range l.length) := by
 refine ⟨List.nodup_range,fun i hi => List.mem_range.1 hi,?_⟩
 have := mK (l := l) (fun i j hij hj => by have := a.bg i (by omega); have := a.en j hj; omega) l.length 0 (cY t) (by omega) a.ok
 rwa [← List.range_eq_range'] at this
theorem mM.first {t : Nat} {l : List CallD} {hd : List Int} (a : mM t l hd) (t4 : t ≤ 4) : nJ l (cR (List.range l.length)) = true ∧ lZ l ≠ none := by
 have hg := a.good
 have hp := (pathP a.all (show (t : Int) - 1 < t by omega) t4 (r := List.range l.length) (by simp)).2 hg
 refine ⟨?_,fun e => ?_⟩
 · rw [nJ,fI,List.length_range,decide_eq_true rfl,Bool.true_and,mA,Bool.and_eq_true]
   constructor
   · rw [List.all_eq_true]
     intro x hx
     rw [cR,List.mem_map] at hx
     obtain ⟨i,hi,rfl⟩ := hx
     have := List.mem_range.1 hi
     simp only [inB,Bool.and_eq_true,decide_eq_true_eq]; omega
   · have : (cR (List.range l.length)).map Int.toNat = List.range l.length := by
      rw [cR,List.map_map]
      exact Eq.trans (List.map_congr_left fun x _ => rfl) (List.map_id _)
     rw [this]; exact hp
 · rw [jH (r := List.range l.length) e (by simp)] at hp
   cases hp
theorem doD_rg {tm : Int} {hd : List Int} {c : CallD} (hc : bA tm c = true) (hr : ∀ x ∈ hd,-1 ≤ x ∧ x ≤ 3) (ht : tm < hd.length) : (∀ x ∈ (doD hd c).1,-1 ≤ x ∧ x ≤ 3) ∧ -1 ≤ (doD hd c).2 ∧ (doD hd c).2 ≤ 3 := by
 simp only [bA,inB,Bool.and_eq_true,decide_eq_true_eq] at hc
 obtain ⟨⟨w1,w2⟩,k1,k4,⟨t0,t1⟩,_⟩ := hc
 have hset : ∀ (l : List Int) (i : Nat) (y : Int),(∀ x ∈ l,-1 ≤ x ∧ x ≤ 3) → (-1 ≤ y ∧ y ≤ 3) → ∀ x ∈ l.set i y,-1 ≤ x ∧ x ≤ 3 := fun l i y h1 h2 x hx => by
  rcases List.mem_or_eq_of_mem_set hx with h | rfl
  · exact h1 x h
  · exact h2
 have hg : -1 ≤ hd.getD c.thing.toNat 0 ∧ hd.getD c.thing.toNat 0 ≤ 3 := by
  rw [getD_at (show c.thing.toNat < hd.length by omega)]; exact hr _ (qG _)
 unfold doD
 repeat' split
 all_goals first
  | exact ⟨hr,hg⟩
  | exact ⟨hr,(by show (-1 : Int) ≤ 0; omega),(by show (0 : Int) ≤ 3; omega)⟩
  | exact ⟨hset _ _ _ hr ⟨by omega,by omega⟩,(by show (-1 : Int) ≤ 1; omega),(by show (1 : Int) ≤ 3; omega)⟩
  | exact ⟨hset _ _ _ (hset _ _ _ hr ⟨by omega,by omega⟩) ⟨by omega,by omega⟩,(by show (-1 : Int) ≤ 1; omega),(by show (1 : Int) ≤ 3; omega)⟩
theorem mM.more {t : Nat} {l : List CallD} {hd : List Int} (a : mM t l hd) {c : CallD} {e la : Int} (he : 0 ≤ e ∧ e ≤ 90) (hla : 0 ≤ la) (hb : c.begin_ = 100 + 10 * (l.length : Int) - e) (hen : c.end_ = 101 + 10 * (l.length : Int) + la) (hc : bA ((t : Int) - 1) c = true) :
 mM t (l ++ [⟨c.who,c.kind,c.thing,c.other,c.begin_,c.end_,(doD hd c).2⟩]) (doD hd c).1 := by
 obtain ⟨r1,r2⟩ := doD_rg hc a.rg (by rw [a.len]; omega)
 have hat : ∀ i,i < l.length → aL (l ++ [⟨c.who,c.kind,c.thing,c.other,c.begin_,c.end_,(doD hd c).2⟩]) i = aL l i := fun i hi => by
  rw [aL,aL,List.getD_eq_getElem?_getD,qH hi,List.getD_eq_getElem?_getD]
 have hlast : aL (l ++ [⟨c.who,c.kind,c.thing,c.other,c.begin_,c.end_,(doD hd c).2⟩]) l.length = ⟨c.who,c.kind,c.thing,c.other,c.begin_,c.end_,(doD hd c).2⟩ := by
  rw [aL,List.getD_eq_getElem?_getD,qI (Nat.le_refl _),Nat.sub_self]; rfl
 have hdo : ∀ (ho : List Int) (r : Int),doD ho ⟨c.who,c.kind,c.thing,c.other,c.begin_,c.end_,r⟩ = doD ho c := fun ho r => rfl
 refine ⟨fun x hx => ?_,fun i hi => ?_,fun i hi => ?_,?_,?_,by rw [oX]; exact a.len,r1⟩
 · rcases List.mem_append.1 hx with hx | hx
   · exact a.all x hx
   · simp only [List.mem_singleton] at hx
     subst hx
     simp only [bA,Bool.and_eq_true] at hc ⊢
     refine ⟨hc.1,hc.2.1,hc.2.2.1,hc.2.2.2.1,hc.2.2.2.2.1,hc.2.2.2.2.2.1,hc.2.2.2.2.2.2.1,hc.2.2.2.2.2.2.2.1,?_⟩
     simp only [inB,Bool.and_eq_true,decide_eq_true_eq]; exact r2
 · rw [List.length_append,List.length_singleton] at hi
   by_cases q : i < l.length
   · rw [hat i q]; exact a.bg i q
   · obtain rfl : i = l.length := by omega
     rw [hlast]; simp only; omega
 · rw [List.length_append,List.length_singleton] at hi
   by_cases q : i < l.length
   · rw [hat i q]; exact a.en i q
   · obtain rfl : i = l.length := by omega
     rw [hlast]; simp only; omega
 · rw [lJ,a.ok,Bool.true_and,← a.eq,hdo]; exact decide_eq_true rfl
 · rw [nO,← a.eq]; rfl
theorem mM.start {t : Nat} : mM t [] (cY t) := ⟨by simp,by simp,by simp,rfl,rfl,by simp [cY],fun x hx => by simp [cY] at hx; omega⟩
end Go.Proofs.Ab
namespace Go.Proofs.Ab
open Go Go.Proofs
variable {w0 : World} {h : Heap}
attribute [local irreducible] ACall aR bR bD cI rvC lp rg dr ex un rv
def jL (H : Heap) (n es io : Nat) (ov : AV) (vs : List AV) : Prop := n = 0 ∧ ov = .nilS ∧ vs = [] ∨ n ≠ 0 ∧ ov = .sl (.own io 0) n es false ∧ H[io]? = some (some (.row vs)) ∧ vs.length = n * es
theorem jL.keep {H G : Heap} {n es io : Nat} {ov : AV} {vs : List AV} (a : jL H n es io ov vs) (k : ∀ b,H[io]? = some (some b) → G[io]? = some (some b)) : jL G n es io ov vs := by
 rcases a with h | ⟨h1,h2,h3,h4⟩
 · exact .inl h
 · exact .inr ⟨h1,h2,k _ h3,h4⟩
theorem jL.cl {G : Heap} {j io : Nat} {lv : AV} {L : List CallD} (a : jL G j 7 io lv (L.map CallD.c).flatten) (hL : L.length = j) : CL w0 G lv L := by
 rcases a with ⟨h1,h2,_⟩ | ⟨h1,h2,h3,h4⟩
 · subst h2
   have : L = [] := List.eq_nil_of_length_eq_zero (by omega)
   subst this
   exact .inl ⟨rfl,rfl⟩
 · subst h2
   have := jY (w0 := w0) (H := G) (es := 7) (io := io) (full := false) (rows := L.map CallD.c) h3 (fun c hc => by obtain ⟨x,_,rfl⟩ := List.mem_map.1 hc; rfl)
   rwa [List.length_map,hL] at this
theorem jL.sli {G : Heap} {j io : Nat} {ov : AV} {L : List Int} (a : jL G j 1 io ov (aE L)) (hL : L.length = j) : SlI w0 G ov L := by
 rcases a with ⟨h1,h2,_⟩ | ⟨h1,h2,h3,h4⟩
 · subst h2
   have : L = [] := List.eq_nil_of_length_eq_zero (by omega)
   subst this
   exact .inl ⟨rfl,rfl⟩
 · subst h2
   exact oE h3 hL.symm
def iO (l : List CallD) : List AV := (l.map CallD.c).flatten
theorem mG : ∀ (l : List CallD),(iO l).length = l.length * 7
 | [] => rfl
 | c :: l => by
  have := mG l
  rw [iO,List.map_cons,List.flatten_cons,List.length_append]
  rw [iO] at this
  rw [this,show c.c.length = 7 from rfl,List.length_cons]; omega
theorem kS {v ev av : AV} {l : List CallD} {es as_ : List Int} (things : Int) (hv : CL w0 h v l) (he : SlI w0 h ev es) (hla : SlI w0 h av as_) (hn : l.length ≤ 9223372036854775807) (hen : es.length ≤ 9223372036854775807) (hlan : as_.length ≤ 9223372036854775807) :
 bD Tryz.prog w0 13 [.int .i64 things,v,ev,av] h (.bool true) h := by
 refine fS trivial (aX aZ aCY mf13_b mf13_g (qE rfl) fun hb ha => bB ?_)
 have hlen := hv.len
 by_cases q1 : (l.length : Int) > 7
 · simp only [go_sem,mf13,hlen,q1]
   refine aK fP.v ?_
   simp only [go_sem]
   exact aH.refl.app
 by_cases q2 : things < 1
 · simp only [go_sem,mf13,hlen,q1,q2]
   refine aK fP.v ?_
   simp only [go_sem]
   exact aH.refl.app
 by_cases q3 : things > 4
 · simp only [go_sem,mf13,hlen,q1,q2,q3]
   refine aK fP.v ?_
   simp only [go_sem]
   exact aH.refl.app
 simp only [go_sem,mf13,hlen,q1,q2,q3]
 refine aK (lM l.length 90 he.app hen).v ?_
 cases c1 : qT es l.length 90 with
 | false =>
  simp only [go_sem]
  refine aK fP.v ?_
  simp only [go_sem]
  exact aH.refl.app
 | true =>
 simp only [go_sem,hlen]
 refine aK (lM l.length 90 hla.app hlan).v ?_
 cases c2 : qT as_ l.length 90 with
 | false =>
  simp only [go_sem]
  refine aK fP.v ?_
  simp only [go_sem]
  exact aH.refl.app
 | true =>
 obtain ⟨e1,e2⟩ := qS.1 c1
 obtain ⟨a1,a2⟩ := qS.1 c2
 obtain ⟨n,rfl⟩ : ∃ n : Nat,things = n := ⟨things.toNat,by omega⟩
 have n1 : 1 ≤ n := by omega
 have n4 : n ≤ 4 := by omega
 simp only [go_sem]
 refine aV (ACall.vc (first := []) (capt := []) (aAc n (by omega))) ?_
 intro nv H0 hG
 rw [List.append_nil] at hG
 simp only [go_sem]
 have w0' : SlI w0 H0 nv (cY n) := hG.sli (by simp [cY])
 refine iJ (S := Nat × Heap × AV × AV × AV × List CallD × List Int × Nat × Nat) (F := fun s => match s with | (j,G,lv,ov,dv,L,hd,io,jo) => [(0,.int .i64 n),(1,v),(2,ev),(3,av),(9,lv),(10,ov),(11,dv),(12,.int .i64 j)]) (H := fun s => s.2.1) (meas := fun s => l.length - s.1)
  (Inv := fun s => match s with | (j,G,lv,ov,dv,L,hd,io,jo) => j ≤ l.length ∧ aH h G ∧ SlI w0 G dv hd ∧ mM n L hd ∧ L.length = j ∧ jL G j 7 io lv (iO L) ∧ jL G j 1 jo ov (aE (cR (List.range j))) ∧ (j ≠ 0 → io ≠ jo ∧ h.length ≤ io ∧ h.length ≤ jo))
  (0,H0,.nilS,.nilS,nv,[],cY n,0,0) ⟨Nat.zero_le _,hG.sub,w0',mM.start,rfl,.inl ⟨rfl,rfl,rfl⟩,.inl ⟨rfl,rfl,rfl⟩,fun h => absurd rfl h⟩ rfl rfl ?_
 rintro ⟨j,G,lv,ov,dv,L,hd,io,jo⟩ ⟨hj,sG,hdv,hW,hL,hA,hB,hio⟩ ih
 simp only at hj sG hdv hW hL hA hB hio ih ⊢
 refine bI aZ aDV [0,1,2,3,9,10,11,12] L13_0.eq_1 ?_
 by_cases hjl : j < l.length
 · have f1 : (j : Int) < l.length := by omega
   obtain ⟨_,q,hix,hrow,_⟩ := Sl.use (hv.sub sG)
   rw [List.length_map] at hix
   have x1 := hix j hjl
   have y0 := hrow j _ (fJ hjl)
   have y1 : ∀ L,rdn w0 (G ++ L) (q.add (j * 7)) 7 = some l[j].c := fun L => eM y0
   simp only [go_sem,hlen,f1,x1,y0,y1]
   refine wI aZ [0,1,2,3,4,5,6,7,8,9,10,11,12,13,14,15,16,17,18,19,20,21] [o_ 56 (m_ 12),o_ 57 (.bin .mul (i_ 10) (.t 56)),o_ 58 (.bin .add (i_ 100) (.t 57)),o_ 59 (m_ 2),o_ 60 (m_ 12),o_ 61 (.idxs 1 (.t 59) (.t 60)),o_ 62 (l_ 61),o_ 63 (.bin .sub (.t 58) (.t 62)),o_ 64 (m_ 12),o_ 65 (.bin .mul (i_ 10) (.t 64)),o_ 66 (.bin .add (i_ 101) (.t 65)),o_ 67 (m_ 3),o_ 68 (m_ 12),o_ 69 (.idxs 1 (.t 67) (.t 68)),o_ 70 (l_ 69),o_ 71 (.bin .add (.t 66) (.t 70)),o_ 72 (.addr (.t 13) 4),.op none none (.store (.t 72) (.t 63) 1)] [([(14,o_ 70 (l_ 69))],[o_ 73 (.addr (.t 13) 5),.op none none (.store (.t 73) (.t 71) 1),o_ 74 (.addr (.t 13) 6),.op none none (.store (.t 74) (i_ 0) 1)])] rfl rfl (by kernel_rfl) ?_
   obtain ⟨pe,p1,p2,p3⟩ := SlI.getD_at (w0 := w0) (h := G) (Sl.sub he sG) (j := j) (by omega)
   obtain ⟨pa,r1,r2,r3⟩ := SlI.getD_at (w0 := w0) (h := G) (Sl.sub hla sG) (j := j) (by omega)
   have be := e1 _ (qG (show j < es.length by omega))
   have ba := a1 _ (qG (show j < as_.length by omega))
   rw [← Ab.getD_at (d := 0)] at be ba
   obtain ⟨ej,hej⟩ : ∃ x,x = es.getD j 0 := ⟨_,rfl⟩
   obtain ⟨aj,haj⟩ : ∃ x,x = as_.getD j 0 := ⟨_,rfl⟩
   rw [← hej] at p2 p3 be
   rw [← haj] at r2 r3 ba
   have w1 : wi (100 + 10 * (j : Int) - ej) = 100 + 10 * (j : Int) - ej := hJ (by unfold I64; omega)
   simp only [go_sem,hlen,p1,p2,p3,r1,r2,r3,w1]
   refine ⟨(by unfold I64; omega),(by unfold I64; omega),(by unfold I64; omega),(by unfold I64; omega),(by unfold I64; omega),?_⟩
   obtain ⟨c0,hc0⟩ : ∃ c0 : CallD,c0 = ⟨l[j].who,l[j].kind,l[j].thing,l[j].other,100 + 10 * (j : Int) - ej,101 + 10 * (j : Int) + aj,0⟩ := ⟨_,rfl⟩
   obtain ⟨X,eX⟩ : ∃ X,X = G ++ [some (Blk.row c0.c),some (Blk.row c0.c)] := ⟨_,rfl⟩
   have hX : ∀ K,K = X → K = G ++ [some (Blk.row c0.c),some (Blk.row c0.c)] := fun K e => e.trans eX
   have sX : aH G X := eX ▸ aH.refl.app
   have x0 : X[G.length]? = some (some (.row c0.c)) := by rw [eX,qI (Nat.le_refl _),Nat.sub_self]; rfl
   have hone : CL w0 X (.sl (.own (G.length + 1) 0) 1 7 true) [c0] := by
    refine jY (rows := [c0.c]) ?_ (fun c hc => by simp at hc; subst hc; rfl)
    rw [eX,qI (by omega),show G.length + 1 - G.length = 1 by omega]; simp
   have hrc := zT (w0 := w0) (n : Int) hone (by simp)
   rw [eX,hc0] at hrc
   refine aK hrc.v ?_
   rw [← hc0]
   cases hcb : eV (n : Int) [c0] with
   | false =>
    simp only [go_sem]
    refine aK fP.v ?_
    simp only [go_sem]
    exact sG.app
   | true =>
   have hcB : bA ((n : Int) - 1) c0 = true := by
    rw [eV,Bool.and_eq_true,List.all_eq_true] at hcb
    have := hcb.2 c0 (by simp)
    rwa [hJ (by unfold I64; omega)] at this
   simp only [go_sem]
   have hdo := rdo2_c (w0 := w0) (h := X) (hdv.sub sX) (by rw [hW.len]; exact n1) (by rw [hW.len]; exact n4) hcB (by rw [hW.len]; omega)
   rw [eX] at hdo
   refine aV (ACall.vc (first := []) (capt := []) hdo) ?_
   rintro _ H2 ⟨sH2,dv2,rfl,hdv2,hdvm⟩
   rw [← eX] at sH2
   have z0 := sH2.2 _ _ x0
   obtain ⟨⟨hd2,res⟩,hres⟩ : ∃ r,r = doD hd c0 := ⟨_,rfl⟩
   have hXl : X.length = G.length + 2 := by rw [eX]; simp
   rw [← eX] at hdvm
   rw [← hres] at hdv2 hdvm ⊢
   simp only at hdv2 hdvm ⊢
   simp only [go_sem,z0]
   obtain ⟨c',hc'⟩ : ∃ c' : CallD,c' = ⟨c0.who,c0.kind,c0.thing,c0.other,c0.begin_,c0.end_,res⟩ := ⟨_,rfl⟩
   obtain ⟨R,eR⟩ : ∃ R,R = [AV.int .i64 c0.who,AV.int .i64 c0.kind,AV.int .i64 c0.thing,AV.int .i64 c0.other,AV.int .i64 c0.begin_,AV.int .i64 c0.end_,AV.int .i64 res] := ⟨_,rfl⟩
   have hRc : R = c'.c := by rw [eR,hc']; rfl
   obtain ⟨K,eK⟩ : ∃ K,K = H2.set G.length (some (Blk.row R)) := ⟨_,rfl⟩
   have k0 : K[G.length]? = some (some (.row R)) := by rw [eK,qF (aF z0)]
   have kN : ∀ i b,i < G.length → G[i]? = some (some b) → K[i]? = some (some b) := fun i b hi e => by
    rw [eK,qB (by omega)]; exact sH2.2 _ _ (sX.2 _ _ e)
   have hGK : G.length ≤ K.length := by rw [eK,List.length_set]; have := sH2.1; have := sX.1; omega
   have sK : aH G K := ⟨hGK,fun i b e => kN i b (aF e) e⟩
   rw [← eR,← eK]
   have R7 : R.length = 7 := by rw [eR]; rfl
   have R1 : R.all one = true := by rw [eR]; rfl
   have Rt : R.take 7 = R := List.take_of_length_le (by omega)
   simp only [go_sem,k0,R7,R1,Rt]
   have hA1 : jL (K ++ [some (.row R)]) j 7 io lv (iO L) := hA.keep fun b e => aA (kN _ _ (aF e) e)
   have hB1 : jL (K ++ [some (.row R)]) j 1 jo ov (aE (cR (List.range j))) := hB.keep fun b e => aA (kN _ _ (aF e) e)
   obtain ⟨K1,a1,a2,a3,a4⟩ := jJ (w0 := w0) (b := 56) (f := true) hA1 (k := K.length) (x := R) (by rw [qI (Nat.le_refl _),Nat.sub_self]; rfl) R7 R1 (by omega) (by omega)
   rw [List.append_nil,a1]
   simp only [go_sem]
   have b1 : ∀ L,(K1 ++ L)[K1.length]? = L[0]? := fun L => by rw [qI (Nat.le_refl _),Nat.sub_self]
   have hB2 : jL (K1 ++ [some (.row [.int .i64 (j : Int)])]) j 1 jo ov (aE (cR (List.range j))) := hB1.keep fun b e => aA (a4 _ _ (fun h0 => (hio h0).1.symm) e)
   obtain ⟨K2,d1,d2,d3,d4⟩ := jJ (w0 := w0) (b := 8) (f := true) hB2 (k := K1.length) (x := [.int .i64 (j : Int)]) (by rw [b1]; rfl) rfl rfl (by omega) (by omega)
   rw [d1]
   simp only [go_sem]
   have io1 : j ≠ 0 → io < G.length := fun h0 => by
    rcases hA with ⟨h,_⟩ | ⟨_,_,h3,_⟩
    · exact absurd h h0
    · exact aF h3
   have jo1 : j ≠ 0 → jo < G.length := fun h0 => by
    rcases hB with ⟨h,_⟩ | ⟨_,_,h3,_⟩
    · exact absurd h h0
    · exact aF h3
   have up : ∀ (i : Nat) b,(j ≠ 0 → i ≠ io ∧ i ≠ jo) → K[i]? = some (some b) → K2[i]? = some (some b) := fun i b hne e =>
    d4 _ _ (fun h0 => (hne h0).2) (aA (a4 _ _ (fun h0 => (hne h0).1) (aA e)))
   have hl1 : K1.length = K.length + 2 := by rw [a2]; simp
   have hl2 : K2.length = K1.length + 2 := by rw [d2]; simp
   have hll : L.length + 1 = j + 1 := by omega
   have hW' := hW.more (c := c0) (e := ej) (la := aj) be ba.1 (by rw [hc0,hL]) (by rw [hc0,hL]) hcB
   rw [← hres] at hW'
   simp only at hW'
   rw [← hc'] at hW'
   rw [List.length_append] at a3 d3
   have hsub2 : aH h K2 := ⟨by have := sG.1; omega,fun i b e => up i b (fun h0 => by have := hio h0; have := aF e; omega) (kN _ _ (by have := aF e; have := sG.1; omega) (sG.2 _ _ e))⟩
   have hne3 : K.length + 1 ≠ K1.length + 1 ∧ h.length ≤ K.length + 1 ∧ h.length ≤ K1.length + 1 := by have := sG.1; omega
   have hdv3 : SlI w0 K2 dv2 hd2 := hdvm K2 fun i b hi e => up i b (fun h0 => by have := io1 h0; have := jo1 h0; omega) (by rw [eK,qB (by omega)]; exact e)
   have hL2 : (L ++ [c']).length = j + 1 := by rw [List.length_append,hL]; rfl
   refine ⟨(by unfold I64; omega),ih (j + 1,K2,_,_,dv2,L ++ [c'],hd2,K.length + 1,K1.length + 1) ⟨hjl,hsub2,hdv3,hW',hL2,.inr ⟨Nat.succ_ne_zero _,rfl,?_,by rw [mG,hL2]⟩,.inr ⟨Nat.succ_ne_zero _,rfl,?_,?_⟩,fun _ => hne3⟩ (by simp only; omega)⟩
   · show K2[K.length + 1]? = some (some (.row (iO (L ++ [c']))))
     refine d4 _ _ (fun h0 => by have := jo1 h0; omega) (aA ?_)
     rw [iO,List.map_append,List.flatten_append,List.map_singleton,List.flatten_singleton,← hRc]
     exact a3
   · show K2[K1.length + 1]? = some (some (.row (aE (cR (List.range (j + 1))))))
     rw [List.range_succ]
     simp only [cR,List.map_append,aE,List.map_cons,List.map_nil]
     simpa [aE,cR] using d3
   · rw [bC,fI,List.length_range,Nat.mul_one]
 · have f1 : ¬ (j : Int) < l.length := by omega
   obtain rfl : j = l.length := by omega
   simp only [go_sem,hlen,f1]
   have hcl : CL w0 G lv L := jL.cl hA hL
   have hsl : SlI w0 G ov (cR (List.range L.length)) := by rw [hL]; exact jL.sli hB (by rw [fI,List.length_range])
   obtain ⟨g1,g2⟩ := hW.first n4
   have hce : cH (n : Int) L = 0 := by
    have h1 : inB (n : Int) 1 4 = true := by simp only [inB,Bool.and_eq_true,decide_eq_true_eq]; omega
    rw [cH,if_neg (by omega),eV,h1,Bool.true_and,hJ (by unfold I64; omega),List.all_eq_true.2 hW.all]; rfl
   refine aV (ACall.vc (first := []) (capt := []) (uE (n : Int) hcl hsl)) ?_
   rintro y H1 ⟨sH1,rfl⟩
   rw [if_pos hce,g1]
   simp only [go_sem]
   refine aV (ACall.vc (first := []) (capt := []) (aBu (n : Int) (hcl.sub sH1))) ?_
   rintro y H2 ⟨sH2,hy⟩
   rw [LinK,if_pos hce] at hy
   cases hf : lZ L with
   | none => exact absurd hf g2
   | some x =>
    rw [hf] at hy
    obtain ⟨lv2,rfl,_⟩ := hy
    simp only [go_sem]
    refine aK fP.v ?_
    simp only [go_sem]
    exact (sG.trans sH1).trans sH2
end Go.Proofs.Ab
