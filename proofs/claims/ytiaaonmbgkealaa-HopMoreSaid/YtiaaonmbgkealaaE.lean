/- The own layer under the proofs of this seat, part E: what calls of the program come to on an abstract heap. No condition. -/
import Derived.Test.YtiaaonmbgkealaaD
set_option linter.unusedSimpArgs false
set_option linter.unusedVariables false
namespace Go.Proofs.Ab
open Go
def Pl.al (p : Nat → Prop) : Pl → Prop
 | .old _ => True
 | .own i _ => p i
mutual
def AV.al (p : Nat → Prop) : AV → Prop
 | .agg l | .tup l => AV.als p l
 | .ptr q | .sl q _ _ _ => q.al p
 | .map i | .yld i => p i
 | .fn _ x y => AV.als p x ∧ AV.als p y
 | .ifc _ x => x.al p
 | _ => True
def AV.als (p : Nat → Prop) : List AV → Prop
 | [] => True
 | x :: xs => x.al p ∧ AV.als p xs
end
def Blk.al (p : Nat → Prop) : Blk → Prop
 | .row c => ∀ x ∈ c,x.al p
 | .map es => ∀ e ∈ es,e.1.al p ∧ e.2.al p
 | .loop _ fr _ _ _ _ _ => ∀ t,(Fr.get fr t).al p
theorem Pl.bdd_al {p : Nat → Prop} {N : Nat} (hp : ∀ i,i < N → p i) {q : Pl} (h : q.bdd N) : q.al p := by
 cases q with
 | old a => trivial
 | own i o => exact hp i h
mutual
theorem AV.bdd_al {p : Nat → Prop} {N : Nat} (hp : ∀ i,i < N → p i) : ∀ v : AV,v.bdd N → v.al p
 | .agg l,h => by simp only [AV.bdd,AV.al] at *; exact AV.bdds_als hp l h
 | .tup l,h => by simp only [AV.bdd,AV.al] at *; exact AV.bdds_als hp l h
 | .ptr q,h => by simp only [AV.bdd,AV.al] at *; exact Pl.bdd_al hp h
 | .sl q _ _ _,h => by simp only [AV.bdd,AV.al] at *; exact Pl.bdd_al hp h
 | .map i,h => by simp only [AV.bdd,AV.al] at *; exact hp i h
 | .yld i,h => by simp only [AV.bdd,AV.al] at *; exact hp i h
 | .fn _ x y,h => by simp only [AV.bdd,AV.al] at *; exact ⟨AV.bdds_als hp x h.1,AV.bdds_als hp y h.2⟩
 | .ifc _ x,h => by simp only [AV.bdd,AV.al] at *; exact AV.bdd_al hp x h
 | .undef,_ | .int _ _,_ | .bool _,_ | .str _,_ | .nilP,_ | .nilS,_ | .nilM,_ | .nilF,_ | .nilI,_ => by simp only [AV.al]
theorem AV.bdds_als {p : Nat → Prop} {N : Nat} (hp : ∀ i,i < N → p i) : ∀ l : List AV,AV.bdds N l → AV.als p l
 | [],_ => by simp only [AV.als]
 | x :: xs,h => by simp only [AV.bdds,AV.als] at *; exact ⟨AV.bdd_al hp x h.1,AV.bdds_als hp xs h.2⟩
end
theorem Blk.bdd_al {p : Nat → Prop} {N : Nat} (hp : ∀ i,i < N → p i) {b : Blk} (h : b.bdd N) : b.al p := by
 cases b with
 | row c => exact fun x hx => AV.bdd_al hp x (h x hx)
 | map es => exact fun e he => ⟨AV.bdd_al hp _ (h e he).1,AV.bdd_al hp _ (h e he).2⟩
 | loop nt fr ps a c st q => exact fun t => AV.bdd_al hp _ (h t)
def xF (m m' : Emb) (p : Nat → Prop) : Prop := ∀ i,p i → m'.blk i = m.blk i ∧ m'.base i = m.base i ∧ m'.sz i = m.sz i
theorem xF.pl {m m' : Emb} {p : Nat → Prop} (h : xF m m' p) {q : Pl} (hp : q.al p) : m'.pl q = m.pl q := by
 cases q with
 | old a => rfl
 | own i o => simp only [Pl.al] at hp; simp [Emb.pl,(h i hp).1,(h i hp).2.1]
mutual
theorem kE {m m' : Emb} {p : Nat → Prop} (h : xF m m' p) : ∀ (x : AV) (v : Value),x.al p → VR m x v → VR m' x v
 | .undef,_,_,_ => by simp only [VR]
 | .int _ _,_,_,hv | .bool _,_,_,hv | .str _,_,_,hv | .nilP,_,_,hv | .nilS,_,_,hv | .nilM,_,_,hv | .nilF,_,_,hv | .nilI,_,_,hv => by
  simpa only [VR] using hv
 | .agg l,v,hb,hv => by
  simp only [VR,AV.al] at *
  obtain ⟨a,e,hl⟩ := hv
  exact ⟨a,e,VRs_agree h l _ hb hl⟩
 | .tup l,v,hb,hv => by
  simp only [VR,AV.al] at *
  obtain ⟨a,e,hl⟩ := hv
  exact ⟨a,e,VRs_agree h l _ hb hl⟩
 | .ptr p,v,hb,hv => by simp only [VR,AV.al] at *; rw [h.pl hb]; exact hv
 | .sl p len es full,v,hb,hv => by
  simp only [VR,AV.al] at *
  obtain ⟨a,cap,e,h1,h2,h3⟩ := hv
  refine ⟨a,cap,e,h1,h2,h3.imp id fun ⟨e1,e2⟩ => ⟨by rw [h.pl hb]; exact e1,fun i off hp => ?_⟩⟩
  subst hp
  simp only [Pl.al] at hb
  rw [(h i hb).2.2]; exact e2 i off rfl
 | .map i,v,hb,hv => by simp only [VR,AV.al] at *; rw [(h i hb).1]; exact hv
 | .yld i,v,hb,hv => by simp only [VR,AV.al] at *; rw [(h i hb).1]; exact hv
 | .fn f x y,v,hb,hv => by
  simp only [VR,AV.al] at *
  obtain ⟨a,b,e,h1,h2⟩ := hv
  exact ⟨a,b,e,VRs_agree h x _ hb.1 h1,VRs_agree h y _ hb.2 h2⟩
 | .ifc t x,v,hb,hv => by
  simp only [VR,AV.al] at *
  obtain ⟨y,e,h1⟩ := hv
  exact ⟨y,e,kE h x _ hb h1⟩
theorem VRs_agree {m m' : Emb} {p : Nat → Prop} (h : xF m m' p) : ∀ (x : List AV) (v : List Value),AV.als p x → VRs m x v → VRs m' x v
 | [],_,_,hv => by simpa only [VRs] using hv
 | x :: xs,v,hb,hv => by
  simp only [VRs,AV.als] at *
  obtain ⟨y,ys,e,h1,h2⟩ := hv
  exact ⟨y,ys,e,kE h x _ hb.1 h1,VRs_agree h xs _ hb.2 h2⟩
end
theorem aG4 {m m' : Emb} {p : Nat → Prop} {d n : Nat} (h : xF m m' p) {b : Blk} (hb : b.al p) {o : Option Obj} (hr : BR m d n b o) : BR m' d n b o := by
 cases b with
 | row c =>
  obtain ⟨ca,e,rfl,hs,hk⟩ := hr
  refine ⟨ca,e,rfl,hs,fun k x hx => ?_⟩
  obtain ⟨y,hy,hv⟩ := hk k x hx
  exact ⟨y,hy,kE h x y (hb x (List.mem_of_getElem? hx)) hv⟩
 | map es =>
  obtain ⟨ea,ck,rfl,hs,hk,hn,hl⟩ := hr
  refine ⟨ea,ck,rfl,hs,fun k x hx => ?_,hn,hl⟩
  obtain ⟨e,he,h1,h2⟩ := hk k x hx
  exact ⟨e,he,kE h _ _ (hb x (List.mem_of_getElem? hx)).1 h1,kE h _ _ (hb x (List.mem_of_getElem? hx)).2 h2⟩
 | loop nt fr ps a c st q =>
  obtain ⟨L,rfl,h1,h2,h3,h4,h5,h5',h6⟩ := hr
  exact ⟨L,rfl,h1,h2,h3,h4,h5,h5',fun t => kE h _ _ (hb t) (h6 t)⟩
def opV (P : Program) (w0 : World) (x : MIx) (fr : Fr) (h : Heap) (K : AV → Heap → Prop) : Prop :=
 match x with
 | .op _ g o => match want fr g with
  | some true => ∃ v h',aop w0 o fr h = some (v,h') ∧ K v h'
  | some false => K (.tup []) h
  | none => False
 | .call _ g f args => match want fr g with
  | some true => aS P w0 (f.ev fr) (args.map (·.ev fr)) h K
  | some false => K (.tup []) h
  | none => False
section
variable {P : Program} {w0 : World} {r l : Option Nat} {nt Z : Nat} {B : Bs} {m m' : Emb} {fr : Fr} {h h' : Heap} {a : Act} {w w' : World}
theorem opV.mono {x : MIx} {K K' : AV → Heap → Prop} (e : opV P w0 x fr h K) (hk : ∀ v h',K v h' → K' v h') : opV P w0 x fr h K' := by
 cases x with
 | op d g o =>
  simp only [opV] at e ⊢
  split at e
  · obtain ⟨v,h',e,k⟩ := e; exact ⟨v,h',e,hk _ _ k⟩
  · exact hk _ _ e
  · exact e
 | call d g f args =>
  simp only [opV] at e ⊢
  split at e
  · exact aS.mono e hk
  · exact hk _ _ e
  · exact e
theorem rM {ops : Array Oper} {o : Oper} {x : MIx} (hx : dZ P nt ops o = some x) : x.dst = o.dst ∧ sJ nt o.dst = true := by
 unfold dZ at hx
 split at hx
 · rename_i hd
   simp only [Option.bind_eq_some_iff] at hx
   obtain ⟨g,hg,hx⟩ := hx
   split at hx
   · simp only [Option.bind_eq_some_iff,Option.map_eq_some_iff] at hx
     obtain ⟨_,_,_,_,rfl⟩ := hx
     exact ⟨rfl,hd⟩
   · simp only [Option.map_eq_some_iff] at hx
     obtain ⟨_,_,rfl⟩ := hx
     exact ⟨rfl,hd⟩
 · cases hx
theorem aEY {ops : Array Oper} {o : Oper} {x : MIx} (hx : dZ P nt ops o = some x) {K : AV → Heap → Prop} (sa : SA w0 r l nt Z B m fr h a w)
 (hv : opV P w0 x fr h K) {Q : Exit → Act → World → Prop} {next : Act → World → Prop}
 (hn : ∀ m' v v' h' w',bO w0 m m' h h' w w' → VR m' v v' → v.bdd h'.length → SA w0 r l nt Z B m' (fr.put o.dst v) h' (a.put o.dst v') w' → K v h' → next (a.put o.dst v') w') :
 if Region.wanted o (yielded ops a.tmps) then o.wpIn (Wd l) 0 P a w next Q else (∀ f,o.about P w a.eval = some f → (Wd l).fn f) ∧ next (a.put o.dst undef) w := by
 unfold dZ at hx
 split at hx
 · rename_i hd
   simp only [Option.bind_eq_some_iff] at hx
   obtain ⟨g,hg,hx⟩ := hx
   have hskip : want fr g = some false → K (.tup []) h →
    (if Region.wanted o (yielded ops a.tmps) then o.wpIn (Wd l) 0 P a w next Q else (∀ f,o.about P w a.eval = some f → (Wd l).fn f) ∧ next (a.put o.dst undef) w) := fun hw hk => by
    rw [eI hg sa.frame hw]
    have hv0 : VR m (.tup []) undef := ⟨#[],rfl,rfl⟩
    exact ⟨fun _ _ => trivial,hn m _ _ h w (.refl sa.sim) hv0 trivial (sa.put hd (.refl sa.sim) hv0 trivial) hk⟩
   split at hx
   · rename_i f args hcall
     simp only [jX,Option.bind_eq_some_iff,Option.map_eq_some_iff] at hx
     obtain ⟨f',hf',as,has,rfl⟩ := hx
     simp only [opV] at hv
     split at hv
     · rename_i hw
       rw [eI hg sa.frame hw]
       refine ⟨fun _ _ => trivial,?_⟩
       obtain ⟨f1,f2⟩ := aN sa.frame hf'
       obtain ⟨a1,a2⟩ := gF sa.frame has
       have hop : ∃ at',o.op = .call { callee := .value f,args := args,argTypes := at' } := by
        unfold yQ at hcall
        split at hcall
        · rename_i at' ho; simp at hcall; obtain ⟨rfl,rfl⟩ := hcall; exact ⟨at',ho⟩
        · cases hcall
       obtain ⟨at',hop⟩ := hop
       have hsem : o.semAt (Wd l).round a.eval = execOp a.eval o := by
        cases l with
        | none => rfl
        | some l => simp [Oper.semAt,Wd,hop]
       rw [hsem]
       generalize hfv : f'.ev fr = fv at hv f1 f2
       have hcont : ∀ {e : Ending} {w'' : World},xD w0 m h w K e w'' → (match e,w'' with | .returned v,w'' => next (a.put o.dst v) w'' | .panicked chain,w'' => Q (.panic chain) a w'' | .outgrown,_ => LetsOut Q) := fun {e w''} ⟨v',e1,m',v,h',s1,s2,s3,s4⟩ => by
        subst e1
        exact hn m' _ _ h' w'' s1 s2 s3 (sa.put hd s1 s2 s3) s4
       unfold aS at hv
       split at hv
       · rename_i fid first capt
         simp only [VR] at f1
         obtain ⟨p,q,e1,p1,q1⟩ := f1
         have hb := hv.1
         have hrun : (execOp a.eval o).run P w = .ok (.enter fid (p ++ args.map a.eval ++ q)) w := by
          simp only [execOp,hop,resolve,e1,Deferred.ofValue,Sem.run_bind,Sem.run_pure,Result.andThen_ok,invoke]
          exact iB hb
         rw [hrun]
         have hargs : VRs m (first ++ as.map (·.ev fr) ++ capt) (p ++ args.map a.eval ++ q).toList := lN p1 (by simpa using a1) q1
         refine ⟨fun hh => by simp [Wd,Fence.wide] at hh,?_⟩
         have hc := hv.2 m w _ sa.sim hargs (cQ (cQ f2.1 a2) f2.2)
         exact hc.mono fun _ _ he => hcont he
       · rename_i i
         simp only [VR] at f1
         obtain ⟨fid,tmps,assign,body,hy,hr⟩ := hv m w (args.map a.eval) sa.sim (by simpa using a1) a2
         have hrun : (execOp a.eval o).run P w = .ok (.round (m.blk i) fid tmps assign body) w := by
          simp only [execOp,hop,resolve,f1,Deferred.ofValue,Sem.run_bind,Sem.run_pure,Result.andThen_ok,invoke]
          simpa using hy
         rw [hrun]
         refine ⟨fun hh => by simp [Wd,Fence.wide] at hh,?_⟩
         exact hr.mono fun _ _ he => hcont he
       · exact hv.elim
     · rename_i hw
       exact hskip hw hv
     · exact hv.elim
   · simp only [Option.map_eq_some_iff] at hx
     obtain ⟨mo,hmo,rfl⟩ := hx
     simp only [opV] at hv
     split at hv
     · rename_i hw
       rw [eI hg sa.frame hw]
       refine ⟨fun _ _ => trivial,?_⟩
       obtain ⟨v,h',ha,hk⟩ := hv
       obtain ⟨m',v',w',hr,hs,hvr,hbd⟩ := wU sa.sim sa.frame hmo ha
       have hdef : ∀ c,o.op ≠ .defer c := fun c e => wV (c := c) (by rw [← e]; exact hmo) ha
       have hsem : o.semAt (Wd l).round a.eval = execOp a.eval o := by
        cases l with
        | none => rfl
        | some l =>
         simp only [Oper.semAt,Wd]
         split
         · rename_i c hc; exact absurd hc (hdef _)
         · rfl
       rw [hsem]
       have hnx := hn m' _ _ h' w' hs hvr hbd (sa.put hd hs hvr hbd) hk
       rcases hr with hr | ⟨hr,rfl⟩
       · rw [hr]; exact hnx
       · rw [hr]
         exact hn m' _ undef h' w' hs (by simp [VR]) hbd (sa.put hd hs (v' := undef) (by simp [VR]) hbd) hk
     · rename_i hw
       exact hskip hw hv
     · exact hv.elim
 · cases hx
end
end Go.Proofs.Ab
namespace Go.Proofs.Ab
open Go
structure Lay where
 N : Nat → Nat
 T : Nat → AV
 U : Nat → Nat → Option (Option Blk)
def hS (D : Lay) (h : Heap) : Nat → (Nat → Bool) → Nat → Option Blk
 | 0,_,c => (h[c]?).join
 | n + 1,S,c => if S n then match D.U n c with
  | some b => b
  | none => hS D h n S c
  else hS D h n S c
def bJ (l : List MIx) (j : Nat) : Option Nat := (l[j]?).bind MIx.dst
def gS (D : Lay) (l : List MIx) (fr : Fr) : Nat → (Nat → Bool) → Nat → AV
 | 0,_,t => fr.get t
 | n + 1,S,t => if S n = true ∧ bJ l n = some t then D.T n else gS D l fr n S t
def masked (D : Lay) (bef : List (List Nat)) (n i c : Nat) : Bool := (List.range n).any fun j => hY bef i j && (D.U j c).isSome
def gU (D : Lay) (bef : List (List Nat)) (h : Heap) (n i : Nat) : Heap :=
 (List.range (D.N i)).map fun c => if masked D bef n i c then none else hS D h n (bfr bef i) c
def gV (D : Lay) (l : List MIx) (bef : List (List Nat)) (i : Nat) (fr : Fr) : Nat → Fr
 | 0 => fr
 | n + 1 => if bfr bef i n then Fr.put (gV D l bef i fr n) (bJ l n) (D.T n) else if hY bef i n then Fr.put (gV D l bef i fr n) (bJ l n) .undef else gV D l bef i fr n
def kM (D : Lay) (bef : List (List Nat)) (h : Heap) (n i : Nat) : Heap :=
 (List.range (D.N (i + 1))).map fun c => match D.U i c with
  | some b => b
  | none => ((gU D bef h n i)[c]?).join
def eY (D : Lay) (h : Heap) (n : Nat) (S : Nat → Bool) : Heap := (List.range (D.N n)).map fun c => hS D h n S c
def cP (S : Nat → Bool) (i : Nat) : Nat → Bool := fun j => Nat.beq j i || S j
theorem bD {a b : Nat} : Nat.beq a b = true ↔ a = b := ⟨Nat.eq_of_beq_eq_true,fun e => by subst e; exact Nat.beq_refl a⟩
section
variable {D : Lay} {h : Heap} {l : List MIx} {fr : Fr} {bef : List (List Nat)}
theorem mV {S S' : Nat → Bool} {c : Nat} : ∀ n,(∀ j,j < n → (D.U j c).isSome = true → S j = S' j) → hS D h n S c = hS D h n S' c
 | 0,_ => rfl
 | n + 1,hyp => by
  have ih := mV n fun j hj => hyp j (by omega)
  simp only [hS]
  cases hu : D.U n c with
  | none => simp only [ih,ite_self]
  | some b => rw [hyp n (by omega) (by simp [hu]),ih]
theorem qD {S : Nat → Bool} {c : Nat} {b : Blk} : ∀ n,hS D h n S c = some b → h[c]? = some (some b) ∨ ∃ j,j < n ∧ S j = true ∧ D.U j c = some (some b)
 | 0,e => .inl (by simp only [hS] at e; exact Option.join_eq_some_iff.1 e)
 | n + 1,e => by
  simp only [hS] at e
  split at e
  · rename_i hs
    split at e
    · rename_i b' hu; subst e; exact .inr ⟨n,by omega,hs,hu⟩
    · exact (qD n e).imp id fun ⟨j,hj,x⟩ => ⟨j,by omega,x⟩
  · exact (qD n e).imp id fun ⟨j,hj,x⟩ => ⟨j,by omega,x⟩
theorem yI {S : Nat → Bool} {i c : Nat} (hu : D.U i c = none) (n : Nat) : hS D h n (cP S i) c = hS D h n S c :=
 mV n fun j _ hj => by
  have : Nat.beq j i = false := by
   cases hb : Nat.beq j i with
   | false => rfl
   | true => rw [bD.1 hb,hu] at hj; cases hj
  simp [cP,this]
theorem qC {S : Nat → Bool} {i c : Nat} {b : Option Blk} (hu : D.U i c = some b) : ∀ n,i < n → (∀ j,i < j → j < n → S j = true → D.U j c = none) → hS D h n (cP S i) c = b
 | 0,hi,_ => by omega
 | n + 1,hi,hyp => by
  simp only [hS]
  by_cases e : i = n
  · subst e
    simp [cP,hu]
  · have ih := qC hu n (by omega) fun j a b => hyp j a (by omega)
    have hb : Nat.beq n i = false := by
     cases hb : Nat.beq n i with
     | false => rfl
     | true => exact absurd (bD.1 hb).symm e
    simp only [cP,hb,Bool.false_or]
    split
    · rename_i hs
      rw [hyp n (by omega) (by omega) hs]; exact ih
    · exact ih
theorem uM {S : Nat → Bool} {i t : Nat} (hd : bJ l i ≠ some t) : ∀ n,gS D l fr n (cP S i) t = gS D l fr n S t
 | 0 => rfl
 | n + 1 => by
  simp only [gS]
  rw [uM hd n]
  by_cases e : n = i
  · subst e; simp [hd]
  · have hb : Nat.beq n i = false := by
     cases hb : Nat.beq n i with
     | false => rfl
     | true => exact absurd (bD.1 hb) e
    simp [cP,hb]
theorem uN {S : Nat → Bool} {i t : Nat} (hd : bJ l i = some t) : ∀ n,i < n → (∀ j,j < n → j ≠ i → bJ l j ≠ some t) → gS D l fr n (cP S i) t = D.T i
 | 0,hi,_ => by omega
 | n + 1,hi,hyp => by
  simp only [gS]
  by_cases e : i = n
  · subst e; simp [cP,hd]
  · rw [if_neg (fun x => hyp n (by omega) (fun y => e y.symm) x.2)]
    exact uN hd n (by omega) fun j a b => hyp j (by omega) b
theorem qG {S : Nat → Bool} {t : Nat} : ∀ n,gS D l fr n S t = fr.get t ∨ ∃ j,j < n ∧ S j = true ∧ gS D l fr n S t = D.T j
 | 0 => .inl rfl
 | n + 1 => by
  simp only [gS]
  split
  · rename_i hs; exact .inr ⟨n,by omega,hs.1,rfl⟩
  · exact (qG n).imp id fun ⟨j,hj,x⟩ => ⟨j,by omega,x⟩
theorem dW {fr : Fr} {d : Option Nat} {v : AV} {t : Nat} (h : d ≠ some t) : (Fr.put fr d v).get t = fr.get t := by
 cases d with
 | none => rfl
 | some d =>
  have hne : t ≠ d := fun e => h (by rw [e])
  have : Nat.beq t d = false := by
   cases hb : Nat.beq t d with
   | false => rfl
   | true => exact absurd (Nat.eq_of_beq_eq_true hb) hne
  simp [Fr.put,Fr.get,this]
theorem bY {fr : Fr} {t : Nat} {v : AV} : (Fr.put fr (some t) v).get t = v := by simp [Fr.put,Fr.get]
theorem vO {S : Nat → Bool} {i : Nat} (hi : S i = false) (hb : ∀ j,bfr bef i j = true → S j = true) (ha : ∀ j,S j = true → bfr bef j i = false) (t : Nat) :
 ∀ n,(gV D l bef i fr n).get t = .undef ∨ (gV D l bef i fr n).get t = gS D l fr n S t
 | 0 => .inr rfl
 | n + 1 => by
  have ih := vO hi hb ha t n
  simp only [gV,gS]
  by_cases hbn : bfr bef i n = true
  · rw [if_pos hbn]
    by_cases hd : bJ l n = some t
    · rw [if_pos ⟨hb n hbn,hd⟩,hd,bY]; exact .inr rfl
    · rw [if_neg (fun x => hd x.2),dW hd]; exact ih
  · rw [if_neg hbn]
    by_cases hf : hY bef i n = true
    · rw [if_pos hf]
      by_cases hd : bJ l n = some t
      · rw [hd,bY]; exact .inl rfl
      · rw [if_neg (fun x => hd x.2),dW hd]; exact ih
    · rw [if_neg hf]
      have hs : S n = false := by
       cases hsn : S n with
       | false => rfl
       | true =>
        exfalso; apply hf
        have h1 := ha n hsn
        have h2 : Nat.beq n i = false := by
         cases hb : Nat.beq n i with
         | false => rfl
         | true => rw [bD.1 hb,hi] at hsn; cases hsn
        simp at hbn
        simp [hY,h1,h2,hbn]
      rw [if_neg (fun x => by rw [hs] at x; exact absurd x.1 (by simp))]
      exact ih
theorem nS {n : Nat} {S : Nat → Bool} {c : Nat} : (eY D h n S)[c]? = if c < D.N n then some (hS D h n S c) else none := by
 simp only [eY,List.getElem?_map]
 split <;> simp_all
theorem vN {n i c : Nat} : (gU D bef h n i)[c]? = if c < D.N i then some (if masked D bef n i c then none else hS D h n (bfr bef i) c) else none := by
 simp only [gU,List.getElem?_map]
 by_cases hc : c < D.N i
 · rw [if_pos hc,List.getElem?_range hc]; rfl
 · rw [if_neg hc,List.getElem?_eq_none (by simpa using hc)]; rfl
theorem qW {n i c : Nat} : (kM D bef h n i)[c]? = if c < D.N (i + 1) then some (match D.U i c with
 | some b => b
 | none => ((gU D bef h n i)[c]?).join) else none := by
 simp only [kM,List.getElem?_map]
 by_cases hc : c < D.N (i + 1)
 · rw [if_pos hc,List.getElem?_range hc]; rfl
 · rw [if_neg hc,List.getElem?_eq_none (by simpa using hc)]; rfl
theorem aBx {n i c j : Nat} (hm : masked D bef n i c = false) (hj : j < n) (hf : hY bef i j = true) : D.U j c = none := by
 simp only [masked,List.any_eq_false,List.mem_range,Bool.and_eq_true,not_and] at hm
 simpa using hm j hj hf
theorem aB6 {n i c : Nat} {S : Nat → Bool} (hi : S i = false) (hb : ∀ j,bfr bef i j = true → S j = true) (ha : ∀ j,S j = true → bfr bef j i = false) (hm : masked D bef n i c = false) :
 hS D h n (bfr bef i) c = hS D h n S c := by
 refine mV n fun j hj hu => ?_
 cases hbj : bfr bef i j with
 | true => exact (hb j hbj).symm
 | false =>
  cases hsj : S j with
  | false => rfl
  | true =>
   have h2 : Nat.beq j i = false := by
    cases hb : Nat.beq j i with
    | false => rfl
    | true => rw [bD.1 hb,hi] at hsj; cases hsj
   have := aBx hm hj (by simp [hY,h2,hbj,ha j hsj])
   rw [this] at hu; cases hu
end
end Go.Proofs.Ab
namespace Go.Proofs.Ab
open Go
def oA (D : Lay) (i c : Nat) : Prop := c < D.N i ∨ D.N (i + 1) ≤ c
structure DOK (D : Lay) (l : List MIx) (bef : List (List Nat)) (h : Heap) (n : Nat) : Prop where
 zero : D.N 0 = h.length
 mono : ∀ i,i < n → D.N i ≤ D.N (i + 1)
 low : ∀ i c,i < n → (D.U i c).isSome = true → c < D.N (i + 1)
 apart : ∀ i j c,i < n → j < n → hY bef i j = true → (D.U i c).isSome = true → D.U j c = none
 al : ∀ i j,i < j → j < n → hY bef i j = true → D.N i < D.N (i + 1) → (D.T j).al (oA D i) ∧ ∀ c,(D.N i ≤ c → c < D.N (i + 1) → D.U j c = none) ∧ ∀ b,D.U j c = some (some b) → b.al (oA D i)
 less : ∀ i j,bfr bef i j = true → j < i
 dst : ∀ i j t,i < n → j < n → j ≠ i → bJ l i = some t → bJ l j ≠ some t
theorem DOK.mono' {D : Lay} {l : List MIx} {bef : List (List Nat)} {h : Heap} {n : Nat} (k : DOK D l bef h n) {a b : Nat} (hab : a ≤ b) : b ≤ n → D.N a ≤ D.N b := by
 induction b with
 | zero => intro _; have : a = 0 := by omega
           subst this; exact Nat.le_refl _
 | succ b ih =>
  intro hb
  by_cases e : a = b + 1
  · subst e; exact Nat.le_refl _
  · exact Nat.le_trans (ih (by omega) (by omega)) (k.mono b (by omega))
structure DI (w0 : World) (D : Lay) (l : List MIx) (fr : Fr) (h : Heap) (n nt : Nat) (m0 : Emb) (a0 : Act) (w : World) (S : Nat → Bool) (m : Emb) (a : Act) (w' : World) : Prop where
 st : bO w0 m0 m h (eY D h n S) w w'
 fr : ∀ t,VR m (gS D l fr n S t) (a.tmps.getD t undef)
 size : a.tmps.size = nt
 defers : a.defers = a0.defers
 bdd : ∀ j,j < n → S j = true → (D.T j).bdd (D.N (j + 1)) ∧ ∀ c b,D.U j c = some (some b) → b.bdd (D.N (j + 1))
section
variable {P : Program} {w0 : World} {r lr : Option Nat} {nt Z : Nat} {B : Bs} {m m0 : Emb} {fr : Fr} {h : Heap} {a a0 : Act} {w w' : World} {D : Lay} {l : List MIx} {bef : List (List Nat)} {n i : Nat} {S : Nat → Bool}
theorem zV {a : Act} {d : Option Nat} {v : Value} {t : Nat} (hd : d ≠ some t) : (a.put d v).tmps.getD t undef = a.tmps.getD t undef := by
 cases d with
 | none => rfl
 | some d =>
  simp only [Act.put]
  rw [aAm,if_neg]
  rintro ⟨e,_⟩; subst e; exact hd rfl
theorem wR (k : DOK D l bef h n) (sa0 : SA w0 r lr nt Z B m0 fr h a0 w) (di : DI w0 D l fr h n nt m0 a0 w S m a w') (hi : i < n) (hs : S i = false)
 (hb : ∀ j,bfr bef i j = true → S j = true) (ha : ∀ j,S j = true → bfr bef j i = false)
 {ops : Array Oper} {o : Oper} {x : MIx} (hx : dZ P nt ops o = some x) (hl : l[i]? = some x)
 (hv : opV P w0 x (gV D l bef i fr n) (gU D bef h n i) fun v h' => v = D.T i ∧ h' = kM D bef h n i)
 {Q : Exit → Act → World → Prop} {next : Act → World → Prop} (hn : ∀ m' a' w'',DI w0 D l fr h n nt m0 a0 w (cP S i) m' a' w'' → next a' w'') :
 if Region.wanted o (yielded ops a.tmps) then o.wpIn (Wd lr) 0 P a w' next Q else (∀ f,o.about P w' a.eval = some f → (Wd lr).fn f) ∧ next (a.put o.dst undef) w' := by
 have hN0 : h.length ≤ D.N i := by rw [← k.zero]; exact k.mono' (Nat.zero_le i) (by omega)
 have hN1 : D.N i ≤ D.N (i + 1) := k.mono i hi
 have hN2 : D.N (i + 1) ≤ D.N n := k.mono' (by omega) (Nat.le_refl n)
 have hvl : (gU D bef h n i).length = D.N i := by simp [gU]
 have hpl : (kM D bef h n i).length = D.N (i + 1) := by simp [kM]
 have hhl : (eY D h n S).length = D.N n := by simp [eY]
 have hx1 := rM hx
 have hdi : bJ l i = o.dst := by simp [bJ,hl,hx1.1]
 have hh0 : ∀ (c : Nat) b,h[c]? = some (some b) → b.bdd h.length := fun c b hc => (sa0.sim.at_ c b hc).2.2
 have hf0 : ∀ t,(fr.get t).bdd h.length := fun t => (sa0.frame t).2
 have hjlt : ∀ j,S j = true → j ≠ i → bfr bef i j = true ∨ hY bef i j = true := fun j hj hji => by
  cases h1 : bfr bef i j with
  | true => exact .inl rfl
  | false =>
   right
   have h2 : Nat.beq j i = false := by
    cases hb : Nat.beq j i with
    | false => rfl
    | true => exact absurd (bD.1 hb) hji
   simp [hY,h1,h2,ha j hj]
 have hal : ∀ c b,hS D h n S c = some b → b.al (oA D i) := fun c b hc => by
  rcases qD n hc with hc | ⟨j,hj,hsj,hu⟩
  · exact Blk.bdd_al (N := h.length) (fun q hq => .inl (by omega)) (hh0 c b hc)
  · have hji : j ≠ i := fun e => by rw [e,hs] at hsj; cases hsj
    have hbd := (di.bdd j hj hsj).2 c b hu
    rcases Nat.lt_or_ge j i with hlt | hge
    · exact Blk.bdd_al (fun q hq => .inl (Nat.lt_of_lt_of_le hq (k.mono' (by omega) (by omega)))) hbd
    · rcases hjlt j hsj hji with hbf | hf
      · exact absurd (k.less _ _ hbf) (by omega)
      · by_cases hlt : D.N i < D.N (i + 1)
        · exact ((k.al i j (by omega) hj hf hlt).2 c).2 b hu
        · exact Blk.bdd_al (fun q _ => by unfold oA; omega) hbd
 have hgal : ∀ t,(gS D l fr n S t).al (oA D i) := fun t => by
  rcases qG (D := D) (l := l) (fr := fr) (S := S) (t := t) n with e | ⟨j,hj,hsj,e⟩
  · rw [e]; exact AV.bdd_al (N := h.length) (fun q hq => .inl (by omega)) _ (hf0 t)
  · rw [e]
    have hji : j ≠ i := fun e => by rw [e,hs] at hsj; cases hsj
    have hbd := (di.bdd j hj hsj).1
    rcases Nat.lt_or_ge j i with hlt | hge
    · exact AV.bdd_al (fun q hq => .inl (Nat.lt_of_lt_of_le hq (k.mono' (by omega) (by omega)))) _ hbd
    · rcases hjlt j hsj hji with hbf | hf
      · exact absurd (k.less _ _ hbf) (by omega)
      · by_cases hlt : D.N i < D.N (i + 1)
        · exact (k.al i j (by omega) hj hf hlt).1
        · exact AV.bdd_al (fun q _ => by unfold oA; omega) _ hbd
 have hslot : ∀ c b,hS D h n S c = some b → oA D i c := fun c b hc => by
  rcases Nat.lt_or_ge c (D.N i) with hlt | hge
  · exact .inl hlt
  rcases Nat.lt_or_ge c (D.N (i + 1)) with hlt' | hge'
  · exfalso
    rcases qD n hc with hc | ⟨j,hj,hsj,hu⟩
    · have : c < h.length := by
       rcases Nat.lt_or_ge c h.length with h1 | h1
       · exact h1
       · rw [List.getElem?_eq_none h1] at hc; cases hc
      omega
    · have hji : j ≠ i := fun e => by rw [e,hs] at hsj; cases hsj
      rcases Nat.lt_or_ge j i with hlt2 | hge2
      · have := k.low j c hj (by simp [hu])
        have h3 := k.mono' (a := j + 1) (b := i) (by omega) (by omega)
        omega
      · rcases hjlt j hsj hji with hbf | hf
        · exact absurd (k.less _ _ hbf) (by omega)
        · have := ((k.al i j (by omega) hj hf (by omega)).2 c).1 hge hlt'
          rw [this] at hu; cases hu
  · exact .inr hge'
 have hview : ∀ (c : Nat) b,(gU D bef h n i)[c]? = some (some b) → c < D.N i ∧ hS D h n S c = some b ∧ hS D h n (bfr bef i) c = some b ∧ masked D bef n i c = false := fun c b hc => by
  rw [vN] at hc
  split at hc
  · rename_i hlt
    simp only [Option.some.injEq] at hc
    split at hc
    · cases hc
    · rename_i hm
      simp only [Bool.not_eq_true] at hm
      exact ⟨hlt,by rw [← aB6 hs hb ha hm]; exact hc,hc,hm⟩
  · cases hc
 have hvs : ∀ (c : Nat) b,(gU D bef h n i)[c]? = some (some b) → (eY D h n S)[c]? = some (some b) := fun c b hc => by
  obtain ⟨h1,h2,_,_⟩ := hview c b hc
  rw [nS,if_pos (by omega),h2]
 have sav : SA w0 r lr nt Z B m (gV D l bef i fr n) (gU D bef h n i) a w' := by
  refine ⟨⟨di.st.sim.size,di.st.sim.old,fun c b hc => ?_,fun c d b b' hcd hc hd => di.st.sim.inj c d b b' hcd (hvs c b hc) (hvs d b' hd)⟩,fun t => ⟨?_,?_⟩,di.size,Nat.le_trans sa0.low di.st.mods.size,?_,?_,sa0.inr,?_⟩
  · obtain ⟨h1,h2,_⟩ := di.st.sim.at_ c b (hvs c b hc)
    refine ⟨h1,h2,?_⟩
    rw [hvl]
    rcases qD n (hview c b hc).2.2.1 with hc' | ⟨j,hj,hbj,hu⟩
    · exact Blk.bdd_mono hN0 (hh0 c b hc')
    · exact Blk.bdd_mono (k.mono' (by have := k.less _ _ hbj; omega) (by omega)) ((di.bdd j hj (hb j hbj)).2 c b hu)
  · rcases vO (D := D) (l := l) (fr := fr) hs hb ha t n with e | e
    · rw [e]; simp [VR]
    · rw [e]; exact di.fr t
  · have key : ∀ q,q ≤ n → ((gV D l bef i fr q).get t).bdd (D.N i) := by
     intro q
     induction q with
     | zero => intro _; exact AV.bdd_mono hN0 _ (hf0 t)
     | succ q ih =>
      intro hq
      simp only [gV]
      by_cases hbq : bfr bef i q = true
      · rw [if_pos hbq]
        by_cases hd : bJ l q = some t
        · rw [hd,bY]
          exact AV.bdd_mono (k.mono' (by have := k.less _ _ hbq; omega) (by omega)) _ (di.bdd q (by omega) (hb q hbq)).1
        · rw [dW hd]; exact ih (by omega)
      · rw [if_neg hbq]
        by_cases hf : hY bef i q = true
        · rw [if_pos hf]
          by_cases hd : bJ l q = some t
          · rw [hd,bY]; trivial
          · rw [dW hd]; exact ih (by omega)
        · rw [if_neg hf]; exact ih (by omega)
    rw [hvl]; exact key n (Nat.le_refl n)
  · obtain ⟨rs,h1,h2,h3⟩ := sa0.marks.step di.st di.defers
    exact ⟨rs,h1,h2,fun q hq => ⟨(h3 q hq).1,(h3 q hq).2.1,fun c b hc => (h3 q hq).2.2 c b (hvs c b hc)⟩⟩
  · rw [sa0.rnd]
    cases hr : r with
    | none => rfl
    | some q => simp [(di.st.ext q (Nat.lt_of_lt_of_le (sa0.inr q hr) sa0.hz)).1]
  · rw [hvl]; have := sa0.hz; omega
 refine aEY hx sav hv fun m' v v' h' w'' s hvr hbd sa' hk => ?_
 obtain ⟨rfl,rfl⟩ := hk
 let m2 : Emb := { blk := fun c => if c < D.N (i + 1) then m'.blk c else m.blk c,base := fun c => if c < D.N (i + 1) then m'.base c else m.base c,sz := fun c => if c < D.N (i + 1) then m'.sz c else m.sz c }
 have e1 : Ext m' m2 (D.N (i + 1)) := fun c hc => by simp [m2,hc]
 have e2 : xF m m2 (oA D i) := fun c hc => by
  by_cases hlt : c < D.N (i + 1)
  · have hci : c < D.N i := by unfold oA at hc; omega
    have := s.ext c (by rw [hvl]; exact hci)
    simp [m2,hlt,this]
  · simp [m2,hlt]
 have key : ∀ (c : Nat) b,(eY D h n (cP S i))[c]? = some (some b) →
  ((kM D bef h n i)[c]? = some (some b) ∧ c < D.N (i + 1)) ∨ ((eY D h n S)[c]? = some (some b) ∧ oA D i c ∧ b.al (oA D i) ∧ ∀ b',(gU D bef h n i)[c]? ≠ some (some b')) := fun c b hc => by
  rw [nS] at hc
  split at hc
  case isFalse => cases hc
  rename_i hcL
  simp only [Option.some.injEq] at hc
  cases hu : D.U i c with
  | some b0 =>
   have hc1 := k.low i c hi (by simp [hu])
   rw [qC hu n hi] at hc
   · left
     refine ⟨?_,hc1⟩
     rw [qW,if_pos hc1,hu]
     simp [hc]
   · intro j hij hjn hsj
     rcases hjlt j hsj (by omega) with hbf | hf
     · exact absurd (k.less _ _ hbf) (by omega)
     · exact k.apart i j c hi hjn hf (by simp [hu])
  | none =>
   rw [yI hu] at hc
   by_cases hvis : c < D.N i ∧ masked D bef n i c = false
   · left
     refine ⟨?_,by omega⟩
     rw [qW,if_pos (by omega),hu,vN,if_pos hvis.1]
     have := aB6 (h := h) hs hb ha hvis.2
     simp only [hvis.2]
     simp [this,hc]
   · right
     refine ⟨by rw [nS,if_pos hcL,hc],hslot c b hc,hal c b hc,fun b' hb' => hvis ⟨(hview c b' hb').1,(hview c b' hb').2.2.2⟩⟩
 refine hn m2 _ w'' ⟨⟨⟨s.sim.size,s.sim.old,fun c b hc => ?_,fun c d b b' hcd hc hd => ?_⟩,fun c hc => ?_,di.st.mods.trans s.mods ?_,?_,?_⟩,fun t => ?_,sa'.size,?_,fun j hj hsj => ?_⟩
 · rcases key c b hc with ⟨hp,hc1⟩ | ⟨hp,ho,hba,hnv⟩
   · obtain ⟨h1,h2,h3⟩ := s.sim.at_ c b hp
     obtain ⟨g1,g2,g3⟩ := e1 c hc1
     rw [g1,g2,g3]
     refine ⟨h1,yZ e1 (by rw [← hpl]; exact h3) h2,Blk.bdd_mono ?_ h3⟩
     rw [hpl]; simp [eY]; exact hN2
   · obtain ⟨h1,h2,h3⟩ := di.st.sim.at_ c b hp
     obtain ⟨g1,g2,g3⟩ := e2 c ho
     rw [g1,g2,g3]
     refine ⟨h1,?_,by rw [hhl] at h3; simpa [eY] using h3⟩
     rw [s.mods.same (m.blk c) (di.st.sim.lt hp) fun q b2 hq => di.st.sim.inj q c b2 b (fun e => hnv b2 (e ▸ hq)) (hvs q b2 hq) hp]
     exact aG4 e2 hba h2
 · rcases key c b hc with ⟨hp,hc1⟩ | ⟨hp,ho,hba,hnv⟩
   · rcases key d b' hd with ⟨hp',hd1⟩ | ⟨hp',ho',hba',hnv'⟩
     · rw [(e1 c hc1).1,(e1 d hd1).1]; exact s.sim.inj c d b b' hcd hp hp'
     · rw [(e1 c hc1).1,(e2 d ho').1]
       intro e
       obtain ⟨j,b2,hj,e'⟩ := s.roots c b hp (by rw [e]; exact di.st.sim.lt hp')
       exact di.st.sim.inj j d b2 b' (fun e => hnv' b2 (e ▸ hj)) (hvs j b2 hj) hp' (e'.trans e)
   · rcases key d b' hd with ⟨hp',hd1⟩ | ⟨hp',ho',hba',hnv'⟩
     · rw [(e2 c ho).1,(e1 d hd1).1]
       intro e
       obtain ⟨j,b2,hj,e'⟩ := s.roots d b' hp' (by rw [← e]; exact di.st.sim.lt hp)
       exact di.st.sim.inj j c b2 b (fun e => hnv b2 (e ▸ hj)) (hvs j b2 hj) hp (e'.trans e.symm)
     · rw [(e2 c ho).1,(e2 d ho').1]; exact di.st.sim.inj c d b b' hcd hp hp'
 · have ho : oA D i c := .inl (by omega)
   obtain ⟨g1,g2,g3⟩ := e2 c ho
   rw [g1,g2,g3]; exact di.st.ext c hc
 · exact fun c b hc hlt => di.st.roots c b (hvs c b hc) hlt
 · simp [eY]; omega
 · intro c b hc hlt
   rcases key c b hc with ⟨hp,hc1⟩ | ⟨hp,ho,hba,hnv⟩
   · rw [(e1 c hc1).1] at hlt ⊢
     obtain ⟨j,b2,hj,e⟩ := s.roots c b hp (Nat.lt_of_lt_of_le hlt di.st.mods.size)
     obtain ⟨j2,b3,hj2,e2'⟩ := di.st.roots j b2 (hvs j b2 hj) (by rw [e]; exact hlt)
     exact ⟨j2,b3,hj2,e2'.trans e⟩
   · rw [(e2 c ho).1] at hlt ⊢
     exact di.st.roots c b hp hlt
 · by_cases hd : o.dst = some t
   · rw [uN (hdi.trans hd) n hi (fun j hj hji => k.dst i j t hi hj hji (hdi.trans hd))]
     have := (sa'.frame t).1
     rw [hd,bY] at this
     rw [hd]
     exact fY e1 _ _ (by rw [← hpl]; exact hbd) this
   · rw [uM (by rw [hdi]; exact hd),zV hd]
     exact kE e2 _ _ (hgal t) (di.fr t)
 · rw [← di.defers]; cases o.dst <;> rfl
 · by_cases e : j = i
   · subst e
     refine ⟨by rw [← hpl]; exact hbd,fun c b hu => ?_⟩
     have hc1 := k.low j c hj (by simp [hu])
     have := (s.sim.at_ c b (by rw [qW,if_pos hc1,hu])).2.2
     rw [hpl] at this; exact this
   · have hb' : Nat.beq j i = false := by
      cases hb : Nat.beq j i with
      | false => rfl
      | true => exact absurd (bD.1 hb) e
     simp only [cP,hb',Bool.false_or] at hsj
     exact di.bdd j hj hsj
end
end Go.Proofs.Ab
namespace Go.Proofs.Ab
open Go
def jW (D : Lay) (l : List MIx) (fr : Fr) : Nat → Fr
 | 0 => fr
 | n + 1 => Fr.put (jW D l fr n) (bJ l n) (D.T n)
def rQ : Nat → Bool := fun _ => true
section
variable {P : Program} {w0 : World} {r lr : Option Nat} {nt Z : Nat} {B : Bs} {m m0 : Emb} {fr : Fr} {h : Heap} {a a0 : Act} {w w' : World} {D : Lay} {l : List MIx} {bef : List (List Nat)} {n : Nat}
theorem qK (t : Nat) : ∀ n,(jW D l fr n).get t = gS D l fr n rQ t
 | 0 => rfl
 | n + 1 => by
  simp only [jW,gS,rQ,true_and]
  by_cases hd : bJ l n = some t
  · rw [if_pos hd,hd,bY]
  · rw [if_neg hd,dW hd]; exact qK t n
theorem uO {S S' : Nat → Bool} {t : Nat} : ∀ n,(∀ j,j < n → S j = S' j) → gS D l fr n S t = gS D l fr n S' t
 | 0,_ => rfl
 | n + 1,hyp => by
  simp only [gS]
  rw [hyp n (by omega),uO n fun j hj => hyp j (by omega)]
structure BOK (ops : Array Oper) (l : List MIx) (bef : List (List Nat)) (n : Nat) : Prop where
 size : ops.size = n
 len : l.length = n
 edge : ∀ (i : Nat) o,ops[i]? = some o → ∀ e ∈ o.after,Region.binds .any e = true → e.on < i
 bef_ : ∀ (i : Nat) o,ops[i]? = some o → ∀ j,bfr bef i j = true → ∃ e ∈ o.after,Region.binds .any e = true ∧ (e.on = j ∨ bfr bef e.on j = true)
 none_ : ∀ i j,n ≤ i → bfr bef i j = false
theorem BOK.less {ops : Array Oper} (k : BOK ops l bef n) : ∀ i j,bfr bef i j = true → j < i := by
 intro i
 induction i using Nat.strongRecOn with
 | ind i ih =>
  intro j hj
  rcases Nat.lt_or_ge i n with hlt | hge
  · obtain ⟨o,ho⟩ : ∃ o,ops[i]? = some o := ⟨_,Array.getElem?_eq_getElem (by rw [k.size]; exact hlt)⟩
    obtain ⟨e,he,hb,h1⟩ := k.bef_ i o ho j hj
    have h2 := k.edge i o ho e he hb
    rcases h1 with rfl | h1
    · exact h2
    · have := ih e.on h2 j h1; omega
  · rw [k.none_ i j hge] at hj; cases hj
theorem aGa (k : DOK D l bef h n) (sa0 : SA w0 r lr nt Z B m0 fr h a0 w) {ops : Array Oper} (b : BOK ops l bef n)
 (hx : ∀ (i : Nat) o,ops[i]? = some o → ∃ x,l[i]? = some x ∧ dZ P nt ops o = some x)
 (hv : ∀ (i : Nat) x,l[i]? = some x → opV P w0 x (gV D l bef i fr n) (gU D bef h n i) fun v h' => v = D.T i ∧ h' = kM D bef h n i)
 {Q : Exit → Fr → Heap → Prop} (hQ : Q .normal (jW D l fr n) (eY D h n rQ)) :
 ∀ (fuel : Nat) (listed : Array Bool) (m : Emb) (a : Act) (w' : World),listed.size = n → listed.toList.count false ≤ fuel → (∀ i j,listed.getD i false = true → bfr bef i j = true → listed.getD j false = true) →
  DI w0 D l fr h n nt m0 a0 w (fun j => listed.getD j false) m a w' → wpAnyIn (Wd lr) 0 P .any ops (mK w0 r lr nt Z B m0 h w Q) fuel listed a w' := by
 have hgd : ∀ (listed : Array Bool) (i : Nat),listed.size = n → i < n → listed.getD i true = listed.getD i false := fun listed i h1 h2 => by
  rw [Array.getD_eq_getD_getElem?,Array.getD_eq_getD_getElem?,Array.getElem?_eq_getElem (by omega)]; rfl
 have hdone : ∀ (listed : Array Bool) (m : Emb) (a : Act) (w' : World),listed.size = n → Region.ready .any ops listed = [] → DI w0 D l fr h n nt m0 a0 w (fun j => listed.getD j false) m a w' →
  mK w0 r lr nt Z B m0 h w Q .normal a w' := by
  intro listed m a w' hls hr di
  have hall : ∀ i,i < n → listed.getD i false = true := by
   intro i
   induction i using Nat.strongRecOn with
   | ind i ih =>
    intro hi
    cases hli : listed.getD i false with
    | true => rfl
    | false =>
     exfalso
     obtain ⟨o,ho⟩ : ∃ o,ops[i]? = some o := ⟨_,Array.getElem?_eq_getElem (by rw [b.size]; exact hi)⟩
     have : i ∈ Region.ready .any ops listed := mem_ready.2 ⟨by rw [hgd listed i hls hi]; exact hli,o,ho,fun e he hb => by
      have := b.edge i o ho e he hb
      exact ih e.on this (by omega)⟩
     rw [hr] at this; cases this
  have e1 : eY D h n (fun j => listed.getD j false) = eY D h n rQ := by
   simp only [eY]
   exact congrArg (List.map · _) (funext fun c => mV n fun j hj _ => hall j hj)
  have st := di.st
  rw [e1] at st
  have hlen : (eY D h n rQ).length = D.N n := by simp [eY]
  have hN : h.length ≤ D.N n := by rw [← k.zero]; exact k.mono' (Nat.zero_le n) (Nat.le_refl n)
  refine ⟨m,_,_,st.toZ sa0.hz,⟨st.sim,fun t => ⟨?_,?_⟩,di.size,Nat.le_trans sa0.low st.mods.size,sa0.marks.step st di.defers,?_,sa0.inr,?_⟩,hQ⟩
  · rw [qK,← uO (D := D) (l := l) (fr := fr) (t := t) (S := fun j => listed.getD j false) (S' := rQ) n hall]; exact di.fr t
  · rw [qK,hlen]
    rcases qG (D := D) (l := l) (fr := fr) (S := rQ) (t := t) n with e | ⟨j,hj,hsj,e⟩
    · rw [e]; exact AV.bdd_mono hN _ (sa0.frame t).2
    · rw [e]; exact AV.bdd_mono (k.mono' (by omega) (Nat.le_refl n)) _ (di.bdd j hj (hall j hj)).1
  · rw [sa0.rnd]
    cases hr : r with
    | none => rfl
    | some q => simp [(st.ext q (Nat.lt_of_lt_of_le (sa0.inr q hr) sa0.hz)).1]
  · rw [hlen]; have := sa0.hz; omega
 intro fuel
 induction fuel with
 | zero =>
  intro listed m a w' hls hc hcl di
  have hr : Region.ready .any ops listed = [] := by
   rw [List.eq_nil_iff_forall_not_mem]
   intro i hi
   obtain ⟨h1,o,ho,_⟩ := mem_ready.1 hi
   have hin : i < n := by
    rw [← b.size]
    rcases Nat.lt_or_ge i ops.size with hlt | hge
    · exact hlt
    · rw [Array.getElem?_eq_none hge] at ho; cases ho
   have : false ∉ listed.toList := List.count_eq_zero.1 (by omega)
   apply this
   rw [Array.getD_eq_getD_getElem?,Array.getElem?_eq_getElem (by omega)] at h1
   simp at h1
   rw [← h1]
   simp
  exact ⟨hr,hdone listed m a w' hls hr di⟩
 | succ fuel ih =>
  intro listed m a w' hls hc hcl di
  refine ⟨fun hr => hdone listed m a w' hls hr di,fun i hi => ?_⟩
  obtain ⟨h1,o,ho,hall⟩ := mem_ready.1 hi
  have hin : i < n := by
   rw [← b.size]
   rcases Nat.lt_or_ge i ops.size with hlt | hge
   · exact hlt
   · rw [Array.getElem?_eq_none hge] at ho; cases ho
  obtain ⟨x,hxl,hxc⟩ := hx i o ho
  have hs : listed.getD i false = false := by rw [← hgd listed i hls hin]; exact h1
  have hb : ∀ j,bfr bef i j = true → listed.getD j false = true := fun j hj => by
   obtain ⟨e,he,hbd,h2⟩ := b.bef_ i o ho j hj
   have h3 := hall e he hbd
   rcases h2 with rfl | h2
   · exact h3
   · exact hcl _ _ h3 h2
  have ha : ∀ j,listed.getD j false = true → bfr bef j i = false := fun j hj => by
   cases hbj : bfr bef j i with
   | false => rfl
   | true => have := hcl _ _ hj hbj; rw [hs] at this; cases this
  have hset : ∀ j,(listed.setIfInBounds i true).getD j false = cP (fun j => listed.getD j false) i j := fun j => by
   simp only [cP,Array.getD_eq_getD_getElem?]
   by_cases e : j = i
   · subst e
     simp [hls,hin]
   · rw [Array.getElem?_setIfInBounds_ne (fun e' => e e'.symm)]
     have : Nat.beq j i = false := by
      cases hb : Nat.beq j i with
      | false => rfl
      | true => exact absurd (bD.1 hb) e
     simp [this]
  unfold wpOpIn
  rw [ho]
  refine wR (S := fun j => listed.getD j false) k sa0 di hin hs hb ha hxc hxl (hv i x hxl) fun m' a' w'' di' => ?_
  refine ih (listed.setIfInBounds i true) m' a' w'' (by simp [hls]) ?_ ?_ (by rw [show (fun j => (listed.setIfInBounds i true).getD j false) = cP (fun j => listed.getD j false) i from funext hset]; exact di')
  · have hil : i < listed.toList.length := by simp [hls,hin]
    have hf : listed.toList[i] = false := by
     rw [Array.getD_eq_getD_getElem?,Array.getElem?_eq_getElem (by omega)] at hs
     simpa using hs
    have hpos : 0 < listed.toList.count false := List.count_pos_iff.2 (by rw [← hf]; exact List.getElem_mem hil)
    rw [Array.toList_setIfInBounds,List.count_set hil,hf]
    have e1 : (false == false) = true := rfl
    have e2 : (true == false) = false := rfl
    rw [e1,e2,if_pos rfl,if_neg (by simp)]
    omega
  · intro p q hp hq
    rw [hset] at hp ⊢
    simp only [cP,Bool.or_eq_true] at hp ⊢
    rcases hp with hp | hp
    · rw [bD.1 hp] at hq; exact .inr (hb q hq)
    · exact .inr (hcl p q hp hq)
theorem qY {α β : Type} {f : α → Option β} : ∀ {xs : List α} {ys : List β},xs.mapM f = some ys → xs.length = ys.length ∧ ∀ (i : Nat) x,xs[i]? = some x → ∃ y,ys[i]? = some y ∧ f x = some y
 | [],ys,e => by simp at e; subst e; simp
 | x :: xs,ys,e => by
  simp only [List.mapM_cons,Option.bind_eq_bind,Option.bind_eq_some_iff,Option.pure_def,Option.some.injEq] at e
  obtain ⟨y,hy,zs,hzs,rfl⟩ := e
  obtain ⟨h1,h2⟩ := qY hzs
  refine ⟨by simp [h1],fun i z hz => ?_⟩
  cases i with
  | zero => simp at hz; subst hz; exact ⟨y,by simp,hy⟩
  | succ i => simp at hz; simpa using h2 i z hz
theorem jZ {ops : Array Oper} {nt : Nat} (hb : aCJ ops.toList bef = true) (hl : ops.toList.mapM (dZ P nt ops) = some l) :
 BOK ops l bef l.length ∧ (∀ i j t,i < l.length → j < l.length → j ≠ i → bJ l i = some t → bJ l j ≠ some t) ∧ ∀ (i : Nat) o,ops[i]? = some o → ∃ x,l[i]? = some x ∧ dZ P nt ops o = some x := by
 obtain ⟨hlen,hget⟩ := qY hl
 have hget' : ∀ (i : Nat) o,ops[i]? = some o → ∃ x,l[i]? = some x ∧ dZ P nt ops o = some x := fun i o ho => hget i o (by simpa using ho)
 simp only [aCJ,Bool.and_eq_true,List.all_eq_true,List.mem_range] at hb
 obtain ⟨hbl,hb⟩ := hb
 have hbl := bD.1 hbl
 have hlt : ∀ (i : Nat) o,ops[i]? = some o → i < ops.toList.length := fun i o ho => by
  rcases Nat.lt_or_ge i ops.size with h1 | h1
  · simpa using h1
  · rw [Array.getElem?_eq_none h1] at ho; cases ho
 refine ⟨⟨by simpa using hlen,rfl,fun i o ho e he hbd => ?_,fun i o ho j hj => ?_,fun i j hi => ?_⟩,fun i j t hi hj hji hd hd2 => ?_,hget'⟩
 · have := hb i (hlt i o ho)
   rw [show ops.toList[i]? = some o by simpa using ho] at this
   simp only [Bool.and_eq_true,List.all_eq_true,Bool.or_eq_true,Bool.not_eq_true'] at this
   have h1 := this.1.1 e (by simpa using he)
   rw [hbd] at h1
   simpa [Nat.blt_eq] using h1
 · have := hb i (hlt i o ho)
   rw [show ops.toList[i]? = some o by simpa using ho] at this
   simp only [Bool.and_eq_true,List.all_eq_true] at this
   have h1 := this.1.2 j (by simpa [bfr] using hj)
   simp only [List.any_eq_true,Bool.and_eq_true,Bool.or_eq_true] at h1
   obtain ⟨e,he,h2,h3⟩ := h1
   exact ⟨e,by simpa using he,h2,h3.imp bD.1 id⟩
 · have : bef.getD i [] = [] := by
    rw [List.getD_eq_getElem?_getD,List.getElem?_eq_none (by rw [hbl,hlen]; exact hi)]; rfl
   simp only [bfr,this]; rfl
 · obtain ⟨o,ho⟩ : ∃ o,ops[i]? = some o := ⟨_,Array.getElem?_eq_getElem (by simp at hlen; omega)⟩
   obtain ⟨o2,ho2⟩ : ∃ o,ops[j]? = some o := ⟨_,Array.getElem?_eq_getElem (by simp at hlen; omega)⟩
   obtain ⟨x,hx1,hx2⟩ := hget' i o ho
   obtain ⟨y,hy1,hy2⟩ := hget' j o2 ho2
   simp only [bJ,hx1,hy1,Option.bind_some] at hd hd2
   rw [(rM hx2).1] at hd
   rw [(rM hy2).1] at hd2
   have := hb i (hlt i o ho)
   rw [show ops.toList[i]? = some o by simpa using ho] at this
   simp only [Bool.and_eq_true,hd] at this
   have h1 := this.2
   simp only [List.all_eq_true,List.mem_range,Bool.or_eq_true] at h1
   have h2 := h1 j (hlt j o2 ho2)
   rw [show ops.toList[j]? = some o2 by simpa using ho2] at h2
   rcases h2 with h2 | h2
   · exact hji (bD.1 h2)
   · simp [hd2,Nat.beq_refl] at h2
theorem aGX (hm : P.follows .mixedOrders = true) (D : Lay) (hz : D.N 0 = h.length) (hmono : ∀ i,i < l.length → D.N i ≤ D.N (i + 1)) (hlow : ∀ i c,i < l.length → (D.U i c).isSome = true → c < D.N (i + 1))
 (hap : ∀ i j c,i < l.length → j < l.length → hY bef i j = true → (D.U i c).isSome = true → D.U j c = none)
 (hal : ∀ i j,i < j → j < l.length → hY bef i j = true → D.N i < D.N (i + 1) → (D.T j).al (oA D i) ∧ ∀ c,(D.N i ≤ c → c < D.N (i + 1) → D.U j c = none) ∧ ∀ b,D.U j c = some (some b) → b.al (oA D i))
 (hv : ∀ (i : Nat) x,l[i]? = some x → opV P w0 x (gV D l bef i fr l.length) (gU D bef h l.length i) fun v h' => v = D.T i ∧ h' = kM D bef h l.length i)
 {Q : Exit → Fr → Heap → Prop} (hQ : Q .normal (jW D l fr l.length) (eY D h l.length rQ)) : EvM P w0 r nt Z (.draw l bef) fr h Q := fun c hc m a w B lr sa => by
 obtain ⟨id,ops,rfl,hl,rfl,hbo,hop⟩ := jY hc
 obtain ⟨hbok,hdst,hx⟩ := jZ hbo hl
 have k : DOK D l (iC ops.toList) h l.length := ⟨hz,hmono,hlow,hap,hal,hbok.less,hdst⟩
 refine wpIn_region_any hm ?_
 have hsz := hbok.size
 have hdr : bO w0 m m h h w { w with drawn := w.drawn + 1 } :=
  ⟨⟨sa.sim.size,sa.sim.old,sa.sim.at_,sa.sim.inj⟩,.refl _ _,⟨Nat.le_refl _,fun _ _ _ => rfl,rfl,rfl,rfl⟩,Nat.le_refl _,fun i b hi _ => ⟨i,b,hi,rfl⟩⟩
 have e0 : ∀ j,(Array.replicate ops.size false).getD j false = false := fun j => by
  rw [Array.getD_eq_getD_getElem?,Array.getElem?_replicate]; split <;> rfl
 have hgS : ∀ t q,gS D l fr q (fun j => (Array.replicate ops.size false).getD j false) t = fr.get t := fun t q => by
  induction q with
  | zero => rfl
  | succ q ih => simp only [gS,e0]; simpa [e0] using ih
 have hhS : ∀ c q,hS D h q (fun j => (Array.replicate ops.size false).getD j false) c = (h[c]?).join := fun c q => by
  induction q with
  | zero => rfl
  | succ q ih => simp only [hS,e0]; simpa [e0] using ih
 have hN : h.length ≤ D.N l.length := by rw [← hz]; exact k.mono' (Nat.zero_le _) (Nat.le_refl _)
 have hsub : ∀ (c : Nat) b,(eY D h l.length (fun j => (Array.replicate ops.size false).getD j false))[c]? = some (some b) → h[c]? = some (some b) := fun c b hc => by
  rw [nS,hhS] at hc
  split at hc
  · simp only [Option.some.injEq] at hc; exact Option.join_eq_some_iff.1 hc
  · cases hc
 refine aGa (w := w) k sa hbok hx hv hQ ops.size _ m a _ (by simp [hsz]) (by simp) (fun i j hi _ => by rw [e0] at hi; cases hi) ⟨⟨⟨sa.sim.size,sa.sim.old,fun c b hc => ?_,fun c d b b' hcd hc hd => sa.sim.inj c d b b' hcd (hsub c b hc) (hsub d b' hd)⟩,.refl _ _,hdr.mods,?_,fun c b hc _ => ⟨c,b,hsub c b hc,rfl⟩⟩,fun t => ?_,sa.size,rfl,fun j _ hj => ?_⟩
 · obtain ⟨h1,h2,h3⟩ := sa.sim.at_ c b (hsub c b hc)
   exact ⟨h1,h2,Blk.bdd_mono (by simpa [eY] using hN) h3⟩
 · simpa [eY] using hN
 · rw [hgS]; exact (sa.frame t).1
 · simp only [e0] at hj; cases hj
end
end Go.Proofs.Ab
namespace Go.Proofs.Ab
open Go
theorem aU {fr fr' : Fr} : ∀ {x : Opd},(∀ t ∈ x.rds,fr.get t = fr'.get t) → x.ev fr = x.ev fr'
 | .t n,h => h n (by simp [Opd.rds])
 | .k _,_ => rfl
theorem jN {fr fr' : Fr} {l : List Opd} (h : ∀ t ∈ aDz l,fr.get t = fr'.get t) : l.map (·.ev fr) = l.map (·.ev fr') := by
 refine List.map_congr_left fun x hx => aU fun t ht => h t ?_
 exact List.mem_flatMap.2 ⟨x,hx,ht⟩
theorem uU {fr fr' : Fr} {l : List (Nat × Nat × Opd)} (h : ∀ t ∈ l.flatMap (fun p => p.2.2.rds),fr.get t = fr'.get t) :
 (l.map fun (o,n,x) => (o,n,x.ev fr)) = l.map fun (o,n,x) => (o,n,x.ev fr') := by
 refine List.map_congr_left fun x hx => ?_
 have : x.2.2.ev fr = x.2.2.ev fr' := aU fun t ht => h t (List.mem_flatMap.2 ⟨x,hx,ht⟩)
 simp [this]
theorem qN {fr fr' : Fr} {n : Nat} {a b c : Option Opd} (ha : ∀ t ∈ tY a,fr.get t = fr'.get t) (hb : ∀ t ∈ tY b,fr.get t = fr'.get t) (hc : ∀ t ∈ tY c,fr.get t = fr'.get t) :
 cO fr n a b c = cO fr' n a b c := by
 have key : ∀ {o : Option Opd},(∀ t ∈ tY o,fr.get t = fr'.get t) → ∀ x,o = some x → x.ev fr = x.ev fr' := fun h x e => by
  subst e; exact aU h
 unfold cO
 cases a with
 | none => cases b with
  | none => cases c with
   | none => rfl
   | some z => rfl
  | some y => cases c with
   | none => simp only [key hb y rfl]
   | some z => simp only [key hb y rfl,key hc z rfl]
 | some x => cases b with
  | none => cases c with
   | none => simp only [key ha x rfl]
   | some z => simp only [key ha x rfl,Option.isNone_none,if_true]
  | some y => cases c with
   | none => simp only [key ha x rfl,key hb y rfl]
   | some z => simp only [key ha x rfl,key hb y rfl,key hc z rfl]
theorem nV {w0 : World} {fr fr' : Fr} {h : Heap} {op : MOp} (e : ∀ t ∈ op.rds,fr.get t = fr'.get t) : aop w0 op fr h = aop w0 op fr' h := by
 cases op <;> simp only [MOp.rds,List.mem_append,or_imp,forall_and] at e
 case mov x => simp only [aop,aU e]
 case pick c a b => simp only [aop,aU e.1,aU e.2.1,aU e.2.2]
 case box x n => simp only [aop,aU e]
 case alloc z => rfl
 case build z ps => simp only [aop,uU e]
 case bslice es z len ps => simp only [aop,uU e]
 case load x n => simp only [aop,aU e]
 case store x v n => simp only [aop,aU e.1,aU e.2]
 case nilck x => simp only [aop,aU e]
 case bin op x y => simp only [aop,aU e.1,aU e.2]
 case eqb neq x y => simp only [aop,aU e.1,aU e.2]
 case eqag s neq x y => simp only [aop,aU e.1,aU e.2]
 case eqnil sl neq x => simp only [aop,aU e]
 case un op x => simp only [aop,aU e]
 case conv k x => simp only [aop,aU e]
 case mkif t x => simp only [aop,aU e]
 case mkfn f a b => simp only [aop,jN e.1,jN e.2]
 case mkmap => rfl
 case mksl es z bytes len cap => simp only [aop,aU e.1,aU e.2]
 case slc es x lo hi mx => simp only [aop,aU e.1,qN e.2.1 e.2.2.1 e.2.2.2]
 case slca n es x lo hi mx => simp only [aop,aU e.1,qN e.2.1 e.2.2.1 e.2.2.2]
 case addr x off => simp only [aop,aU e]
 case fld x off n => simp only [aop,aU e]
 case idxs es x i => simp only [aop,aU e.1,aU e.2]
 case idxa n es x i => simp only [aop,aU e.1,aU e.2]
 case idx n es agg x i => simp only [aop,aU e.1,aU e.2]
 case look s z ok x k => simp only [aop,aU e.1,aU e.2]
 case mput s m k v => simp only [aop,aU e.1,aU e.2.1,aU e.2.2]
 case ext x i => simp only [aop,aU e]
 case len x => simp only [aop,aU e]
 case lenm x => simp only [aop,aU e]
 case lena n => rfl
 case app es z bytes x y => simp only [aop,aU e.1,aU e.2]
 case minmax isMin l => simp only [aop,jN e]
 case eqni neq x => simp only [aop,aU e]
 case tass t z ok x => simp only [aop,aU e]
 case copy es x y => simp only [aop,aU e.1,aU e.2]
 case panic x => rfl
 case defer f as => rfl
 case recov => rfl
theorem jO {fr fr' : Fr} {g : Option (Nat × Bool)} (e : ∀ t ∈ grds g,fr.get t = fr'.get t) : want fr g = want fr' g := by
 cases g with
 | none => rfl
 | some p => simp only [want,e p.1 (by simp [grds])]
theorem eJ {P : Program} {w0 : World} {x : MIx} {fr fr' : Fr} {h : Heap} {K : AV → Heap → Prop} (e : ∀ t ∈ x.rds,fr.get t = fr'.get t) (k : opV P w0 x fr h K) : opV P w0 x fr' h K := by
 cases x with
 | op d g o =>
  simp only [MIx.rds,List.mem_append,or_imp,forall_and] at e
  simp only [opV] at k ⊢
  rw [← jO e.1]
  split at k
  · rw [← nV e.2]; exact k
  · exact k
  · exact k
 | call d g f as =>
  simp only [MIx.rds,List.mem_append,or_imp,forall_and] at e
  simp only [opV] at k ⊢
  rw [← jO e.1]
  split at k
  · rw [← aU e.2.1,← jN e.2.2]; exact k
  · exact k
  · exact k
section
variable {P : Program} {w0 : World} {r : Option Nat} {nt Z : Nat} {fr : Fr} {h : Heap} {D : Lay} {l : List MIx} {bef : List (List Nat)}
theorem vM (hless : ∀ i j,bfr bef i j = true → j < i) {i t n : Nat} (hi : i ≤ n) (hd : ∀ j,j < n → hY bef i j = true → bJ l j ≠ some t) :
 (gV D l bef i fr n).get t = (jW D l fr i).get t := by
 have h1 : ∀ q,q ≤ i → (gV D l bef i fr q).get t = (jW D l fr q).get t := by
  intro q
  induction q with
  | zero => intro _; rfl
  | succ q ih =>
   intro hq
   have ih := ih (by omega)
   simp only [gV,jW]
   by_cases hb : bfr bef i q = true
   · rw [if_pos hb]
     by_cases e : bJ l q = some t
     · rw [e,bY,bY]
     · rw [dW e,dW e]; exact ih
   · have hf : hY bef i q = true := by
      have h2 : Nat.beq q i = false := by
       cases hb : Nat.beq q i with
       | false => rfl
       | true => exact absurd (bD.1 hb) (by omega)
      have h3 : bfr bef q i = false := by
       cases h3 : bfr bef q i with
       | false => rfl
       | true => exact absurd (hless _ _ h3) (by omega)
      simp at hb
      simp [hY,h2,hb,h3]
     have e := hd q (by omega) hf
     rw [if_neg hb,if_pos hf,dW e,dW e]; exact ih
 have h2 : ∀ q,i ≤ q → q ≤ n → (gV D l bef i fr q).get t = (jW D l fr i).get t := by
  intro q
  induction q with
  | zero => intro hq _; obtain rfl : i = 0 := by omega
            exact h1 0 (Nat.le_refl 0)
  | succ q ih =>
   intro hq hqn
   by_cases e : i = q + 1
   · subst e; exact h1 _ (Nat.le_refl _)
   · have ih := ih (by omega) (by omega)
     simp only [gV]
     have hb : ¬ bfr bef i q = true := fun hb => absurd (hless _ _ hb) (by omega)
     rw [if_neg hb]
     by_cases hf : hY bef i q = true
     · rw [if_pos hf,dW (hd q (by omega) hf)]; exact ih
     · rw [if_neg hf]; exact ih
 exact h2 n hi (Nat.le_refl n)
theorem aEj (hm : P.follows .mixedOrders = true) (D : Lay) (hz : D.N 0 = h.length) (hmono : ∀ i,i < l.length → D.N i ≤ D.N (i + 1)) (hlow : ∀ i c,i < l.length → (D.U i c).isSome = true → c < D.N (i + 1))
 (hap : ∀ i j c,i < l.length → j < l.length → hY bef i j = true → (D.U i c).isSome = true → D.U j c = none)
 (hal : ∀ i j,i < j → j < l.length → hY bef i j = true → D.N i < D.N (i + 1) → (D.T j).al (oA D i) ∧ ∀ c,(D.N i ≤ c → c < D.N (i + 1) → D.U j c = none) ∧ ∀ b,D.U j c = some (some b) → b.al (oA D i))
 (hv : ∀ (i : Nat) x,l[i]? = some x → opV P w0 x (jW D l fr i) (gU D bef h l.length i) fun v h' => v = D.T i ∧ h' = kM D bef h l.length i)
 {Q : Exit → Fr → Heap → Prop} (hQ : Q .normal (jW D l fr l.length) (eY D h l.length rQ)) : EvM P w0 r nt Z (.draw l bef) fr h Q := fun c hc => by
 obtain ⟨id,ops,rfl,hl,rfl,hbo,hop⟩ := jY hc
 obtain ⟨hbok,hdst,hx⟩ := jZ hbo hl
 refine aGX hm D hz hmono hlow hap hal (fun i x hxi => eJ (fun t ht => ?_) (hv i x hxi)) hQ _ hc
 have hi : i < l.length := by
  rcases Nat.lt_or_ge i l.length with h1 | h1
  · exact h1
  · rw [List.getElem?_eq_none h1] at hxi; cases hxi
 refine (vM hbok.less (by omega) fun j hj hf hd => ?_).symm
 simp only [tZ,List.all_eq_true,List.mem_range] at hop
 have := hop i hi
 rw [hxi] at this
 simp only [List.all_eq_true,List.mem_range,Bool.or_eq_true,Bool.not_eq_true'] at this
 rcases this j hj with h1 | h1
 · rw [hf] at h1; cases h1
 · simp only [bJ] at hd
   rw [hd] at h1
   simp at h1
   exact h1 ht
end
end Go.Proofs.Ab
namespace Go.Proofs.Ab
open Go
mutual
def AV.clo : AV → Bool
 | .int _ _ | .bool _ | .nilP | .nilS | .nilM | .nilF | .nilI => true
 | .agg l => AV.clos l
 | .ifc _ x => x.clo
 | _ => false
def AV.clos : List AV → Bool
 | [] => true
 | x :: xs => x.clo && AV.clos xs
end
mutual
def AV.val : AV → Value
 | .int k n => .int k n
 | .bool b => .bool b
 | .nilP => .pointer none
 | .nilS => .slice none 0 0
 | .nilM => .map none
 | .nilF => .nilFunc
 | .nilI => .nilIface
 | .agg l => .agg (AV.vals l).toArray
 | .ifc t x => .iface t x.val
 | _ => Go.undef
def AV.vals : List AV → List Value
 | [] => []
 | x :: xs => x.val :: AV.vals xs
end
mutual
theorem AV.clo_spec : ∀ (x : AV),x.clo = true → ∀ (m : Emb) (N : Nat),(∀ v,VR m x v ↔ v = x.val) ∧ x.bdd N
 | .int _ _,_,m,N | .bool _,_,m,N | .nilP,_,m,N | .nilS,_,m,N | .nilM,_,m,N | .nilF,_,m,N | .nilI,_,m,N => ⟨fun v => by simp only [VR,AV.val],trivial⟩
 | .agg l,h,m,N => by
  simp only [AV.clo] at h
  obtain ⟨h1,h2⟩ := AV.clos_spec l h m N
  refine ⟨fun v => ?_,h2⟩
  simp only [VR,AV.val,h1]
  constructor
  · rintro ⟨a,rfl,e⟩; rw [← e]
  · rintro rfl; exact ⟨_,rfl,by simp⟩
 | .ifc t x,h,m,N => by
  simp only [AV.clo] at h
  obtain ⟨h1,h2⟩ := AV.clo_spec x h m N
  refine ⟨fun v => ?_,h2⟩
  simp only [VR,AV.val,h1]
  constructor
  · rintro ⟨a,rfl,rfl⟩; rfl
  · rintro rfl; exact ⟨_,rfl,rfl⟩
 | .undef,h,_,_ | .str _,h,_,_ | .tup _,h,_,_ | .ptr _,h,_,_ | .sl _ _ _ _,h,_,_ | .map _,h,_,_ | .fn _ _ _,h,_,_ | .yld _,h,_,_ => by simp only [AV.clo] at h; cases h
theorem AV.clos_spec : ∀ (x : List AV),AV.clos x = true → ∀ (m : Emb) (N : Nat),(∀ v,VRs m x v ↔ v = AV.vals x) ∧ AV.bdds N x
 | [],_,m,N => ⟨fun v => by simp only [VRs,AV.vals],trivial⟩
 | x :: xs,h,m,N => by
  simp only [AV.clos,Bool.and_eq_true] at h
  obtain ⟨h1,h2⟩ := AV.clo_spec x h.1 m N
  obtain ⟨h3,h4⟩ := AV.clos_spec xs h.2 m N
  refine ⟨fun v => ?_,h2,h4⟩
  simp only [VRs,AV.vals,h1,h3]
  constructor
  · rintro ⟨y,ys,rfl,rfl,rfl⟩; rfl
  · rintro rfl; exact ⟨_,_,rfl,rfl,rfl⟩
end
def pan (x : AV) : List PanicEntry := [{ v := x.val,recovered := false }]
def qA : AV → Bool
 | .ifc _ x => x.clo
 | _ => false
theorem aDK {x : AV} (h : qA x = true) : x.clo = true := by
 cases x <;> simp [qA] at h
 simpa [AV.clo] using h
def lD (w0 : World) (m : Emb) (h : Heap) (w : World) (Q : AV → Heap → Prop) (X : List PanicEntry → Heap → Prop) : Ending → World → Prop :=
 fun e w' => xD w0 m h w Q e w' ∨ ∃ ch,e = .panicked ch ∧ ∃ m' h',bO w0 m m' h h' w w' ∧ X ch h'
def iF (P : Program) (w0 : World) (f : FuncId) (args : List AV) (h : Heap) (Q : AV → Heap → Prop) (X : List PanicEntry → Heap → Prop) : Prop :=
 aG P f = true ∧ ∀ m w (vs : Array Value),Sim w0 m h w → VRs m args vs.toList → AV.bdds h.length args → CallsIn Fence.wide 0 P f vs w (lD w0 m h w Q X)
def fL (P : Program) (w0 : World) (fv : AV) (args : List AV) (h : Heap) (Q : AV → Heap → Prop) (X : List PanicEntry → Heap → Prop) : Prop :=
 match fv with
 | .fn (.func f) first capt => iF P w0 f (first ++ args ++ capt) h Q X
 | _ => False
section
variable {P : Program} {w0 : World} {f : FuncId} {args : List AV} {h : Heap} {Q Q' : AV → Heap → Prop} {X X' : List PanicEntry → Heap → Prop}
theorem iF.mono (a : iF P w0 f args h Q X) (hq : ∀ v h',Q v h' → Q' v h') (hx : ∀ c h',X c h' → X' c h') : iF P w0 f args h Q' X' :=
 ⟨a.1,fun m w vs s v b => (a.2 m w vs s v b).mono fun _ _ p => by
  rcases p with ⟨v',e1,m',v,h',h1,h2,h3,h4⟩ | ⟨ch,e1,m',h',h1,h2⟩
  · exact .inl ⟨v',e1,m',v,h',h1,h2,h3,hq _ _ h4⟩
  · exact .inr ⟨ch,e1,m',h',h1,hx _ _ h2⟩⟩
theorem fL.mono {fv : AV} (a : fL P w0 fv args h Q X) (hq : ∀ v h',Q v h' → Q' v h') (hx : ∀ c h',X c h' → X' c h') : fL P w0 fv args h Q' X' := by
 unfold fL at *
 split
 · exact iF.mono a hq hx
 · rename_i h1
   split at a
   · exact absurd rfl (h1 _ _ _)
   · exact a
end
theorem SA.step {w0 : World} {r l : Option Nat} {nt Z : Nat} {B : Bs} {m m' : Emb} {fr : Fr} {h h' : Heap} {a : Act} {w w' : World} (sa : SA w0 r l nt Z B m fr h a w) (s : bO w0 m m' h h' w w') : SA w0 r l nt Z B m' fr h' a w' :=
 SA.put (d := none) (v := .undef) (v' := undef) sa rfl s (by simp [VR]) trivial
section
variable {P : Program} {w0 : World} {r l : Option Nat} {nt Z : Nat} {B : Bs} {m m' : Emb} {fr : Fr} {h h' : Heap} {a : Act} {w w' : World}
theorem zY {ops : Array Oper} {o : Oper} {d : Option Nat} {f : Opd} {as : List Opd} (hx : dZ P nt ops o = some (.call d none f as)) (sa : SA w0 r l nt Z B m fr h a w)
 {K : AV → Heap → Prop} {X : List PanicEntry → Heap → Prop} (hv : fL P w0 (f.ev fr) (as.map (·.ev fr)) h K X) {Q : Exit → Act → World → Prop} {next : Act → World → Prop}
 (hn : ∀ m' v h' a' w',bO w0 m m' h h' w w' → SA w0 r l nt Z B m' (fr.put d v) h' a' w' → K v h' → next a' w')
 (hp : ∀ m' ch h' w',bO w0 m m' h h' w w' → X ch h' → Q (.panic ch) a w') :
 if Region.wanted o (yielded ops a.tmps) then o.wpIn (Wd l) 0 P a w next Q else (∀ f,o.about P w a.eval = some f → (Wd l).fn f) ∧ next (a.put o.dst undef) w := by
 unfold dZ at hx
 split at hx
 · rename_i hd
   simp only [Option.bind_eq_some_iff] at hx
   obtain ⟨g,hg,hx⟩ := hx
   split at hx
   · rename_i f0 args hcall
     simp only [jX,Option.bind_eq_some_iff,Option.map_eq_some_iff] at hx
     obtain ⟨f',hf',as',has,hx⟩ := hx
     simp only [MIx.call.injEq] at hx
     obtain ⟨rfl,rfl,rfl,rfl⟩ := hx
     rw [eI hg sa.frame (b := true) rfl]
     refine ⟨fun _ _ => trivial,?_⟩
     obtain ⟨f1,f2⟩ := aN sa.frame hf'
     obtain ⟨a1,a2⟩ := gF sa.frame has
     have hop : ∃ at',o.op = .call { callee := .value f0,args := args,argTypes := at' } := by
      unfold yQ at hcall
      split at hcall
      · rename_i at' ho; simp at hcall; obtain ⟨rfl,rfl⟩ := hcall; exact ⟨at',ho⟩
      · cases hcall
     obtain ⟨at',hop⟩ := hop
     have hsem : o.semAt (Wd l).round a.eval = execOp a.eval o := by
      cases l with
      | none => rfl
      | some l => simp [Oper.semAt,Wd,hop]
     rw [hsem]
     generalize hfv : f'.ev fr = fv at hv f1 f2
     unfold fL at hv
     split at hv
     · rename_i fid first capt
       simp only [VR] at f1
       obtain ⟨p,q,e1,p1,q1⟩ := f1
       have hb := hv.1
       have hrun : (execOp a.eval o).run P w = .ok (.enter fid (p ++ args.map a.eval ++ q)) w := by
        simp only [execOp,hop,resolve,e1,Deferred.ofValue,Sem.run_bind,Sem.run_pure,Result.andThen_ok,invoke]
        exact iB hb
       rw [hrun]
       have hargs : VRs m (first ++ as'.map (·.ev fr) ++ capt) (p ++ args.map a.eval ++ q).toList := lN p1 (by simpa using a1) q1
       refine ⟨fun hh => by simp [Wd,Fence.wide] at hh,?_⟩
       have hc := hv.2 m w _ sa.sim hargs (cQ (cQ f2.1 a2) f2.2)
       have hc' : CallsIn Fence.wide 0 P fid (p ++ args.map a.eval ++ q) w fun e w'' => match e,w'' with | .returned v,w'' => next (a.put o.dst v) w'' | .panicked chain,w'' => Q (.panic chain) a w'' | .outgrown,_ => LetsOut Q := by
        refine hc.mono fun e w'' he => ?_
        rcases he with ⟨v',e1,m',v,h',s1,s2,s3,s4⟩ | ⟨ch,e1,m',h',s1,s4⟩
        · subst e1; exact hn m' v h' _ w'' s1 (sa.put hd s1 s2 s3) s4
        · subst e1; exact hp m' ch h' w'' s1 s4
       exact hc'.mono fun _ _ he => he
     · exact hv.elim
   · simp only [Option.map_eq_some_iff] at hx
     obtain ⟨_,_,hx⟩ := hx
     cases hx
 · cases hx
theorem aEX {ops : Array Oper} {o : Oper} {d : Option Nat} {x : Opd} (hx : dZ P nt ops o = some (.op d none (.panic x))) (sa : SA w0 r l nt Z B m fr h a w)
 (hv : qA (x.ev fr) = true) {Q : Exit → Act → World → Prop} {next : Act → World → Prop} (hp : Q (.panic (pan (x.ev fr))) a w) :
 if Region.wanted o (yielded ops a.tmps) then o.wpIn (Wd l) 0 P a w next Q else (∀ f,o.about P w a.eval = some f → (Wd l).fn f) ∧ next (a.put o.dst undef) w := by
 unfold dZ at hx
 split at hx
 · rename_i hd
   simp only [Option.bind_eq_some_iff] at hx
   obtain ⟨g,hg,hx⟩ := hx
   split at hx
   · simp only [Option.bind_eq_some_iff,Option.map_eq_some_iff] at hx
     obtain ⟨_,_,_,_,hx⟩ := hx
     cases hx
   · simp only [Option.map_eq_some_iff] at hx
     obtain ⟨mo,hmo,hx⟩ := hx
     simp only [MIx.op.injEq] at hx
     obtain ⟨rfl,rfl,rfl⟩ := hx
     rw [eI hg sa.frame (b := true) rfl]
     refine ⟨fun _ _ => trivial,?_⟩
     obtain ⟨y,hop,hy⟩ : ∃ y,o.op = .panic y ∧ cU y = some x := by
      generalize o.op = op at hmo
      unfold cop at hmo
      split at hmo
      all_goals first
       | (simp only [Option.map_eq_some_iff,MOp.panic.injEq] at hmo; obtain ⟨y,h1,rfl⟩ := hmo; exact ⟨_,rfl,h1⟩)
       | (exfalso; repeat' first | (cases hmo; done) | (simp only [Option.bind_eq_some_iff,Option.map_eq_some_iff] at hmo) | (obtain ⟨_,_,hmo⟩ := hmo) | split at hmo)
     have hsem : o.semAt (Wd l).round a.eval = execOp a.eval o := by
      cases l with
      | none => rfl
      | some l => simp [Oper.semAt,Wd,hop]
     rw [hsem]
     obtain ⟨f1,f2⟩ := aN sa.frame hy
     have hcl := (AV.clo_spec _ (aDK hv) m 0).1
     rw [hcl] at f1
     have hrun : (execOp a.eval o).run P w = .halt (.panic (x.ev fr).val) w := by
      cases hq : x.ev fr <;> rw [hq] at hv <;> simp [qA] at hv
      rename_i t z
      rw [hq] at f1
      simp only [AV.val] at f1
      simp [execOp,hop,f1,AV.val,Instr.panic,goPanic]
     rw [hrun]
     exact hp
 · cases hx
end
section
variable {P : Program} {w0 : World} {r lr : Option Nat} {nt Z : Nat} {B : Bs} {m m0 : Emb} {fr : Fr} {h : Heap} {a a0 : Act} {w w' : World} {D : Lay} {l : List MIx} {bef : List (List Nat)} {n : Nat}
theorem aDY (k : DOK D l bef h n) (sa0 : SA w0 r lr nt Z B m0 fr h a0 w) {ops : Array Oper} (b : BOK ops l bef n)
 (hx : ∀ (i : Nat) o,ops[i]? = some o → ∃ x,l[i]? = some x ∧ dZ P nt ops o = some x) {N : Nat} (hN : N + 1 = n) (hlast : ∀ j,j < N → bfr bef N j = true)
 (hv : ∀ (i : Nat) x,i < N → l[i]? = some x → opV P w0 x (gV D l bef i fr n) (gU D bef h n i) fun v h' => v = D.T i ∧ h' = kM D bef h n i)
 {R : Exit → Act → World → Prop}
 (hsp : ∀ (S : Nat → Bool) m a w' o,(∀ j,j < N → S j = true) → S N = false → DI w0 D l fr h n nt m0 a0 w S m a w' → ops[N]? = some o → ∀ next,Region.wanted o (yielded ops a.tmps) = true ∧ o.wpIn (Wd lr) 0 P a w' next R) :
 ∀ (fuel : Nat) (listed : Array Bool) (m : Emb) (a : Act) (w' : World),listed.size = n → listed.getD N false = false → listed.toList.count false ≤ fuel → (∀ i j,listed.getD i false = true → bfr bef i j = true → listed.getD j false = true) →
  DI w0 D l fr h n nt m0 a0 w (fun j => listed.getD j false) m a w' → wpAnyIn (Wd lr) 0 P .any ops R fuel listed a w' := by
 have hgd : ∀ (listed : Array Bool) (i : Nat),listed.size = n → i < n → listed.getD i true = listed.getD i false := fun listed i h1 h2 => by
  rw [Array.getD_eq_getD_getElem?,Array.getD_eq_getD_getElem?,Array.getElem?_eq_getElem (by omega)]; rfl
 have hdone : ∀ (listed : Array Bool),listed.size = n → Region.ready .any ops listed = [] → listed.getD N false = true := by
  intro listed hls hr
  have hall : ∀ i,i < n → listed.getD i false = true := by
   intro i
   induction i using Nat.strongRecOn with
   | ind i ih =>
    intro hi
    cases hli : listed.getD i false with
    | true => rfl
    | false =>
     exfalso
     obtain ⟨o,ho⟩ : ∃ o,ops[i]? = some o := ⟨_,Array.getElem?_eq_getElem (by rw [b.size]; exact hi)⟩
     have : i ∈ Region.ready .any ops listed := mem_ready.2 ⟨by rw [hgd listed i hls hi]; exact hli,o,ho,fun e he hb => by
      have := b.edge i o ho e he hb
      exact ih e.on this (by omega)⟩
     rw [hr] at this; cases this
  exact hall N (by omega)
 intro fuel
 induction fuel with
 | zero =>
  intro listed m a w' hls hNl hc hcl di
  exfalso
  have : false ∉ listed.toList := List.count_eq_zero.1 (by omega)
  apply this
  rw [Array.getD_eq_getD_getElem?,Array.getElem?_eq_getElem (by omega)] at hNl
  simp at hNl
  rw [← hNl]
  simp
 | succ fuel ih =>
  intro listed m a w' hls hNl hc hcl di
  refine ⟨fun hr => absurd (hdone listed hls hr) (by rw [hNl]; simp),fun i hi => ?_⟩
  obtain ⟨h1,o,ho,hall⟩ := mem_ready.1 hi
  have hin : i < n := by
   rw [← b.size]
   rcases Nat.lt_or_ge i ops.size with hlt | hge
   · exact hlt
   · rw [Array.getElem?_eq_none hge] at ho; cases ho
  obtain ⟨x,hxl,hxc⟩ := hx i o ho
  have hs : listed.getD i false = false := by rw [← hgd listed i hls hin]; exact h1
  have hb : ∀ j,bfr bef i j = true → listed.getD j false = true := fun j hj => by
   obtain ⟨e,he,hbd,h2⟩ := b.bef_ i o ho j hj
   have h3 := hall e he hbd
   rcases h2 with rfl | h2
   · exact h3
   · exact hcl _ _ h3 h2
  have ha : ∀ j,listed.getD j false = true → bfr bef j i = false := fun j hj => by
   cases hbj : bfr bef j i with
   | false => rfl
   | true => have := hcl _ _ hj hbj; rw [hs] at this; cases this
  have hset : ∀ j,(listed.setIfInBounds i true).getD j false = cP (fun j => listed.getD j false) i j := fun j => by
   simp only [cP,Array.getD_eq_getD_getElem?]
   by_cases e : j = i
   · subst e
     simp [hls,hin]
   · rw [Array.getElem?_setIfInBounds_ne (fun e' => e e'.symm)]
     have : Nat.beq j i = false := by
      cases hb : Nat.beq j i with
      | false => rfl
      | true => exact absurd (bD.1 hb) e
     simp [this]
  unfold wpOpIn
  rw [ho]
  by_cases hiN : i = N
  · subst hiN
    obtain ⟨q1,q2⟩ := hsp (fun j => listed.getD j false) m a w' o (fun j hj => hb j (hlast j hj)) hs di ho (wpAnyIn (Wd lr) 0 P .any ops R fuel (listed.setIfInBounds i true))
    simp only [q1,if_true]
    exact q2
  refine wR (S := fun j => listed.getD j false) k sa0 di hin hs hb ha hxc hxl (hv i x (by omega) hxl) fun m' a' w'' di' => ?_
  refine ih (listed.setIfInBounds i true) m' a' w'' (by simp [hls]) ?_ ?_ ?_ (by rw [show (fun j => (listed.setIfInBounds i true).getD j false) = cP (fun j => listed.getD j false) i from funext hset]; exact di')
  · rw [hset]
    have : Nat.beq N i = false := by
     cases hb : Nat.beq N i with
     | false => rfl
     | true => exact absurd (bD.1 hb).symm hiN
    simp only [cP,this,Bool.false_or]; exact hNl
  · have hil : i < listed.toList.length := by simp [hls,hin]
    have hf : listed.toList[i] = false := by
     rw [Array.getD_eq_getD_getElem?,Array.getElem?_eq_getElem (by omega)] at hs
     simpa using hs
    have hpos : 0 < listed.toList.count false := List.count_pos_iff.2 (by rw [← hf]; exact List.getElem_mem hil)
    rw [Array.toList_setIfInBounds,List.count_set hil,hf]
    have e1 : (false == false) = true := rfl
    have e2 : (true == false) = false := rfl
    rw [e1,e2,if_pos rfl,if_neg (by simp)]
    omega
  · intro p q hp hq
    rw [hset] at hp ⊢
    simp only [cP,Bool.or_eq_true] at hp ⊢
    rcases hp with hp | hp
    · rw [bD.1 hp] at hq; exact .inr (hb q hq)
    · exact .inr (hcl p q hp hq)
def PanV (P : Program) (w0 : World) (fv : AV) (args : List AV) (h : Heap) (x : AV) : Prop := fL P w0 fv args h (fun _ _ => False) (fun ch h' => ch = pan x ∧ h' = h)
def jD (h : Heap) (T : Nat → AV) : Lay := ⟨fun _ => h.length,T,fun _ _ => none⟩
theorem xV {T : Nat → AV} {S : Nat → Bool} {c : Nat} : ∀ q,hS (jD h T) h q S c = (h[c]?).join
 | 0 => rfl
 | q + 1 => by simp only [hS,jD]; have := xV (T := T) (S := S) (c := c) q; simpa [jD] using this
theorem uG (h : Heap) : (List.range h.length).map (fun c => (h[c]?).join) = h := by
 refine List.ext_getElem? fun c => ?_
 rw [List.getElem?_map]
 by_cases hc : c < h.length
 · rw [List.getElem?_range hc]; simp [List.getElem?_eq_getElem hc]
 · rw [List.getElem?_eq_none (by simpa using hc),List.getElem?_eq_none (by omega)]; rfl
theorem tV {T : Nat → AV} {S : Nat → Bool} {q : Nat} : eY (jD h T) h q S = h := by
 simp only [eY,xV]
 exact uG h
theorem wD {T : Nat → AV} {q i : Nat} : gU (jD h T) bef h q i = h := by
 have hm : ∀ c,masked (jD h T) bef q i c = false := fun c => by simp [masked,jD]
 simp only [gU,hm,xV,Bool.false_eq_true,if_false]
 exact uG h
theorem aDy {T : Nat → AV} {q i : Nat} : kM (jD h T) bef h q i = h := by
 simp only [kM,wD]
 exact uG h
theorem aEi (hm : P.follows .mixedOrders = true) {l1 : List MIx} {d : Option Nat} {f : Opd} {as : List Opd} (hl0 : l = l1 ++ [.call d none f as]) (T : Nat → AV) (x : AV) (hlast : ∀ j,j < l1.length → bfr bef l1.length j = true)
 (hv : ∀ (i : Nat) y,i < l1.length → l[i]? = some y → opV P w0 y (jW (jD h T) l fr i) h fun v h' => v = T i ∧ h' = h)
 (hp : PanV P w0 (f.ev (jW (jD h T) l fr l1.length)) (as.map (·.ev (jW (jD h T) l fr l1.length))) h x)
 {Q : Exit → Fr → Heap → Prop} (hQ : Q (.panic (pan x)) (jW (jD h T) l fr l1.length) h) : EvM P w0 r nt Z (.draw l bef) fr h Q := fun c hc m a w B lr sa => by
 obtain ⟨id,ops,rfl,hl,hbeq,hbo,hop⟩ := jY hc
 obtain ⟨hbok,hdst,hx⟩ := jZ (bef := bef) (by rw [hbeq]; exact hbo) hl
 have hlen : l.length = l1.length + 1 := by rw [hl0]; simp
 have k : DOK (jD h T) l bef h l.length := ⟨rfl,fun _ _ => Nat.le_refl _,fun i c _ hu => by simp [jD] at hu,fun i j c _ _ _ hu => by simp [jD] at hu,fun i j _ _ _ hu => by simp [jD] at hu,hbok.less,hdst⟩
 have hturn : ∀ (i : Nat) y,l[i]? = some y → ∀ t ∈ y.rds,(gV (jD h T) l bef i fr l.length).get t = (jW (jD h T) l fr i).get t := fun i y hy t ht => by
  have hi := aI hy
  refine vM hbok.less (by omega) fun j hj hf hd => ?_
  simp only [tZ,List.all_eq_true,List.mem_range] at hop
  have := hop i hi
  rw [hy] at this
  simp only [List.all_eq_true,List.mem_range,Bool.or_eq_true,Bool.not_eq_true'] at this
  rcases this j hj with h1 | h1
  · rw [hf] at h1; cases h1
  · have hlj : ∃ z,l[j]? = some z := ⟨_,List.getElem?_eq_getElem hj⟩
    obtain ⟨z,hz⟩ := hlj
    rw [hz] at h1
    simp only [bJ,hz,Option.bind_some] at hd
    simp only [Option.bind_some,hd,Bool.not_eq_true'] at h1
    rw [List.contains_eq_mem] at h1
    simp [ht] at h1
 refine wpIn_region_any hm ?_
 have hsz := hbok.size
 have hdr : bO w0 m m h h w { w with drawn := w.drawn + 1 } :=
  ⟨⟨sa.sim.size,sa.sim.old,sa.sim.at_,sa.sim.inj⟩,.refl _ _,⟨Nat.le_refl _,fun _ _ _ => rfl,rfl,rfl,rfl⟩,Nat.le_refl _,fun i b hi _ => ⟨i,b,hi,rfl⟩⟩
 have e0 : ∀ j,(Array.replicate ops.size false).getD j false = false := fun j => by
  rw [Array.getD_eq_getD_getElem?,Array.getElem?_replicate]; split <;> rfl
 have hgS : ∀ t q,gS (jD h T) l fr q (fun j => (Array.replicate ops.size false).getD j false) t = fr.get t := fun t q => by
  induction q with
  | zero => rfl
  | succ q ih => simp only [gS,e0]; simpa [e0] using ih
 refine aDY (w := w) k sa hbok hx (N := l1.length) hlen.symm hlast (fun i y hi hy => ?_) (fun S m1 a1 w1 o hS hSN di ho next => ?_) ops.size _ m a _ (by simp [hsz]) (e0 _) (by simp) (fun i j hi _ => by rw [e0] at hi; cases hi) ⟨by rw [tV]; exact hdr,fun t => ?_,sa.size,rfl,fun j _ hj => ?_⟩
 · rw [wD,aDy]
   exact eJ (fun t ht => (hturn i y hy t ht).symm) (hv i y hi hy)
 · obtain ⟨y,hy,hcy⟩ := hx _ o ho
   have hyl : y = .call d none f as := by
    rw [hl0,List.getElem?_append_right (Nat.le_refl _),Nat.sub_self] at hy
    simpa using hy.symm
   subst hyl
   have st := di.st
   rw [tV] at st
   have hgf : ∀ t,(jW (jD h T) l fr l1.length).get t = gS (jD h T) l fr l.length S t := fun t => by
    rw [hlen,gS,if_neg (by rw [hSN]; simp),qK,uO (S := S) (S' := rQ) l1.length fun j hj => hS j hj]
   have sa1 : SA w0 r lr nt Z B m1 (jW (jD h T) l fr l1.length) h a1 w1 := by
    refine ⟨st.sim,fun t => ⟨by rw [hgf]; exact di.fr t,?_⟩,di.size,Nat.le_trans sa.low st.mods.size,sa.marks.step st di.defers,?_,sa.inr,sa.hz⟩
    · rw [hgf]
      rcases qG (D := jD h T) (l := l) (fr := fr) (S := S) (t := t) l.length with e | ⟨j,hj,hsj,e⟩
      · rw [e]; exact (sa.frame t).2
      · rw [e]; exact (di.bdd j hj hsj).1
    · rw [sa.rnd]
      cases hr : r with
      | none => rfl
      | some q => simp [(st.ext q (Nat.lt_of_lt_of_le (sa.inr q hr) sa.hz)).1]
   have hstep := zY (next := next) (Q := mK w0 r lr nt Z B m h w Q) hcy sa1 hp (fun _ _ _ _ _ _ _ hF => hF.elim) (fun m2 ch h2 w2 s2 ⟨e1,e2⟩ => by
    subst e1; subst e2
    exact ⟨m2,_,_,(st.trans s2).toZ sa.hz,sa1.step s2,hQ⟩)
   have hw : Region.wanted o (yielded ops a1.tmps) = true := by
    have hcy2 := hcy
    unfold dZ at hcy2
    split at hcy2
    · simp only [Option.bind_eq_some_iff] at hcy2
      obtain ⟨g,hg,hx2⟩ := hcy2
      have : g = none := by
       split at hx2
       · simp only [jX,Option.bind_eq_some_iff,Option.map_eq_some_iff] at hx2
         obtain ⟨_,_,_,_,hx2⟩ := hx2
         simp only [MIx.call.injEq] at hx2
         exact hx2.2.1
       · simp only [Option.map_eq_some_iff] at hx2
         obtain ⟨_,_,hx2⟩ := hx2
         cases hx2
      subst this
      exact eI hg sa1.frame (b := true) rfl
    · cases hcy2
   rw [if_pos hw] at hstep
   exact ⟨hw,hstep⟩
 · rw [hgS]; exact (sa.frame t).1
 · simp only [e0] at hj; cases hj
end
end Go.Proofs.Ab
