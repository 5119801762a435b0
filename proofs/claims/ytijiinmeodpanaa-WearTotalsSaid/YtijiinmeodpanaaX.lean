/- The own layer under the proofs of this seat, part X: what calls of the program come to on an abstract heap. No condition. -/
import Derived.Test.YtijiinmeodpanaaI
import Derived.Test.YtijiinmeodpanaaEv
set_option linter.unusedSimpArgs false
set_option linter.unusedVariables false
namespace Go.Proofs.Ab
open Go Go.Proofs
noncomputable section
def xTab : XT SF := (.n none (.n none (.n none (.n (some mf7) (.n (some mf15) (.n none (.n (some mf63) .e .e) .e) (.n (some mf47) .e .e)) (.n none (.n (some mf39) (.n (some mf71) .e .e) .e) (.n (some mf55) .e .e))) (.n none (.n (some mf19) (.n (some mf35) (.n (some mf67) .e .e) .e) (.n (some mf51) (.n (some mf83) .e .e) .e)) (.n none (.n (some mf43) (.n (some mf75) .e .e) .e) .e))) (.n none (.n none (.n (some mf17) (.n (some mf33) (.n (some mf65) .e .e) .e) (.n (some mf49) (.n (some mf81) .e .e) .e)) (.n none (.n (some mf41) (.n (some mf73) .e .e) .e) .e)) (.n (some mf13) (.n (some mf21) (.n (some mf37) (.n (some mf69) .e .e) .e) (.n (some mf53) .e .e)) (.n none (.n (some mf45) .e .e) .e)))) (.n none (.n none (.n none (.n (some mf16) (.n none (.n (some mf64) .e .e) (.n (some mf96) .e .e)) (.n (some mf48) .e .e)) (.n none (.n (some mf40) (.n (some mf72) .e .e) .e) (.n (some mf56) .e .e))) (.n none (.n (some mf20) (.n none (.n (some mf68) .e .e) .e) (.n (some mf52) (.n (some mf84) .e .e) .e)) (.n none (.n (some mf44) (.n (some mf76) .e .e) .e) .e))) (.n none (.n none (.n (some mf18) (.n (some mf34) (.n (some mf66) .e .e) .e) (.n (some mf50) (.n (some mf82) .e .e) .e)) (.n none (.n (some mf42) (.n (some mf74) .e .e) .e) .e)) (.n (some mf14) (.n (some mf22) (.n (some mf38) (.n (some mf70) .e .e) .e) (.n (some mf54) .e .e)) (.n none (.n (some mf46) .e .e) .e)))))
def evPrms : List ((Nat × Nat) × (List Nat × List (List Nat))) := [((55,17),([0,1,2,3,4,5,6,7,8,9,10,11,12,13,14,15,16],[[],[],[],[],[],[],[],[],[],[],[],[],[],[5]])),((27,7),([0,1,2,3,4,5,6],[[],[],[],[],[],[4]])),((7,26),([0,1,2,4,5,3,6,7,8,9,10,12,13,11,14,15,16,17,18,19,21,22,20,23,24,25],[[],[],[],[],[],[4],[],[],[],[],[],[],[],[12],[],[],[],[],[],[],[],[],[21]])),((17,17),([0,1,2,3,4,5,6,7,8,9,10,12,13,14,15,11,16],[[],[],[],[],[],[],[],[],[],[],[],[],[],[],[],[14]]))]
def keyP (l : List MIx) (d n : Nat) : Bool := Nat.beq l.length n && (match l with
 | x :: _ => (match x.dst with
  | some t => Nat.beq t d
  | none => Nat.beq 0 d)
 | [] => false)
def findP (l : List MIx) : List ((Nat × Nat) × (List Nat × List (List Nat))) → Option (List Nat × List (List Nat))
 | [] => none
 | e :: r => match keyP l e.1.1 e.1.2 with
  | true => some e.2
  | false => findP l r
def bet (lo a hi : Int) : Bool := ile lo a && ile a hi
def smB (a : Int) : Bool := bet 0 a 100000000000
def grB (k a u : List Int) : Bool := ((bet 0 (k.getD 3 0) 10000 && bet 0 (k.getD 4 0) 10000) && ((bet 0 (k.getD 5 0) 10000 && bet 0 (k.getD 6 0) 10000) && bet 0 (k.getD 7 0) 1000)) && (a.all smB && (u.all smB && (bet 0 (u.getD 4 0) 10000 && bet 0 (u.getD 5 0) 10000)))
def lT : List AV → Option (List Int)
 | [] => some []
 | v :: r => match jO v with
  | some a => match lT r with
   | some l => some (a :: l)
   | none => none
  | none => none
theorem hJ : ∀ {l : List AV} {k : List Int},lT l = some k → l = k.map (AV.int .i64)
 | [],k,e => by simp only [lT,Option.some.injEq] at e; subst e; rfl
 | v :: r,k,e => by
  simp only [lT] at e
  split at e
  · rename_i a ha
    split at e
    · rename_i l hl
      simp only [Option.some.injEq] at e
      subst e
      rw [eQ ha,hJ hl]; rfl
    · cases e
  · cases e
def grV (w : Bool) : List Int → List Int → List Int → XA
 | [k0,k1,k2,k3,k4,k5,k6,k7],[a0,a1,a2,a3,a4,a5],[ml,mh,cl,ch,sl,sh] => match grB [k0,k1,k2,k3,k4,k5,k6,k7] [a0,a1,a2,a3,a4,a5] [ml,mh,cl,ch,sl,sh] with
  | true => some (.agg [.int .i64 (aY a0 ml),.int .i64 (aY a1 mh),.int .i64 (aY a2 cl),.int .i64 (aY a3 ch),.int .i64 (aY a4 (gr1 k3 sl k5 k7 w)),.int .i64 (aY a5 (gr2 k4 sh k6 k7 w))])
  | false => none
 | _,_,_ => none
def orcG (xs : List AV) : XA := match xs with
 | [k,a,u] => match gA k,gA a,gA u with
  | some k,some a,some [u0,u1,u2,u3,u4,u5,w] => match lT k,lT a,lT [u0,u1,u2,u3,u4,u5],dG w with
   | some k,some a,some u,some w => grV w k a u
   | _,_,_,_ => none
  | _,_,_ => none
 | _ => none
theorem aHz {lo a hi : Int} : bet lo a hi = true ↔ lo ≤ a ∧ a ≤ hi := by simp [bet,lU]
theorem orcG_c {xs : List AV} {v : AV} (e : orcG xs = some v) {w0 : World} {h : aA} : bQ Try.prog w0 36 xs h v h := by
 unfold orcG at e
 split at e
 · rename_i k a u
   split at e
   · rename_i k' a' u0 u1 u2 u3 u4 u5 w hk ha hu
     split at e
     · rename_i kl al ul wb ek ea eu ew
       unfold grV at e
       split at e
       · rename_i k0 k1 k2 k3 k4 k5 k6 k7 a0 a1 a2 a3 a4 a5 ml mh cl ch sl sh
         split at e
         · rename_i hb
           simp only [Option.some.injEq] at e
           subst e
           rw [eT hk,eT ha,eT hu,hJ ek,hJ ea,dR ew]
           have hu' := hJ eu
           simp only [List.map_cons,List.map_nil,List.cons.injEq,and_true] at hu'
           obtain ⟨rfl,rfl,rfl,rfl,rfl,rfl⟩ := hu'
           simp only [grB,List.getD_cons_succ,List.getD_cons_zero,List.all_cons,List.all_nil,Bool.and_eq_true,Bool.and_true,smB,aHz] at hb
           obtain ⟨⟨⟨b3,b4⟩,⟨b5,b6⟩,b7⟩,⟨a0',a1',a2',a3',a4',a5'⟩,⟨c0,c1,c2,c3,_,_⟩,d4,d5⟩ := hb
           exact aFD k0 k1 k2 (u := ⟨ml,mh,cl,ch,sl,sh,wb⟩) ⟨b3,b4,b5,b6,b7,⟨a0',a1',a2',a3',a4',a5'⟩,⟨c0,c1,c2,c3⟩,d4,d5⟩
         · cases e
       · cases e
     · cases e
   · cases e
 · cases e
def orcX (f : Nat) (xs : List AV) : XA := match Nat.beq f 36 with
 | true => orcG xs
 | false => none
def X7 (w0 : World) : XEv := ⟨w0,xTab,orcX,fun l => findP l evPrms⟩
theorem X7_ok (w0 : World) : vY Try.prog (X7 w0).ev := evOkX aW (cK (cK (cK (aU ⟨mf7_ok,mf7_b,mf7_g⟩ (aU ⟨aG8,mf15_b,mf15_g⟩ (cK (aU ⟨aBp,aEj,aEi⟩ trivial trivial) trivial) (aU ⟨aGG,mf47_b,mf47_g⟩ trivial trivial)) (cK (aU ⟨aGN,mf39_b,mf39_g⟩ (aU ⟨aGl,mf71_b,mf71_g⟩ trivial trivial) trivial) (aU ⟨aGy,mf55_b,mf55_g⟩ trivial trivial))) (cK (aU ⟨aG4,mf19_b,mf19_g⟩ (aU ⟨aBs,aEp,aEo⟩ (aU ⟨aGo,mf67_b,mf67_g⟩ trivial trivial) trivial) (aU ⟨aGC,mf51_b,mf51_g⟩ (aU ⟨aGa,mf83_b,mf83_g⟩ trivial trivial) trivial)) (cK (aU ⟨aGJ,mf43_b,mf43_g⟩ (aU ⟨aGh,mf75_b,mf75_g⟩ trivial trivial) trivial) trivial))) (cK (cK (aU ⟨aG6,mf17_b,mf17_g⟩ (aU ⟨aGR,mf33_b,mf33_g⟩ (aU ⟨aGq,mf65_b,mf65_g⟩ trivial trivial) trivial) (aU ⟨aGE,mf49_b,mf49_g⟩ (aU ⟨aGc,mf81_b,mf81_g⟩ trivial trivial) trivial)) (cK (aU ⟨aGL,mf41_b,mf41_g⟩ (aU ⟨aGj,mf73_b,mf73_g⟩ trivial trivial) trivial) trivial)) (aU ⟨aHa,mf13_b,mf13_g⟩ (aU ⟨aG2,mf21_b,mf21_g⟩ (aU ⟨aGO,mf37_b,mf37_g⟩ (aU ⟨aGn,mf69_b,mf69_g⟩ trivial trivial) trivial) (aU ⟨aGA,mf53_b,mf53_g⟩ trivial trivial)) (cK (aU ⟨aGI,mf45_b,mf45_g⟩ trivial trivial) trivial)))) (cK (cK (cK (aU ⟨aG7,mf16_b,mf16_g⟩ (cK (aU ⟨aGr,mf64_b,mf64_g⟩ trivial trivial) (aU ⟨aF7,mf96_b,mf96_g⟩ trivial trivial)) (aU ⟨aGF,mf48_b,mf48_g⟩ trivial trivial)) (cK (aU ⟨aGM,mf40_b,mf40_g⟩ (aU ⟨aGk,mf72_b,mf72_g⟩ trivial trivial) trivial) (aU ⟨aGx,mf56_b,mf56_g⟩ trivial trivial))) (cK (aU ⟨aG3,mf20_b,mf20_g⟩ (cK (aU ⟨aBo,aEh,aEg⟩ trivial trivial) trivial) (aU ⟨aGB,mf52_b,mf52_g⟩ (aU ⟨aF9,mf84_b,mf84_g⟩ trivial trivial) trivial)) (cK (aU ⟨aBq,aEl,aEk⟩ (aU ⟨aGg,mf76_b,mf76_g⟩ trivial trivial) trivial) trivial))) (cK (cK (aU ⟨aG5,mf18_b,mf18_g⟩ (aU ⟨aGQ,mf34_b,mf34_g⟩ (aU ⟨aGp,mf66_b,mf66_g⟩ trivial trivial) trivial) (aU ⟨aGD,mf50_b,mf50_g⟩ (aU ⟨aGb,mf82_b,mf82_g⟩ trivial trivial) trivial)) (cK (aU ⟨aGK,mf42_b,mf42_g⟩ (aU ⟨aGi,mf74_b,mf74_g⟩ trivial trivial) trivial) trivial)) (aU ⟨aG9,mf14_b,mf14_g⟩ (aU ⟨aG1,mf22_b,mf22_g⟩ (aU ⟨aBr,aEn,aEm⟩ (aU ⟨aGm,mf70_b,mf70_g⟩ trivial trivial) trivial) (aU ⟨aGz,mf54_b,mf54_g⟩ trivial trivial)) (cK (aU ⟨aGH,mf46_b,mf46_g⟩ trivial trivial) trivial))))) fun f xs v e h => by
 have e : orcX f xs = some v := e
 unfold orcX at e
 split at e
 · rename_i hf
   rw [aL.1 hf]
   exact orcG_c e
 · cases e
theorem hC {w0 : World} {h : aA} : bQ Try.prog w0 7 [] h (.bool true) h :=
 xU (X := X7 w0) (X7_ok w0) (n := 1000) (by kernel_rfl)
end
end Go.Proofs.Ab
