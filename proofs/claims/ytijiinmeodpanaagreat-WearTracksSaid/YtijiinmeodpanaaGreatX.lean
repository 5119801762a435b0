/- The own layer under the proofs of this seat, part X: what calls of the program come to on an abstract heap. No condition. -/
import Derived.Test.YtijiinmeodpanaaGreatI
import Derived.Test.YtijiinmeodpanaaGreatEv
set_option linter.unusedSimpArgs false
set_option linter.unusedVariables false
namespace Go.Proofs.Ab
open Go Go.Proofs
noncomputable section
def xTab : XT SF := (.n none (.n none (.n none (.n none (.n (some mf15) .e (.n (some mf47) .e .e)) (.n none (.n (some mf39) (.n (some mf71) .e .e) .e) (.n (some mf55) .e .e))) (.n (some mf11) (.n (some mf19) (.n (some mf35) (.n (some mf67) .e .e) .e) (.n (some mf51) (.n (some mf83) .e .e) .e)) (.n none (.n (some mf43) (.n (some mf75) .e .e) .e) .e))) (.n (some mf5) (.n none (.n (some mf17) (.n none (.n (some mf65) .e .e) .e) (.n (some mf49) .e .e)) (.n none (.n (some mf41) (.n (some mf73) .e .e) .e) (.n (some mf57) .e .e))) (.n (some mf13) (.n none (.n none (.n (some mf69) .e .e) .e) (.n (some mf53) (.n (some mf85) .e .e) .e)) (.n none (.n (some mf45) (.n (some mf77) .e .e) .e) .e)))) (.n none (.n none (.n none (.n (some mf16) .e (.n (some mf48) .e .e)) (.n none (.n (some mf40) (.n (some mf72) .e .e) .e) (.n (some mf56) .e .e))) (.n (some mf12) (.n (some mf20) (.n (some mf36) (.n (some mf68) .e .e) .e) (.n (some mf52) (.n (some mf84) .e .e) .e)) (.n none (.n (some mf44) (.n (some mf76) .e .e) .e) .e))) (.n none (.n none (.n (some mf18) (.n (some mf34) (.n (some mf66) .e .e) (.n (some mf98) .e .e)) (.n (some mf50) .e .e)) (.n none (.n (some mf42) (.n (some mf74) .e .e) .e) .e)) (.n (some mf14) (.n none (.n (some mf38) (.n (some mf70) .e .e) .e) (.n (some mf54) (.n (some mf86) .e .e) .e)) (.n none (.n (some mf46) (.n (some mf78) .e .e) .e) .e)))))
def evPrms : List ((Nat × Nat) × (List Nat × List (List Nat))) := [((55,17),([0,1,2,3,4,5,6,7,8,9,10,11,12,13,14,15,16],[[],[],[],[],[],[],[],[],[],[],[],[],[],[5]])),((27,7),([0,1,2,3,4,5,6],[[],[],[],[],[],[4]])),((7,26),([0,1,2,4,5,3,6,7,8,9,10,12,13,11,14,15,16,17,18,19,21,22,20,23,24,25],[[],[],[],[],[],[4],[],[],[],[],[],[],[],[12],[],[],[],[],[],[],[],[],[21]])),((17,17),([0,1,2,3,4,5,6,7,8,9,10,12,13,14,15,11,16],[[],[],[],[],[],[],[],[],[],[],[],[],[],[],[],[14]]))]
def keyP (l : List MIx) (d n : Nat) : Bool := Nat.beq l.length n && (match l with
 | x :: _ => (match x.dst with
  | some t => Nat.beq t d
  | none => Nat.beq 0 d)
 | [] => false)
def findP (l : List MIx) : List ((Nat × Nat) × (List Nat × List (List Nat))) → Option (List Nat × List (List Nat))
 | [] => none
 | e :: r => match keyP l e.1.1 e.1.2 with
  | true => some e.2
  | false => findP l r
def bet (lo a hi : Int) : Bool := ile lo a && ile a hi
def smB (a : Int) : Bool := bet 0 a 100000000000
def grB (k a u : List Int) : Bool := ((bet 0 (k.getD 3 0) 10000 && bet 0 (k.getD 4 0) 10000) && ((bet 0 (k.getD 5 0) 10000 && bet 0 (k.getD 6 0) 10000) && bet 0 (k.getD 7 0) 1000)) && (a.all smB && (u.all smB && (bet 0 (u.getD 4 0) 10000 && bet 0 (u.getD 5 0) 10000)))
def lR : List AV → Option (List Int)
 | [] => some []
 | v :: r => match jH v with
  | some a => match lR r with
   | some l => some (a :: l)
   | none => none
  | none => none
theorem gT : ∀ {l : List AV} {k : List Int},lR l = some k → l = k.map (AV.int .i64)
 | [],k,e => by simp only [lR,Option.some.injEq] at e; subst e; rfl
 | v :: r,k,e => by
  simp only [lR] at e
  split at e
  · rename_i a ha
    split at e
    · rename_i l hl
      simp only [Option.some.injEq] at e
      subst e
      rw [eQ ha,gT hl]; rfl
    · cases e
  · cases e
def grV (w : Bool) : List Int → List Int → List Int → XA
 | [k0,k1,k2,k3,k4,k5,k6,k7],[a0,a1,a2,a3,a4,a5],[ml,mh,cl,ch,sl,sh] => match grB [k0,k1,k2,k3,k4,k5,k6,k7] [a0,a1,a2,a3,a4,a5] [ml,mh,cl,ch,sl,sh] with
  | true => some (.agg [.int .i64 (aW a0 ml),.int .i64 (aW a1 mh),.int .i64 (aW a2 cl),.int .i64 (aW a3 ch),.int .i64 (aW a4 (gr1 k3 sl k5 k7 w)),.int .i64 (aW a5 (gr2 k4 sh k6 k7 w))])
  | false => none
 | _,_,_ => none
def orcG (xs : List AV) : XA := match xs with
 | [k,a,u] => match fY k,fY a,fY u with
  | some k,some a,some [u0,u1,u2,u3,u4,u5,w] => match lR k,lR a,lR [u0,u1,u2,u3,u4,u5],dD w with
   | some k,some a,some u,some w => grV w k a u
   | _,_,_,_ => none
  | _,_,_ => none
 | _ => none
theorem aHe {lo a hi : Int} : bet lo a hi = true ↔ lo ≤ a ∧ a ≤ hi := by simp [bet,lS]
theorem orcG_c {xs : List AV} {v : AV} (e : orcG xs = some v) {w0 : World} {h : aA} : bQ Tryz.prog w0 37 xs h v h := by
 unfold orcG at e
 split at e
 · rename_i k a u
   split at e
   · rename_i k' a' u0 u1 u2 u3 u4 u5 w hk ha hu
     split at e
     · rename_i kl al ul wb ek ea eu ew
       unfold grV at e
       split at e
       · rename_i k0 k1 k2 k3 k4 k5 k6 k7 a0 a1 a2 a3 a4 a5 ml mh cl ch sl sh
         split at e
         · rename_i hb
           simp only [Option.some.injEq] at e
           subst e
           rw [eT hk,eT ha,eT hu,gT ek,gT ea,dP ew]
           have hu' := gT eu
           simp only [List.map_cons,List.map_nil,List.cons.injEq,and_true] at hu'
           obtain ⟨rfl,rfl,rfl,rfl,rfl,rfl⟩ := hu'
           simp only [grB,List.getD_cons_succ,List.getD_cons_zero,List.all_cons,List.all_nil,Bool.and_eq_true,Bool.and_true,smB,aHe] at hb
           obtain ⟨⟨⟨b3,b4⟩,⟨b5,b6⟩,b7⟩,⟨a0',a1',a2',a3',a4',a5'⟩,⟨c0,c1,c2,c3,_,_⟩,d4,d5⟩ := hb
           exact aFi k0 k1 k2 (u := ⟨ml,mh,cl,ch,sl,sh,wb⟩) ⟨b3,b4,b5,b6,b7,⟨a0',a1',a2',a3',a4',a5'⟩,⟨c0,c1,c2,c3⟩,d4,d5⟩
         · cases e
       · cases e
     · cases e
   · cases e
 · cases e
def orcX (f : Nat) (xs : List AV) : XA := match Nat.beq f 37 with
 | true => orcG xs
 | false => none
def X7 (w0 : World) : XEv := ⟨w0,xTab,orcX,fun l => findP l evPrms⟩
theorem X7_ok (w0 : World) : vP Tryz.prog (X7 w0).ev := evOkX aQ (cO (cO (cO (cO (aU ⟨aGO,mf15_b,mf15_g⟩ trivial (aU ⟨aGm,mf47_b,mf47_g⟩ trivial trivial)) (cO (aU ⟨aBe,aD9,aD8⟩ (aU ⟨aF1,mf71_b,mf71_g⟩ trivial trivial) trivial) (aU ⟨aGe,mf55_b,mf55_g⟩ trivial trivial))) (aU ⟨aGS,mf11_b,mf11_g⟩ (aU ⟨aGK,mf19_b,mf19_g⟩ (aU ⟨aGv,mf35_b,mf35_g⟩ (aU ⟨aF4,mf67_b,mf67_g⟩ trivial trivial) trivial) (aU ⟨aGi,mf51_b,mf51_g⟩ (aU ⟨aFQ,mf83_b,mf83_g⟩ trivial trivial) trivial)) (cO (aU ⟨aGp,mf43_b,mf43_g⟩ (aU ⟨aFX,mf75_b,mf75_g⟩ trivial trivial) trivial) trivial))) (aU ⟨mf5_ok,mf5_b,mf5_g⟩ (cO (aU ⟨aGM,mf17_b,mf17_g⟩ (cO (aU ⟨aBc,aD5,aD4⟩ trivial trivial) trivial) (aU ⟨aGk,mf49_b,mf49_g⟩ trivial trivial)) (cO (aU ⟨aGr,mf41_b,mf41_g⟩ (aU ⟨aFZ,mf73_b,mf73_g⟩ trivial trivial) trivial) (aU ⟨aGc,mf57_b,mf57_g⟩ trivial trivial))) (aU ⟨aGQ,mf13_b,mf13_g⟩ (cO (cO (aU ⟨aF2,mf69_b,mf69_g⟩ trivial trivial) trivial) (aU ⟨aGg,mf53_b,mf53_g⟩ (aU ⟨aFO,mf85_b,mf85_g⟩ trivial trivial) trivial)) (cO (aU ⟨aBd,aD7,aD6⟩ (aU ⟨aFV,mf77_b,mf77_g⟩ trivial trivial) trivial) trivial)))) (cO (cO (cO (aU ⟨aGN,mf16_b,mf16_g⟩ trivial (aU ⟨aGl,mf48_b,mf48_g⟩ trivial trivial)) (cO (aU ⟨aGs,mf40_b,mf40_g⟩ (aU ⟨aF0,mf72_b,mf72_g⟩ trivial trivial) trivial) (aU ⟨aGd,mf56_b,mf56_g⟩ trivial trivial))) (aU ⟨aGR,mf12_b,mf12_g⟩ (aU ⟨aGJ,mf20_b,mf20_g⟩ (aU ⟨aBf,aEb,aEa⟩ (aU ⟨aF3,mf68_b,mf68_g⟩ trivial trivial) trivial) (aU ⟨aGh,mf52_b,mf52_g⟩ (aU ⟨aFP,mf84_b,mf84_g⟩ trivial trivial) trivial)) (cO (aU ⟨aGo,mf44_b,mf44_g⟩ (aU ⟨aFW,mf76_b,mf76_g⟩ trivial trivial) trivial) trivial))) (cO (cO (aU ⟨aGL,mf18_b,mf18_g⟩ (aU ⟨aGw,mf34_b,mf34_g⟩ (aU ⟨aF5,mf66_b,mf66_g⟩ trivial trivial) (aU ⟨aFL,mf98_b,mf98_g⟩ trivial trivial)) (aU ⟨aGj,mf50_b,mf50_g⟩ trivial trivial)) (cO (aU ⟨aGq,mf42_b,mf42_g⟩ (aU ⟨aFY,mf74_b,mf74_g⟩ trivial trivial) trivial) trivial)) (aU ⟨aGP,mf14_b,mf14_g⟩ (cO (aU ⟨aGt,mf38_b,mf38_g⟩ (aU ⟨aBb,aD3,aD2⟩ trivial trivial) trivial) (aU ⟨aGf,mf54_b,mf54_g⟩ (aU ⟨aFN,mf86_b,mf86_g⟩ trivial trivial) trivial)) (cO (aU ⟨aGn,mf46_b,mf46_g⟩ (aU ⟨aFU,mf78_b,mf78_g⟩ trivial trivial) trivial) trivial))))) fun f xs v e h => by
 have e : orcX f xs = some v := e
 unfold orcX at e
 split at e
 · rename_i hf
   rw [aL.1 hf]
   exact orcG_c e
 · cases e
theorem iV {w0 : World} {h : aA} : bQ Tryz.prog w0 5 [] h (.bool true) h :=
 xG (X := X7 w0) (X7_ok w0) (n := 1000) (by kernel_rfl)
end
end Go.Proofs.Ab
