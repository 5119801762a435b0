/- The own layer under the proofs of this seat, part J: what calls of the program come to on an abstract heap. No condition. -/
import Derived.Test.YtajecdfdnlfndaaGreatI
set_option linter.unusedSimpArgs false
set_option linter.unusedVariables false
namespace Go.Proofs.Ab
open Go Go.Proofs
noncomputable section
def aCI (f : Nat) : Option SF := if Nat.ble 100 f then (if Nat.ble 127 f then (if Nat.ble 135 f then (if Nat.ble 143 f then (if Nat.ble 145 f then (if Nat.ble 146 f then (if Nat.ble 148 f then (if Nat.beq f 148 then some mf148 else none) else (if Nat.beq f 146 then some mf146 else none)) else (if Nat.beq f 145 then some mf145 else none)) else (if Nat.ble 144 f then (if Nat.beq f 144 then some mf144 else none) else (if Nat.beq f 143 then some mf143 else none))) else (if Nat.ble 137 f then (if Nat.ble 139 f then (if Nat.beq f 139 then some mf139 else none) else (if Nat.beq f 137 then some mf137 else none)) else (if Nat.ble 136 f then (if Nat.beq f 136 then some mf136 else none) else (if Nat.beq f 135 then some mf135 else none)))) else (if Nat.ble 131 f then (if Nat.ble 133 f then (if Nat.ble 134 f then (if Nat.beq f 134 then some mf134 else none) else (if Nat.beq f 133 then some mf133 else none)) else (if Nat.ble 132 f then (if Nat.beq f 132 then some mf132 else none) else (if Nat.beq f 131 then some mf131 else none))) else (if Nat.ble 129 f then (if Nat.ble 130 f then (if Nat.beq f 130 then some mf130 else none) else (if Nat.beq f 129 then some mf129 else none)) else (if Nat.ble 128 f then (if Nat.beq f 128 then some mf128 else none) else (if Nat.beq f 127 then some mf127 else none))))) else (if Nat.ble 116 f then (if Nat.ble 122 f then (if Nat.ble 124 f then (if Nat.ble 125 f then (if Nat.ble 126 f then (if Nat.beq f 126 then some mf126 else none) else (if Nat.beq f 125 then some mf125 else none)) else (if Nat.beq f 124 then some mf124 else none)) else (if Nat.ble 123 f then (if Nat.beq f 123 then some mf123 else none) else (if Nat.beq f 122 then some mf122 else none))) else (if Nat.ble 119 f then (if Nat.ble 121 f then (if Nat.beq f 121 then some mf121 else none) else (if Nat.beq f 119 then some mf119 else none)) else (if Nat.ble 118 f then (if Nat.beq f 118 then some mf118 else none) else (if Nat.beq f 116 then some mf116 else none)))) else (if Nat.ble 112 f then (if Nat.ble 114 f then (if Nat.ble 115 f then (if Nat.beq f 115 then some mf115 else none) else (if Nat.beq f 114 then some mf114 else none)) else (if Nat.ble 113 f then (if Nat.beq f 113 then some mf113 else none) else (if Nat.beq f 112 then some mf112 else none))) else (if Nat.ble 110 f then (if Nat.ble 111 f then (if Nat.beq f 111 then some mf111 else none) else (if Nat.beq f 110 then some mf110 else none)) else (if Nat.ble 101 f then (if Nat.beq f 101 then some mf101 else none) else (if Nat.beq f 100 then some mf100 else none)))))) else (if Nat.ble 72 f then (if Nat.ble 87 f then (if Nat.ble 91 f then (if Nat.ble 97 f then (if Nat.ble 98 f then (if Nat.ble 99 f then (if Nat.beq f 99 then some mf99 else none) else (if Nat.beq f 98 then some mf98 else none)) else (if Nat.beq f 97 then some mf97 else none)) else (if Nat.ble 95 f then (if Nat.beq f 95 then some mf95 else none) else (if Nat.beq f 91 then some mf91 else none))) else (if Nat.ble 89 f then (if Nat.ble 90 f then (if Nat.beq f 90 then some mf90 else none) else (if Nat.beq f 89 then some mf89 else none)) else (if Nat.ble 88 f then (if Nat.beq f 88 then some mf88 else none) else (if Nat.beq f 87 then some mf87 else none)))) else (if Nat.ble 83 f then (if Nat.ble 85 f then (if Nat.ble 86 f then (if Nat.beq f 86 then some mf86 else none) else (if Nat.beq f 85 then some mf85 else none)) else (if Nat.ble 84 f then (if Nat.beq f 84 then some mf84 else none) else (if Nat.beq f 83 then some mf83 else none))) else (if Nat.ble 79 f then (if Nat.ble 80 f then (if Nat.beq f 80 then some mf80 else none) else (if Nat.beq f 79 then some mf79 else none)) else (if Nat.ble 73 f then (if Nat.beq f 73 then some mf73 else none) else (if Nat.beq f 72 then some mf72 else none))))) else (if Nat.ble 64 f then (if Nat.ble 68 f then (if Nat.ble 70 f then (if Nat.ble 71 f then (if Nat.beq f 71 then some mf71 else none) else (if Nat.beq f 70 then some mf70 else none)) else (if Nat.ble 69 f then (if Nat.beq f 69 then some mf69 else none) else (if Nat.beq f 68 then some mf68 else none))) else (if Nat.ble 66 f then (if Nat.ble 67 f then (if Nat.beq f 67 then some mf67 else none) else (if Nat.beq f 66 then some mf66 else none)) else (if Nat.ble 65 f then (if Nat.beq f 65 then some mf65 else none) else (if Nat.beq f 64 then some mf64 else none)))) else (if Nat.ble 28 f then (if Nat.ble 47 f then (if Nat.ble 63 f then (if Nat.beq f 63 then some mf63 else none) else (if Nat.beq f 47 then some mf47 else none)) else (if Nat.ble 36 f then (if Nat.beq f 36 then some mf36 else none) else (if Nat.beq f 28 then some mf28 else none))) else (if Nat.ble 18 f then (if Nat.ble 21 f then (if Nat.beq f 21 then some mf21 else none) else (if Nat.beq f 18 then some mf18 else none)) else (if Nat.ble 17 f then (if Nat.beq f 17 then some mf17 else none) else (if Nat.beq f 16 then some mf16 else none))))))
def evPrms : List ((Nat × Nat) × (List Nat × List (List Nat))) := [((43,11),([0,1,2,3,5,6,8,9,4,7,10],[[],[],[],[],[],[],[],[],[5,7],[7]])),((5,7),([0,1,4,2,3,5,6],[[],[],[],[2]])),((5,9),([0,1,4,5,2,3,6,7,8],[[],[],[],[],[2,3]])),((14,14),([0,1,2,3,4,5,6,7,8,9,10,11,12,13],[[],[],[],[],[],[],[],[],[],[2]])),((25,14),([0,1,2,3,4,5,6,7,8,9,10,11,12,13],[[],[],[],[],[],[],[],[],[],[],[5,7]])),((103,10),([0,1,2,3,4,5,6,7,8,9],[[],[],[],[],[],[],[1]]))]
def keyP (l : List MIx) (d n : Nat) : Bool := Nat.beq l.length n && (match l with
 | x :: _ => (match x.dst with
  | some t => Nat.beq t d
  | none => Nat.beq 0 d)
 | [] => false)
def findP (l : List MIx) : List ((Nat × Nat) × (List Nat × List (List Nat))) → Option (List Nat × List (List Nat))
 | [] => none
 | e :: r => match keyP l e.1.1 e.1.2 with
  | true => some e.2
  | false => findP l r
def two36 (l : List MIx) : Option P2 := match keyP l 86 10 with
 | true => some ⟨4,6,([0,1,2,3,5,4,6,7,8,9],[[],[],[],[],[],[1],[],[1]]),([0,1,2,3,5,6,4,7,8,9],[[],[],[],[],[],[],[1],[1]]),[1,8,9,10,12,13,48,49]⟩
 | false => none
def lV : List AV → Option (List iE)
 | [] => some []
 | .int .i64 a :: .int .i64 b :: .int .i64 c :: .int .i64 d :: r => match lV r with
  | some l => some (⟨a,b,c,d⟩ :: l)
  | none => none
 | _ => none
theorem pI : ∀ {c : List AV} {l : List iE},lV c = some l → c = (l.map iE.c).flatten := fun {c} => by
 fun_induction lV c with
 | case1 => intro l e; cases e; rfl
 | case2 a b c d r l h ih => intro l' e; cases e; rw [ih h]; rfl
 | case3 => intro l e; cases e
 | case4 => intro l e; cases e
def orc6 (f : Nat) (xs : List AV) (h : aA) : Option (AV × aA) :=
 match Nat.beq f 117 with
 | true => match xs with
  | [.sl (.own io 0) n es _] => match h[io]? with
   | some (some (.row cells)) => match lV cells with
    | some l => match Nat.beq l.length n && (Nat.beq es 4 && Nat.ble n 12) with
     | true => some (.fn (.func 148) [] [.ptr (.own (h.length + 1) 0)],h ++ [blO (mG l),some (.row [slO h.length (mG l)])])
     | false => none
    | none => none
   | _ => none
  | _ => none
 | false => none
def V6 (w0 : World) : Ev := ⟨w0,aCI,orc6,fun l => findP l evPrms,fun _ _ _ _ => none,two36⟩
def tY (f : Nat) (o : Option SF) : Prop := ∀ mf,o = some mf → aM Tryz.prog f = some mf.er ∧ aB Tryz.prog f = true ∧ mf.body.good = true
theorem aS {f : Nat} {c : Prop} [Decidable c] {a b : Option SF} (h1 : tY f a) (h2 : tY f b) : tY f (if c then a else b) := by
 split
 · exact h1
 · exact h2
theorem aJ {f k : Nat} {mf : SF} (h : aM Tryz.prog k = some mf.er ∧ aB Tryz.prog k = true ∧ mf.body.good = true) : tY f (if Nat.beq f k then some mf else none) := by
 split
 · rename_i e
   intro mf' e2
   cases e2
   rw [aO.1 e]; exact h
 · intro mf' e2; cases e2
theorem aCH (f : Nat) : tY f (aCI f) := by
 unfold aCI
 exact (aS (aS (aS (aS (aS (aS (aS (aJ (k := 148) (mf := mf148) ⟨aBO,aEH,aEG⟩) (aJ (k := 146) (mf := mf146) ⟨aBP,aEJ,aEI⟩)) (aJ (k := 145) (mf := mf145) ⟨aBQ,aEL,aEK⟩)) (aS (aJ (k := 144) (mf := mf144) ⟨aBR,aEN,aEM⟩) (aJ (k := 143) (mf := mf143) ⟨sQ,xK,xJ⟩))) (aS (aS (aJ (k := 139) (mf := mf139) ⟨aBV,aEV,aEU⟩) (aJ (k := 137) (mf := mf137) ⟨aBX,aEZ,aEY⟩)) (aS (aJ (k := 136) (mf := mf136) ⟨aBY,aE1,aE0⟩) (aJ (k := 135) (mf := mf135) ⟨aBZ,aE3,aE2⟩)))) (aS (aS (aS (aJ (k := 134) (mf := mf134) ⟨aB0,aE5,aE4⟩) (aJ (k := 133) (mf := mf133) ⟨aB1,aE7,aE6⟩)) (aS (aJ (k := 132) (mf := mf132) ⟨aB2,aE9,aE8⟩) (aJ (k := 131) (mf := mf131) ⟨aB3,aFb,aFa⟩))) (aS (aS (aJ (k := 130) (mf := mf130) ⟨aB4,aFd,aFc⟩) (aJ (k := 129) (mf := mf129) ⟨aB5,aFf,aFe⟩)) (aS (aJ (k := 128) (mf := mf128) ⟨aB6,aFh,aFg⟩) (aJ (k := 127) (mf := mf127) ⟨sR,xM,xL⟩))))) (aS (aS (aS (aS (aS (aJ (k := 126) (mf := mf126) ⟨sS,xO,xN⟩) (aJ (k := 125) (mf := mf125) ⟨sU,xQ,xP⟩)) (aJ (k := 124) (mf := mf124) ⟨sV,xS,xR⟩)) (aS (aJ (k := 123) (mf := mf123) ⟨sW,xU,xT⟩) (aJ (k := 122) (mf := mf122) ⟨sZ,xW,xV⟩))) (aS (aS (aJ (k := 121) (mf := mf121) ⟨tA,xY,xX⟩) (aJ (k := 119) (mf := mf119) ⟨aB8,aFl,aFk⟩)) (aS (aJ (k := 118) (mf := mf118) ⟨aB9,aFn,aFm⟩) (aJ (k := 116) (mf := mf116) ⟨aCb,aFr,aFq⟩)))) (aS (aS (aS (aJ (k := 115) (mf := mf115) ⟨tC,yC,xZ⟩) (aJ (k := 114) (mf := mf114) ⟨aCc,aFt,aFs⟩)) (aS (aJ (k := 113) (mf := mf113) ⟨aCd,aFv,aFu⟩) (aJ (k := 112) (mf := mf112) ⟨aCe,aFx,aFw⟩))) (aS (aS (aJ (k := 111) (mf := mf111) ⟨aCf,aFz,aFy⟩) (aJ (k := 110) (mf := mf110) ⟨aCg,aFB,aFA⟩)) (aS (aJ (k := 101) (mf := mf101) ⟨aCm,aFN,aFM⟩) (aJ (k := 100) (mf := mf100) ⟨aCn,aFP,aFO⟩)))))) (aS (aS (aS (aS (aS (aS (aJ (k := 99) (mf := mf99) ⟨aDS,mf99_b,mf99_g⟩) (aJ (k := 98) (mf := mf98) ⟨aDT,mf98_b,mf98_g⟩)) (aJ (k := 97) (mf := mf97) ⟨wW,aBB,aBA⟩)) (aS (aJ (k := 95) (mf := mf95) ⟨aDU,mf95_b,mf95_g⟩) (aJ (k := 91) (mf := mf91) ⟨aDV,mf91_b,mf91_g⟩))) (aS (aS (aJ (k := 90) (mf := mf90) ⟨aDW,mf90_b,mf90_g⟩) (aJ (k := 89) (mf := mf89) ⟨aDX,mf89_b,mf89_g⟩)) (aS (aJ (k := 88) (mf := mf88) ⟨aDY,mf88_b,mf88_g⟩) (aJ (k := 87) (mf := mf87) ⟨aDZ,mf87_b,mf87_g⟩)))) (aS (aS (aS (aJ (k := 86) (mf := mf86) ⟨aD0,mf86_b,mf86_g⟩) (aJ (k := 85) (mf := mf85) ⟨aD1,mf85_b,mf85_g⟩)) (aS (aJ (k := 84) (mf := mf84) ⟨aD2,mf84_b,mf84_g⟩) (aJ (k := 83) (mf := mf83) ⟨aD3,mf83_b,mf83_g⟩))) (aS (aS (aJ (k := 80) (mf := mf80) ⟨wX,aBD,aBC⟩) (aJ (k := 79) (mf := mf79) ⟨wY,aBF,aBE⟩)) (aS (aJ (k := 73) (mf := mf73) ⟨aD7,mf73_b,mf73_g⟩) (aJ (k := 72) (mf := mf72) ⟨aD8,mf72_b,mf72_g⟩))))) (aS (aS (aS (aS (aJ (k := 71) (mf := mf71) ⟨aD9,mf71_b,mf71_g⟩) (aJ (k := 70) (mf := mf70) ⟨aEa,mf70_b,mf70_g⟩)) (aS (aJ (k := 69) (mf := mf69) ⟨aEb,mf69_b,mf69_g⟩) (aJ (k := 68) (mf := mf68) ⟨aEc,mf68_b,mf68_g⟩))) (aS (aS (aJ (k := 67) (mf := mf67) ⟨aEd,mf67_b,mf67_g⟩) (aJ (k := 66) (mf := mf66) ⟨aEe,mf66_b,mf66_g⟩)) (aS (aJ (k := 65) (mf := mf65) ⟨aEf,mf65_b,mf65_g⟩) (aJ (k := 64) (mf := mf64) ⟨aEg,mf64_b,mf64_g⟩)))) (aS (aS (aS (aJ (k := 63) (mf := mf63) ⟨aEh,mf63_b,mf63_g⟩) (aJ (k := 47) (mf := mf47) ⟨aEp,mf47_b,mf47_g⟩)) (aS (aJ (k := 36) (mf := mf36) ⟨aEr,mf36_b,mf36_g⟩) (aJ (k := 28) (mf := mf28) ⟨wZ,aBH,aBG⟩))) (aS (aS (aJ (k := 21) (mf := mf21) ⟨xA,aBJ,aBI⟩) (aJ (k := 18) (mf := mf18) ⟨aEu,mf18_b,mf18_g⟩)) (aS (aJ (k := 17) (mf := mf17) ⟨aEv,mf17_b,mf17_g⟩) (aJ (k := 16) (mf := mf16) ⟨aEw,mf16_b,mf16_g⟩)))))))
theorem V6_ok (w0 : World) : wD Tryz.prog (V6 w0) := by
 refine ⟨aU,aCH,fun f xs h v h' e => ?_,fun l bef fr h p e => by cases e⟩
 simp only [V6,orc6] at e
 split at e
 · rename_i hf
   obtain rfl := aO.1 hf
   split at e
   · rename_i io n es full
     split at e
     · rename_i cells hc
       split at e
       · rename_i l hl
         split at e
         · rename_i hb
           simp only [Bool.and_eq_true] at hb
           simp only [Option.some.injEq,Prod.mk.injEq] at e
           obtain ⟨rfl,rfl⟩ := e
           obtain rfl := aO.1 hb.1
           obtain rfl := aO.1 hb.2.1
           have hn := qE hb.2.2
           rw [pI hl] at hc
           refine ⟨aAB ?_ hn,LS.app⟩
           have := rC (w0 := (V6 w0).w0) (es := 4) (full := full) hc (fun c hc => by
            obtain ⟨s,_,rfl⟩ := List.mem_map.1 hc; rfl)
           rwa [List.length_map] at this
         · cases e
       · cases e
     · cases e
   · cases e
 · cases e
theorem mB {w0 : World} {h : aA} : aZ Tryz.prog w0 16 [] h (.bool true) h :=
 vE (V := V6 w0) (V6_ok w0) (n := 1000) (by kernel_rfl)
end
end Go.Proofs.Ab
