/- The own layer under the proofs of this seat, part J: what calls of the program come to on an abstract heap. No condition. -/
import Derived.Test.YtajecdfdnlfndaaI
set_option linter.unusedSimpArgs false
set_option linter.unusedVariables false
namespace Go.Proofs.Ab
open Go Go.Proofs
noncomputable section
def aAs (f : Nat) : Option SF := if Nat.ble 50 f then (if Nat.ble 68 f then (if Nat.ble 76 f then (if Nat.ble 83 f then (if Nat.ble 85 f then (if Nat.ble 86 f then (if Nat.ble 87 f then (if Nat.beq f 87 then some mf87 else none) else (if Nat.beq f 86 then some mf86 else none)) else (if Nat.beq f 85 then some mf85 else none)) else (if Nat.ble 84 f then (if Nat.beq f 84 then some mf84 else none) else (if Nat.beq f 83 then some mf83 else none))) else (if Nat.ble 78 f then (if Nat.ble 79 f then (if Nat.beq f 79 then some mf79 else none) else (if Nat.beq f 78 then some mf78 else none)) else (if Nat.ble 77 f then (if Nat.beq f 77 then some mf77 else none) else (if Nat.beq f 76 then some mf76 else none)))) else (if Nat.ble 72 f then (if Nat.ble 74 f then (if Nat.ble 75 f then (if Nat.beq f 75 then some mf75 else none) else (if Nat.beq f 74 then some mf74 else none)) else (if Nat.ble 73 f then (if Nat.beq f 73 then some mf73 else none) else (if Nat.beq f 72 then some mf72 else none))) else (if Nat.ble 70 f then (if Nat.ble 71 f then (if Nat.beq f 71 then some mf71 else none) else (if Nat.beq f 70 then some mf70 else none)) else (if Nat.ble 69 f then (if Nat.beq f 69 then some mf69 else none) else (if Nat.beq f 68 then some mf68 else none))))) else (if Nat.ble 59 f then (if Nat.ble 63 f then (if Nat.ble 65 f then (if Nat.ble 66 f then (if Nat.ble 67 f then (if Nat.beq f 67 then some mf67 else none) else (if Nat.beq f 66 then some mf66 else none)) else (if Nat.beq f 65 then some mf65 else none)) else (if Nat.ble 64 f then (if Nat.beq f 64 then some mf64 else none) else (if Nat.beq f 63 then some mf63 else none))) else (if Nat.ble 61 f then (if Nat.ble 62 f then (if Nat.beq f 62 then some mf62 else none) else (if Nat.beq f 61 then some mf61 else none)) else (if Nat.ble 60 f then (if Nat.beq f 60 then some mf60 else none) else (if Nat.beq f 59 then some mf59 else none)))) else (if Nat.ble 54 f then (if Nat.ble 56 f then (if Nat.ble 58 f then (if Nat.beq f 58 then some mf58 else none) else (if Nat.beq f 56 then some mf56 else none)) else (if Nat.ble 55 f then (if Nat.beq f 55 then some mf55 else none) else (if Nat.beq f 54 then some mf54 else none))) else (if Nat.ble 52 f then (if Nat.ble 53 f then (if Nat.beq f 53 then some mf53 else none) else (if Nat.beq f 52 then some mf52 else none)) else (if Nat.ble 51 f then (if Nat.beq f 51 then some mf51 else none) else (if Nat.beq f 50 then some mf50 else none)))))) else (if Nat.ble 32 f then (if Nat.ble 41 f then (if Nat.ble 45 f then (if Nat.ble 47 f then (if Nat.ble 48 f then (if Nat.ble 49 f then (if Nat.beq f 49 then some mf49 else none) else (if Nat.beq f 48 then some mf48 else none)) else (if Nat.beq f 47 then some mf47 else none)) else (if Nat.ble 46 f then (if Nat.beq f 46 then some mf46 else none) else (if Nat.beq f 45 then some mf45 else none))) else (if Nat.ble 43 f then (if Nat.ble 44 f then (if Nat.beq f 44 then some mf44 else none) else (if Nat.beq f 43 then some mf43 else none)) else (if Nat.ble 42 f then (if Nat.beq f 42 then some mf42 else none) else (if Nat.beq f 41 then some mf41 else none)))) else (if Nat.ble 37 f then (if Nat.ble 39 f then (if Nat.ble 40 f then (if Nat.beq f 40 then some mf40 else none) else (if Nat.beq f 39 then some mf39 else none)) else (if Nat.ble 38 f then (if Nat.beq f 38 then some mf38 else none) else (if Nat.beq f 37 then some mf37 else none))) else (if Nat.ble 35 f then (if Nat.ble 36 f then (if Nat.beq f 36 then some mf36 else none) else (if Nat.beq f 35 then some mf35 else none)) else (if Nat.ble 34 f then (if Nat.beq f 34 then some mf34 else none) else (if Nat.beq f 32 then some mf32 else none))))) else (if Nat.ble 24 f then (if Nat.ble 28 f then (if Nat.ble 30 f then (if Nat.ble 31 f then (if Nat.beq f 31 then some mf31 else none) else (if Nat.beq f 30 then some mf30 else none)) else (if Nat.ble 29 f then (if Nat.beq f 29 then some mf29 else none) else (if Nat.beq f 28 then some mf28 else none))) else (if Nat.ble 26 f then (if Nat.ble 27 f then (if Nat.beq f 27 then some mf27 else none) else (if Nat.beq f 26 then some mf26 else none)) else (if Nat.ble 25 f then (if Nat.beq f 25 then some mf25 else none) else (if Nat.beq f 24 then some mf24 else none)))) else (if Nat.ble 19 f then (if Nat.ble 22 f then (if Nat.ble 23 f then (if Nat.beq f 23 then some mf23 else none) else (if Nat.beq f 22 then some mf22 else none)) else (if Nat.ble 20 f then (if Nat.beq f 20 then some mf20 else none) else (if Nat.beq f 19 then some mf19 else none))) else (if Nat.ble 15 f then (if Nat.ble 16 f then (if Nat.beq f 16 then some mf16 else none) else (if Nat.beq f 15 then some mf15 else none)) else (if Nat.ble 10 f then (if Nat.beq f 10 then some mf10 else none) else (if Nat.beq f 9 then some mf9 else none))))))
def evPrms : List ((Nat × Nat) × (List Nat × List (List Nat))) := [((103,10),([0,1,2,3,4,5,6,7,8,9],[[],[],[],[],[],[],[1]])),((5,7),([0,1,4,2,3,5,6],[[],[],[],[2]])),((5,9),([0,1,4,5,2,3,6,7,8],[[],[],[],[],[2,3]])),((14,14),([0,1,2,3,4,5,6,7,8,9,10,11,12,13],[[],[],[],[],[],[],[],[],[],[2]])),((25,14),([0,1,2,3,4,5,6,7,8,9,10,11,12,13],[[],[],[],[],[],[],[],[],[],[],[5,7]])),((43,11),([0,1,2,3,5,6,8,9,4,7,10],[[],[],[],[],[],[],[],[],[5,7],[7]]))]
def keyP (l : List MIx) (d n : Nat) : Bool := Nat.beq l.length n && (match l with
 | x :: _ => (match x.dst with
  | some t => Nat.beq t d
  | none => Nat.beq 0 d)
 | [] => false)
def findP (l : List MIx) : List ((Nat × Nat) × (List Nat × List (List Nat))) → Option (List Nat × List (List Nat))
 | [] => none
 | e :: r => match keyP l e.1.1 e.1.2 with
  | true => some e.2
  | false => findP l r
def two36 (l : List MIx) : Option P2 := match keyP l 86 10 with
 | true => some ⟨4,6,([0,1,2,3,5,4,6,7,8,9],[[],[],[],[],[],[1],[],[1]]),([0,1,2,3,5,6,4,7,8,9],[[],[],[],[],[],[],[1],[1]]),[1,8,9,10,12,13,48,49]⟩
 | false => none
def kI : List AV → Option (List aJ)
 | [] => some []
 | .int .i64 a :: .int .i64 b :: .int .i64 c :: .int .i64 d :: r => match kI r with
  | some l => some (⟨a,b,c,d⟩ :: l)
  | none => none
 | _ => none
theorem nM : ∀ {c : List AV} {l : List aJ},kI c = some l → c = (l.map aJ.c).flatten := fun {c} => by
 fun_induction kI c with
 | case1 => intro l e; cases e; rfl
 | case2 a b c d r l h ih => intro l' e; cases e; rw [ih h]; rfl
 | case3 => intro l e; cases e
 | case4 => intro l e; cases e
def orc6 (f : Nat) (xs : List AV) (h : aA) : Option (AV × aA) :=
 match Nat.beq f 57 with
 | true => match xs with
  | [.sl (.own io 0) n es _] => match h[io]? with
   | some (some (.row cells)) => match kI cells with
    | some l => match Nat.beq l.length n && (Nat.beq es 4 && Nat.ble n 12) with
     | true => some (.fn (.func 87) [] [.ptr (.own (h.length + 1) 0)],h ++ [blO (cK l),some (.row [slO h.length (cK l)])])
     | false => none
    | none => none
   | _ => none
  | _ => none
 | false => none
def V6 (w0 : World) : Ev := ⟨w0,aAs,orc6,fun l => findP l evPrms,fun _ _ _ _ => none,two36⟩
def qP (f : Nat) (o : Option SF) : Prop := ∀ mf,o = some mf → aM Try.prog f = some mf.er ∧ aB Try.prog f = true ∧ mf.body.good = true
theorem aN {f : Nat} {c : Prop} [Decidable c] {a b : Option SF} (h1 : qP f a) (h2 : qP f b) : qP f (if c then a else b) := by
 split
 · exact h1
 · exact h2
theorem aG {f k : Nat} {mf : SF} (h : aM Try.prog k = some mf.er ∧ aB Try.prog k = true ∧ mf.body.good = true) : qP f (if Nat.beq f k then some mf else none) := by
 split
 · rename_i e
   intro mf' e2
   cases e2
   rw [aI.1 e]; exact h
 · intro mf' e2; cases e2
theorem aAr (f : Nat) : qP f (aAs f) := by
 unfold aAs
 exact (aN (aN (aN (aN (aN (aN (aN (aG (k := 87) (mf := mf87) ⟨tS,yW,yV⟩) (aG (k := 86) (mf := mf86) ⟨aBl,mf86_b,mf86_g⟩)) (aG (k := 85) (mf := mf85) ⟨aBm,mf85_b,mf85_g⟩)) (aN (aG (k := 84) (mf := mf84) ⟨aBn,mf84_b,mf84_g⟩) (aG (k := 83) (mf := mf83) ⟨aBo,mf83_b,mf83_g⟩))) (aN (aN (aG (k := 79) (mf := mf79) ⟨aBs,mf79_b,mf79_g⟩) (aG (k := 78) (mf := mf78) ⟨aBt,mf78_b,mf78_g⟩)) (aN (aG (k := 77) (mf := mf77) ⟨aBu,mf77_b,mf77_g⟩) (aG (k := 76) (mf := mf76) ⟨aBv,mf76_b,mf76_g⟩)))) (aN (aN (aN (aG (k := 75) (mf := mf75) ⟨aBw,mf75_b,mf75_g⟩) (aG (k := 74) (mf := mf74) ⟨aBx,mf74_b,mf74_g⟩)) (aN (aG (k := 73) (mf := mf73) ⟨aBy,mf73_b,mf73_g⟩) (aG (k := 72) (mf := mf72) ⟨aBz,mf72_b,mf72_g⟩))) (aN (aN (aG (k := 71) (mf := mf71) ⟨aBA,mf71_b,mf71_g⟩) (aG (k := 70) (mf := mf70) ⟨aBB,mf70_b,mf70_g⟩)) (aN (aG (k := 69) (mf := mf69) ⟨aBC,mf69_b,mf69_g⟩) (aG (k := 68) (mf := mf68) ⟨aBD,mf68_b,mf68_g⟩))))) (aN (aN (aN (aN (aN (aG (k := 67) (mf := mf67) ⟨aBE,mf67_b,mf67_g⟩) (aG (k := 66) (mf := mf66) ⟨aBF,mf66_b,mf66_g⟩)) (aG (k := 65) (mf := mf65) ⟨aBG,mf65_b,mf65_g⟩)) (aN (aG (k := 64) (mf := mf64) ⟨aBH,mf64_b,mf64_g⟩) (aG (k := 63) (mf := mf63) ⟨aBI,mf63_b,mf63_g⟩))) (aN (aN (aG (k := 62) (mf := mf62) ⟨aBJ,mf62_b,mf62_g⟩) (aG (k := 61) (mf := mf61) ⟨aBK,mf61_b,mf61_g⟩)) (aN (aG (k := 60) (mf := mf60) ⟨aBL,mf60_b,mf60_g⟩) (aG (k := 59) (mf := mf59) ⟨tT,yY,yX⟩)))) (aN (aN (aN (aG (k := 58) (mf := mf58) ⟨tU,zA,yZ⟩) (aG (k := 56) (mf := mf56) ⟨tV,zC,zB⟩)) (aN (aG (k := 55) (mf := mf55) ⟨tW,zE,zD⟩) (aG (k := 54) (mf := mf54) ⟨tX,zG,zF⟩))) (aN (aN (aG (k := 53) (mf := mf53) ⟨tY,zI,zH⟩) (aG (k := 52) (mf := mf52) ⟨aBN,mf52_b,mf52_g⟩)) (aN (aG (k := 51) (mf := mf51) ⟨aBO,mf51_b,mf51_g⟩) (aG (k := 50) (mf := mf50) ⟨aBP,mf50_b,mf50_g⟩)))))) (aN (aN (aN (aN (aN (aN (aG (k := 49) (mf := mf49) ⟨aBQ,mf49_b,mf49_g⟩) (aG (k := 48) (mf := mf48) ⟨aBR,mf48_b,mf48_g⟩)) (aG (k := 47) (mf := mf47) ⟨aBS,mf47_b,mf47_g⟩)) (aN (aG (k := 46) (mf := mf46) ⟨aBT,mf46_b,mf46_g⟩) (aG (k := 45) (mf := mf45) ⟨aBU,mf45_b,mf45_g⟩))) (aN (aN (aG (k := 44) (mf := mf44) ⟨aBV,mf44_b,mf44_g⟩) (aG (k := 43) (mf := mf43) ⟨aBW,mf43_b,mf43_g⟩)) (aN (aG (k := 42) (mf := mf42) ⟨aBX,mf42_b,mf42_g⟩) (aG (k := 41) (mf := mf41) ⟨tZ,zK,zJ⟩)))) (aN (aN (aN (aG (k := 40) (mf := mf40) ⟨aBY,mf40_b,mf40_g⟩) (aG (k := 39) (mf := mf39) ⟨aBZ,mf39_b,mf39_g⟩)) (aN (aG (k := 38) (mf := mf38) ⟨uA,zM,zL⟩) (aG (k := 37) (mf := mf37) ⟨aB0,mf37_b,mf37_g⟩))) (aN (aN (aG (k := 36) (mf := mf36) ⟨aB1,mf36_b,mf36_g⟩) (aG (k := 35) (mf := mf35) ⟨aB2,mf35_b,mf35_g⟩)) (aN (aG (k := 34) (mf := mf34) ⟨aB3,mf34_b,mf34_g⟩) (aG (k := 32) (mf := mf32) ⟨uB,zO,zN⟩))))) (aN (aN (aN (aN (aG (k := 31) (mf := mf31) ⟨oA,rN,rM⟩) (aG (k := 30) (mf := mf30) ⟨uC,zQ,zP⟩)) (aN (aG (k := 29) (mf := mf29) ⟨uD,zS,zR⟩) (aG (k := 28) (mf := mf28) ⟨aB4,mf28_b,mf28_g⟩))) (aN (aN (aG (k := 27) (mf := mf27) ⟨aB5,mf27_b,mf27_g⟩) (aG (k := 26) (mf := mf26) ⟨aB6,mf26_b,mf26_g⟩)) (aN (aG (k := 25) (mf := mf25) ⟨aB7,mf25_b,mf25_g⟩) (aG (k := 24) (mf := mf24) ⟨aB8,mf24_b,mf24_g⟩)))) (aN (aN (aN (aG (k := 23) (mf := mf23) ⟨aB9,mf23_b,mf23_g⟩) (aG (k := 22) (mf := mf22) ⟨aCa,mf22_b,mf22_g⟩)) (aN (aG (k := 20) (mf := mf20) ⟨aCc,mf20_b,mf20_g⟩) (aG (k := 19) (mf := mf19) ⟨aCd,mf19_b,mf19_g⟩))) (aN (aN (aG (k := 16) (mf := mf16) ⟨aCe,mf16_b,mf16_g⟩) (aG (k := 15) (mf := mf15) ⟨aCf,mf15_b,mf15_g⟩)) (aN (aG (k := 10) (mf := mf10) ⟨uE,zV,zU⟩) (aG (k := 9) (mf := mf9) ⟨mf9_ok,mf9_b,mf9_g⟩)))))))
theorem V6_ok (w0 : World) : sS Try.prog (V6 w0) := by
 refine ⟨bA,aAr,fun f xs h v h' e => ?_,fun l bef fr h p e => by cases e⟩
 simp only [V6,orc6] at e
 split at e
 · rename_i hf
   obtain rfl := aI.1 hf
   split at e
   · rename_i io n es full
     split at e
     · rename_i cells hc
       split at e
       · rename_i l hl
         split at e
         · rename_i hb
           simp only [Bool.and_eq_true] at hb
           simp only [Option.some.injEq,Prod.mk.injEq] at e
           obtain ⟨rfl,rfl⟩ := e
           obtain rfl := aI.1 hb.1
           obtain rfl := aI.1 hb.2.1
           have hn := qE hb.2.2
           rw [nM hl] at hc
           refine ⟨nD ?_ hn,LS.app⟩
           have := oP (w0 := (V6 w0).w0) (es := 4) (full := full) hc (fun c hc => by
            obtain ⟨s,_,rfl⟩ := List.mem_map.1 hc; rfl)
           rwa [List.length_map] at this
         · cases e
       · cases e
     · cases e
   · cases e
 · cases e
theorem fI {w0 : World} {h : aA} : bE Try.prog w0 9 [] h (.bool true) h :=
 rP (V := V6 w0) (V6_ok w0) (n := 1000) (by kernel_rfl)
end
end Go.Proofs.Ab
