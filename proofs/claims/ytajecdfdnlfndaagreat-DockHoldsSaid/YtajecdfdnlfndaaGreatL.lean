/- The own layer under the proofs of this seat, part L: what calls of the program come to on an abstract heap. No condition. -/
import Derived.Test.YtajecdfdnlfndaaGreatChecked
import Derived.Shelf.Slices.Delete
import Derived.Deep.MidRow
import Derived.KernelRfl
set_option linter.unusedSimpArgs false
set_option linter.unusedVariables false
namespace Go.Proofs
open Go.Shelf Go.RowKit Go.Lib Go.Sort
theorem aAx : Tryz.prog.follows .mixedOrders = true := by kernel_rfl
noncomputable def mP : TypeId := match Tryz.prog.underlying 44 with
 | some (.slice e) => e
 | _ => 0
theorem del_t : Tryz.prog.underlying 44 = some (.slice mP) := by kernel_rfl
theorem del_i : ∃ i,Tryz.prog.info? mP = some i ∧ i.size = 3 := by
 have h : (Tryz.prog.info? mP).map (·.size) = some 3 := by kernel_rfl
 cases e : Tryz.prog.info? mP with
 | none => rw [e] at h; cases h
 | some i => rw [e] at h; exact ⟨i,rfl,by simpa using h⟩
theorem del_n : Tryz.f104.ntmps = 33 := by kernel_rfl
def z3 : List Value := [.int .i64 0,.int .i64 0,.int .i64 0]
theorem del_z (w : World) : (zeroValue mP).run Tryz.prog w = .ok (.agg #[.int .i64 0,.int .i64 0,.int .i64 0]) w := by
 kernel_rfl
theorem aAy (w : World) (ty : TypeId) (b o c : Nat) (hc : ∀ j,j < 3 → (w.cell? ⟨b,o + j,none⟩).isSome = true) (hf : ∀ j,j < 3 → w.frozen? ⟨b,o + j,none⟩ = false) :
 (Builtin.clear_ #[44] ty #[.slice (some ⟨b,o,none⟩) 1 c]).run Tryz.prog w = .ok (.tuple #[]) (w.setCells b o z3) := by
 have hst := run_storeCells_cells (P := Tryz.prog) b o z3 0 w (by simpa [z3] using hc) (by simpa [z3] using hf) (by intro v hv; simp [z3] at hv; subst hv; rfl)
 simp only [Nat.add_zero] at hst
 have hz : (Builtin.zeroCells (Value.agg #[.int .i64 0,.int .i64 0,.int .i64 0]).cells 1).toList = z3 := by simp [Builtin.zeroCells,Value.cells,z3,List.range_succ]
 simp [Builtin.clear_,run_underlying del_t,del_z,hz,hst]
theorem del_t0 : Tryz.prog.underlying 0 = some (TypeDesc.tuple #[]) := by kernel_rfl
theorem del_a0 (w : World) : (isAgg 0).run Tryz.prog w = .ok false w := by kernel_rfl
theorem del_z0 (w : World) : (Go.sizeOf 0).run Tryz.prog w = .ok 1 w := by kernel_rfl
theorem del_v0 (w : World) : (zeroValue 0).run Tryz.prog w = .ok (Value.tuple #[]) w := by kernel_rfl
theorem del_t3 : Tryz.prog.underlying 3 = some (TypeDesc.int IntKind.i64) := by kernel_rfl
theorem del_a3 (w : World) : (isAgg 3).run Tryz.prog w = .ok false w := by kernel_rfl
theorem del_z3 (w : World) : (Go.sizeOf 3).run Tryz.prog w = .ok 1 w := by kernel_rfl
theorem del_v3 (w : World) : (zeroValue 3).run Tryz.prog w = .ok (Value.int IntKind.i64 0) w := by kernel_rfl
theorem del_t4 : Tryz.prog.underlying 4 = some TypeDesc.bool := by kernel_rfl
theorem del_a4 (w : World) : (isAgg 4).run Tryz.prog w = .ok false w := by kernel_rfl
theorem del_z4 (w : World) : (Go.sizeOf 4).run Tryz.prog w = .ok 1 w := by kernel_rfl
theorem del_v4 (w : World) : (zeroValue 4).run Tryz.prog w = .ok (Value.bool false) w := by kernel_rfl
theorem del_as (w : World) : (isAgg 44).run Tryz.prog w = .ok false w := by kernel_rfl
theorem del_zs (w : World) : (Go.sizeOf 44).run Tryz.prog w = .ok 1 w := by kernel_rfl
theorem del_vs (w : World) : (zeroValue 44).run Tryz.prog w = .ok (Value.slice none 0 0) w := by kernel_rfl
theorem del_zr (w : World) : (Go.sizeOf mP).run Tryz.prog w = .ok 3 w := by kernel_rfl
theorem nT (b : Nat) : ∀ (vs : List Value) (o : Nat) (w : World) (x : Addr),(w.cell? x).isSome = true → ((w.setCells b o vs).cell? x).isSome = true := World.isSome_setCells b
set_option maxHeartbeats 4000000 in
set_option maxRecDepth 1000000 in
theorem tP (blk off cap i j n : Nat) (d : Array Value) (w : World) (hd : d.size = n * 3) (hH : Holds id w blk off d) (h1 : ∀ u ∈ d.toList,u.oneCell' = true) (hcap : n ≤ cap) (hm : n ≤ 1000000) (hi : i < n) (hji : j = i + 1) :
 Calls Tryz.prog 104 #[.slice (some ⟨blk,off,none⟩) n cap,.int .i64 i,.int .i64 j] w fun e w' => e = .returned (.slice (some ⟨blk,off,none⟩) (n - 1) cap) ∧
  w' = (w.drew.setCells blk (off + i * 3) (d.toList.drop (j * 3))).setCells blk (off + (n - 1) * 3) z3 := by
 have mixed := aAx; have t0 := del_t0; have a0 := del_a0; have z0 := del_z0; have v0 := del_v0; have t3 := del_t3; have a3 := del_a3; have z3' := del_z3; have v3 := del_v3; have t4 := del_t4; have a4 := del_a4; have z4 := del_z4; have v4 := del_v4; have as_ := del_as; have zs := del_zs; have vs := del_vs; have zr := del_zr
 have t44 := del_t
 obtain ⟨i0,hi0,hz1⟩ := del_i
 obtain ⟨news,hnews⟩ : ∃ news,news = d.toList.drop (j * 3) := ⟨_,rfl⟩
 have hlen : news.length = (n - j) * 3 := by rw [hnews]; simp [hd]; omega
 have hget : ∀ t,t < (n - j) * 3 → news[t]? = some d[j * 3 + t]! := by
  intro t ht
  rw [hnews,List.getElem?_drop,Array.getElem?_toList,getElem!_pos d (j * 3 + t) (by omega),Array.getElem?_eq_getElem (by omega)]
 obtain ⟨A,hA,hsrc⟩ : ∃ A : Addr,(if cap = j then some (⟨blk,off,none⟩ : Addr) else some ⟨blk,off + j * 3,none⟩) = some A ∧ Hid (∀ t u,news[t]? = some u → w.drew.cell? (A.add t) = some u) := by
  by_cases h : cap = j
  · refine ⟨⟨blk,off,none⟩,by simp [h],fun t u hu => ?_⟩
    have h0 : news.length = 0 := by rw [hlen]; omega
    rw [List.length_eq_zero_iff.1 h0] at hu
    simp at hu
  · refine ⟨⟨blk,off + j * 3,none⟩,by simp [h],fun t u hu => ?_⟩
    have ht : t < (n - j) * 3 := by
     have := (List.getElem?_eq_some_iff.1 hu).1
     rwa [hlen] at this
    rw [hget t ht] at hu
    rw [Addr.add_lit,show off + j * 3 + t = off + (j * 3 + t) by omega]
    exact (hH (j * 3 + t) (by omega)).1.trans hu
 have s1 : Hid (news.length = (n - j) * 3) := hlen
 have s2 : Hid (∀ u ∈ news,u.oneCell' = true) := by
  intro u hu
  rw [hnews] at hu
  exact h1 u (List.mem_of_mem_drop hu)
 have s3 : Hid (∀ t,t < news.length → (w.drew.cell? ⟨blk,off + i * 3 + t,none⟩).isSome = true ∧ w.drew.frozen? ⟨blk,off + i * 3 + t,none⟩ = false) := by
  intro t ht
  rw [hlen] at ht
  rw [Nat.add_assoc]
  exact ⟨by show (w.cell? _).isSome = true; rw [(hH (i * 3 + t) (by omega)).1]; rfl,(hH (i * 3 + t) (by omega)).2⟩
 obtain ⟨W1,hW1⟩ : ∃ W1,W1 = w.drew.setCells blk (off + i * 3) news := ⟨_,rfl⟩
 have hcl : ∀ ty,(Builtin.clear_ #[44] ty #[.slice (some ⟨blk,off + (i + (n - j)) * 3,none⟩) (n - (i + (n - j))) (cap - (i + (n - j)))]).run Tryz.prog W1 = .ok (.tuple #[]) (W1.setCells blk (off + (i + (n - j)) * 3) z3) := fun ty => by
  rw [show n - (i + (n - j)) = 1 by omega]
  exact aAy W1 ty blk _ _ (fun u hu => by
   rw [hW1,Nat.add_assoc]
   exact nT blk news _ w.drew _ (by show (w.cell? _).isSome = true; rw [(hH ((i + (n - j)) * 3 + u) (by omega)).1]; rfl)) (fun u hu => by
   rw [hW1,World.frozen?_setCells,Nat.add_assoc]
   exact (hH ((i + (n - j)) * 3 + u) (by omega)).2)
 have hcc : ¬ cap = i + (n - j) := by omega
 have hcn : i + (n - j) ≤ n := by omega
 have hW : Hid (W1 = w.drew.setCells blk (off + i * 3) news) := hW1
 have hic : i ≤ cap := by omega
 have hij : i ≤ j := by omega
 have hlt : i < j := by omega
 have hj : j ≤ n := by omega
 have hne : ¬ (i : Int) = j := by omega
 have hX : Hid (j = i + 1) := hji
 have hnews' : Hid (news = d.toList.drop (j * 3)) := hnews
 have hjc : j ≤ cap := by omega
 clear hW1 hH hget hnews hlen hji
 go_enter Tryz.func104,del_n
 go_wp2_with fail
 go_region_law_o (refine step_append_room rfl (.tmp 22) (.tmp 25) 44 rfl mP i0 3 t44 hi0 hz1 blk off i cap (by simp [Act.eval,Act.put]) A (n - j) (cap - j) news (by simp [Act.eval,Act.put,hA]) s1.out hsrc.out s2.out (by omega) s3.out ?_; rw [← hW.out])
 go_wp2
 go_ret
 refine ⟨by rw [show n - 1 = i + (n - j) by have := hX.out; omega]; rfl,?_⟩
 rw [hW.out,hnews'.out,show n - 1 = i + (n - j) by have := hX.out; omega]
end Go.Proofs
