/-
  The contract of slices.Sorted(maps.Keys(m)) at maps whose keys are ints: the layings of the shelf (plain text), and the iterator's walk.
-/
import Derived.Shelf.SlIterI.Nil
import Derived.Shelf.SortM.Plain
import Derived.Shelf.SortM.SortNone
import Derived.Test.YtobpahgkkpmpfaaGreatProg
import Derived.KernelRfl
import Derived.Test.YtobpahgkkpmpfaaGreatNxS
set_option linter.unusedVariables false
namespace Go.Proofs
open Go.RowKit Go.Maps Go.Sort Go.Shelf

def Tryz.sortedA_ren : Go.Shelf.Ren := ⟨fun | 6 => 131 | 8 => 185 | 9 => 186 | 11 => 156 | 13 => 247 | 12 => 246 | 23 => 298 | 24 => 299 | 14 => 289 | 15 => 290 | 16 => 291 | 17 => 292 | 18 => 293 | 19 => 294 | 20 => 295 | 21 => 296 | 22 => 297 | 25 => 320 | 26 => 321 | 27 => 322 | 28 => 323 | 29 => 324 | 30 => 325 | 31 => 337 | n => n, fun | 26 => 3 | 28 => 77 | 24 => 55 | 0 => 0 | 3 => 3 | 37 => 344 | 48 => 383 | 50 => 310 | 4 => 4 | 40 => 377 | 39 => 376 | 45 => 116 | 5 => 5 | 9 => 9 | 51 => 396 | 55 => 400 | 57 => 407 | 58 => 408 | 33 => 126 | n => n, fun | n => n⟩
theorem Tryz.sortedA : Go.Proofs.SlLaysZI.n6 Tryz.prog Tryz.sortedA_ren := {
  mixed := by kernel_rfl,
  f6 := ⟨Tryz.f131.name, by decide, Tryz.func131.trans (congrArg some (by kernel_rfl))⟩,
  f8 := ⟨Tryz.f185.name, by decide, Tryz.func185.trans (congrArg some (by kernel_rfl))⟩,
  f11 := ⟨Tryz.f156.name, by decide, Tryz.func156.trans (congrArg some (by kernel_rfl))⟩,
  t0 := Tryz.underlying0,
  a0 := Tryz.isAgg0,
  z0 := Tryz.sizeOf0,
  v0 := Tryz.zeroValue0,
  t24 := Tryz.underlying55,
  a24 := Tryz.isAgg55,
  z24 := Tryz.sizeOf55,
  v24 := Tryz.zeroValue55,
  t26 := Tryz.underlying3,
  a26 := Tryz.isAgg3,
  z26 := Tryz.sizeOf3,
  v26 := Tryz.zeroValue3,
  t28 := Tryz.underlying77,
  a28 := Tryz.isAgg77,
  z28 := Tryz.sizeOf77,
  v28 := Tryz.zeroValue77,
  i26 := by kernel_rfl }
def Tryz.sortA_ren : Go.Shelf.Ren := ⟨fun | 5 => 186 | 8 => 247 | 7 => 246 | 19 => 298 | 20 => 299 | 10 => 289 | 11 => 290 | 12 => 291 | 13 => 292 | 14 => 293 | 15 => 294 | 16 => 295 | 17 => 296 | 18 => 297 | 30 => 320 | 31 => 321 | 32 => 322 | 33 => 323 | 34 => 324 | 35 => 325 | 40 => 337 | n => n, fun | 23 => 55 | 25 => 3 | 3 => 3 | 32 => 344 | 22 => 55 | 0 => 0 | 44 => 383 | 46 => 310 | 4 => 4 | 36 => 377 | 35 => 376 | 41 => 116 | 5 => 5 | 9 => 9 | 53 => 396 | 57 => 400 | 63 => 407 | 64 => 408 | n => n, fun | n => n⟩
theorem Tryz.sortA : Go.Proofs.SlLaysM.n5 Tryz.prog Tryz.sortA_ren := {
  mixed := by kernel_rfl,
  f5 := ⟨Tryz.f186.name, by decide, Tryz.func186.trans (congrArg some (by kernel_rfl))⟩,
  f7 := ⟨Tryz.f246.name, by decide, Tryz.func246.trans (congrArg some (by kernel_rfl))⟩,
  f8 := Tryz.func247.trans (congrArg some (by kernel_rfl)),
  f10 := ⟨Tryz.f289.name, by decide, Tryz.func289.trans (congrArg some (by kernel_rfl))⟩,
  f11 := ⟨Tryz.f290.name, by decide, Tryz.func290.trans (congrArg some (by kernel_rfl))⟩,
  f12 := ⟨Tryz.f291.name, by decide, Tryz.func291.trans (congrArg some (by kernel_rfl))⟩,
  f13 := ⟨Tryz.f292.name, by decide, Tryz.func292.trans (congrArg some (by kernel_rfl))⟩,
  f14 := ⟨Tryz.f293.name, by decide, Tryz.func293.trans (congrArg some (by kernel_rfl))⟩,
  f15 := ⟨Tryz.f294.name, by decide, Tryz.func294.trans (congrArg some (by kernel_rfl))⟩,
  f16 := ⟨Tryz.f295.name, by decide, Tryz.func295.trans (congrArg some (by kernel_rfl))⟩,
  f17 := ⟨Tryz.f296.name, by decide, Tryz.func296.trans (congrArg some (by kernel_rfl))⟩,
  f18 := ⟨Tryz.f297.name, by decide, Tryz.func297.trans (congrArg some (by kernel_rfl))⟩,
  f19 := Tryz.func298.trans (congrArg some (by kernel_rfl)),
  f20 := Tryz.func299.trans (congrArg some (by kernel_rfl)),
  f30 := ⟨Tryz.f320.name, by decide, Tryz.func320.trans (congrArg some (by kernel_rfl))⟩,
  f31 := Tryz.func321.trans (congrArg some (by kernel_rfl)),
  f32 := Tryz.func322.trans (congrArg some (by kernel_rfl)),
  f33 := ⟨Tryz.f323.name, by decide, Tryz.func323.trans (congrArg some (by kernel_rfl))⟩,
  f34 := ⟨Tryz.f324.name, by decide, Tryz.func324.trans (congrArg some (by kernel_rfl))⟩,
  f35 := ⟨Tryz.f325.name, by decide, Tryz.func325.trans (congrArg some (by kernel_rfl))⟩,
  f40 := ⟨Tryz.f337.name, by decide, Tryz.func337.trans (congrArg some (by kernel_rfl))⟩,
  t0 := Tryz.underlying0,
  a0 := Tryz.isAgg0,
  z0 := Tryz.sizeOf0,
  v0 := Tryz.zeroValue0,
  t3 := Tryz.underlying3,
  a3 := Tryz.isAgg3,
  z3 := Tryz.sizeOf3,
  v3 := Tryz.zeroValue3,
  t4 := Tryz.underlying4,
  a4 := Tryz.isAgg4,
  z4 := Tryz.sizeOf4,
  v4 := Tryz.zeroValue4,
  t5 := Tryz.underlying5,
  a5 := Tryz.isAgg5,
  z5 := Tryz.sizeOf5,
  v5 := Tryz.zeroValue5,
  t9 := Tryz.underlying9,
  a9 := Tryz.isAgg9,
  z9 := Tryz.sizeOf9,
  v9 := Tryz.zeroValue9,
  t22 := Tryz.underlying55,
  a22 := Tryz.isAgg55,
  z22 := Tryz.sizeOf55,
  v22 := Tryz.zeroValue55,
  t23 := Tryz.underlying55,
  a23 := Tryz.isAgg55,
  z23 := Tryz.sizeOf55,
  v23 := Tryz.zeroValue55,
  t25 := Tryz.underlying3,
  a25 := Tryz.isAgg3,
  z25 := Tryz.sizeOf3,
  v25 := Tryz.zeroValue3,
  t32 := Tryz.underlying344,
  a32 := Tryz.isAgg344,
  z32 := Tryz.sizeOf344,
  v32 := Tryz.zeroValue344,
  t35 := Tryz.underlying376,
  a35 := Tryz.isAgg376,
  z35 := Tryz.sizeOf376,
  v35 := Tryz.zeroValue376,
  t36 := Tryz.underlying377,
  a36 := Tryz.isAgg377,
  z36 := Tryz.sizeOf377,
  v36 := Tryz.zeroValue377,
  t41 := Tryz.underlying116,
  a41 := Tryz.isAgg116,
  z41 := Tryz.sizeOf116,
  v41 := Tryz.zeroValue116,
  t44 := Tryz.underlying383,
  a44 := Tryz.isAgg383,
  z44 := Tryz.sizeOf383,
  v44 := Tryz.zeroValue383,
  t46 := Tryz.underlying310,
  a46 := Tryz.isAgg310,
  z46 := Tryz.sizeOf310,
  v46 := Tryz.zeroValue310,
  t53 := Tryz.underlying396,
  a53 := Tryz.isAgg396,
  z53 := Tryz.sizeOf396,
  v53 := Tryz.zeroValue396,
  t57 := Tryz.underlying400,
  a57 := Tryz.isAgg400,
  z57 := Tryz.sizeOf400,
  v57 := Tryz.zeroValue400,
  t63 := Tryz.underlying407,
  a63 := Tryz.isAgg407,
  z63 := Tryz.sizeOf407,
  v63 := Tryz.zeroValue407,
  t64 := Tryz.underlying408,
  a64 := Tryz.isAgg408,
  z64 := Tryz.sizeOf408,
  v64 := Tryz.zeroValue408 }

theorem Tryz.sortsA (m : Nat) : AnyZI.SortsIn Tryz.prog Tryz.sortedA_ren Fence.wide m :=
  ⟨fun blk off cap ss W hH hblk hsz => callsIn_wide.2 (AnyM.slices_Sort_int Tryz.sortA blk off cap ss W hH hblk hsz),
   fun p cap W => callsIn_wide.2 (AnyM.slices_Sort_int_none Tryz.sortA p cap W)⟩

set_option maxRecDepth 100000 in
set_option maxHeartbeats 2000000 in
/-- The iterator over a map's keys, its box at any place. -/
theorem Tryz.keysGives {H : Type} (Bm o b nn : Nat) (D0 : DataW H) {R : Value → Option (DataW H × List MemPlace)} (w : World) (hBm : Bm < w.heap.size) (hm : w.cell? ⟨Bm, o, none⟩ = some (.map (some b))) (hown : w.ownsMap Tryz.prog 3 R b nn D0) :
    SeqGives Fence.wide 2 Tryz.prog 187 #[.pointer (some ⟨Bm, o, none⟩)] encZ (fun ss => ss.Perm (intKeys D0)) (Maps.size D0) w := fun l J W hW hJ hY h0 => by
  have hown2 : W.ownsMap Tryz.prog 3 R b nn D0 := by
    have hbl := hown.lt
    obtain ⟨es, clock, hb, Ft, hs, hD⟩ := hown
    exact ⟨es, clock, (hW.block b hbl).trans hb, Ft, hs, hD⟩
  have hm2 : W.cell? ⟨Bm, o, none⟩ = some (.map (some b)) := (hW.cell (p := ⟨Bm, o, none⟩) hBm).trans hm
  clear hown hm
  refine callsIn_of_wp Tryz.func187 rfl trivial ?_ rfl
  simp only [Tryz.ntmps187, List.size_toArray, List.length_cons, List.length_nil, Nat.reduceAdd, Nat.reduceSub, Array.replicate_succ, Array.replicate_zero, List.push_toArray, List.append_toArray, List.nil_append, List.cons_append]
  gi_wp2_with (first
    | (gi_at_range; refine wpListIn_range_own _ rfl _ 151 rfl 3 4 (int_keyed Tryz.underlying3) Tryz.underlying151 _ b nn _ rfl hown2 ?_; intro w0 hrg0 hg0 hs0)
    | gi_in)
  go_frame
  gi_loopw [3] (fun _ wr => ∃ (left : Lit → Bool) (cnt : Nat) (ss : List Int), wr.ranges Tryz.prog 3 R b W.heap.size nn D0 left cnt ∧ ss.length + cnt ≤ Maps.size D0 ∧ CollectedI D0 left ss ∧ J ss wr)
    (fun _ wr => wr.rangeLeft b W.heap.size)
  case atStart =>
    exact ⟨_, _, [], hrg0, by simp, CollectedI.start D0, hJ [] W w0 none h0 hg0 (fun r e => by cases e)⟩
  case round =>
    obtain ⟨left, cnt, ss, hrg, hlen, hC, hJs⟩ := hrel
    gi_wp2_with (first
      | (gi_at_next; refine wpListIn_next_ranges _ rfl _ rfl 3 (int_keyed Tryz.underlying3) R encZ id (fun key kl hk => by obtain ⟨x, hx, _⟩ := Maps.keyOf_i64 Tryz.underlying3 hk; exact ⟨x, hx⟩) (fun v _ _ => ⟨v, rfl⟩) b W.heap.size nn _ _ _ rfl hrg ?_ ?_)
      | gi_in)
    · -- nothing is left
      intro hc0 hl0
      gi_wp2
      go_end0
      exact ⟨⟨_, rfl⟩, ss, hC.perm hown2 (int_keyed Tryz.underlying3) Tryz.underlying3 hl0, hJs⟩
    · -- an entry has come
      intro x c kl yd yp w2 cnt2 hkey hlk hv hat hrg2 hlt hg2 hs2 hen
      obtain ⟨x', ex, rfl, _⟩ := Maps.keyOf_i64 Tryz.underlying3 hkey
      obtain rfl : x = x' := encZ_inj ex
      have hJ2 : J ss w2 := hJ ss wr w2 (some W.heap.size) hJs hg2 (fun r e => by cases e; exact ⟨Nat.le_refl _, hrg.iter_walk⟩)
      obtain ⟨fn, tmps, assign, body, hy, hR⟩ := hY ss x w2 hJ2 (by omega)
      clear hs2
      gi_wp2
      refine hR.mono ?_
      rintro e W3 ⟨rfl, hJ3, hk3⟩
      gi_wp2
      have hrg3 := hrg2.of_walks hk3
      go_roundw
      case rel => exact ⟨_, cnt2, ss ++ [x], hrg3, by simp; omega, hC.step hlk hat, hJ3⟩
      case measure => rw [hrg3.left_eq, hrg.left_eq]; exact hlt

set_option maxRecDepth 100000 in
set_option maxHeartbeats 2000000 in
theorem Tryz.keysNone (Bm o : Nat) (w : World) (hBm : Bm < w.heap.size) (hm : w.cell? ⟨Bm, o, none⟩ = some (.map none)) :
    SeqGives Fence.wide 2 Tryz.prog 187 #[.pointer (some ⟨Bm, o, none⟩)] encZ (fun ss : List Int => ss = []) 0 w := fun l J W hW hJ hY h0 => by
  have hm2 : W.cell? ⟨Bm, o, none⟩ = some (.map none) := (hW.cell (p := ⟨Bm, o, none⟩) hBm).trans hm
  clear hm
  refine callsIn_of_wp Tryz.func187 rfl trivial ?_ rfl
  simp only [Tryz.ntmps187, List.size_toArray, List.length_cons, List.length_nil, Nat.reduceAdd, Nat.reduceSub, Array.replicate_succ, Array.replicate_zero, List.push_toArray, List.append_toArray, List.nil_append, List.cons_append]
  have hrg := run_range_nilMap (P := Tryz.prog) W 151 3 4 Tryz.underlying151
  have hnx : ∀ ty, (Instr.next (.pointer (some ⟨W.heap.size, 0, none⟩)) false ty).run Tryz.prog (W.alloc (.mapIter none 0 #[] 0)) = _ := fun ty => run_next_nilMap _ ty 0 0 #[]
  gi_wp2
  refine wpIn_loop_rounds 1 ?_
  rw [roundsIn_succ]
  gi_wp2
  go_end0
  exact ⟨⟨_, rfl⟩, [], rfl, hJ [] W _ none h0 (World.grownBy_alloc W _ none) (fun r e => by cases e)⟩

theorem Tryz.sortsK : Go.NL.SortsK Tryz.prog 3 4 131 187 := by
  refine ⟨Tryz.underlying3, fun Bm o b nn D0 R w hBm hm hown hmax hbytes => ?_, fun Bm o w hBm hm => ?_⟩
  · have cS := AnyZI.sorted_in Tryz.sortedA Fence.wide 5 trivial trivial trivial trivial rfl (by omega) (Tryz.sortsA _) (enters_of Tryz.func186 (by kernel_rfl) rfl) 187 #[.pointer (some ⟨Bm, o, none⟩)] trivial (enters_of Tryz.func187 (by kernel_rfl) rfl) _ _ hmax hbytes _ (Tryz.keysGives Bm o b nn D0 w hBm hm hown)
    exact (callsIn_wide (n := 5)).1 cS
  · have cS := AnyZI.sorted_in Tryz.sortedA Fence.wide 5 trivial trivial trivial trivial rfl (by omega) (Tryz.sortsA _) (enters_of Tryz.func186 (by kernel_rfl) rfl) 187 #[.pointer (some ⟨Bm, o, none⟩)] trivial (enters_of Tryz.func187 (by kernel_rfl) rfl) _ 0 (Nat.zero_le _) (by omega) _ (Tryz.keysNone Bm o w hBm hm)
    refine ((callsIn_wide (n := 5)).1 cS).mono fun e w' h => ?_
    obtain ⟨v, ss, rfl, rfl, hrow, hnil, hb⟩ := h
    exact ⟨by rw [hnil.2 rfl], hb⟩

end Go.Proofs
