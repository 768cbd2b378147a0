/-
  Contract: slices.Repeat of a slice that holds -1 alone.
-/
import Derived.Test.YtcjhenfofekofaaGreatDoorShelf
import Derived.Test.YtcjhenfofekofaaGreatDoorJ1
import Derived.IntWalk
import Derived.Carry
import Derived.OrdersHeld
import Derived.Deep.RegionHeld
import Derived.Laws.IdiomCopy
namespace Go.Proofs.YtcjhenfofekofaaGreatDoor
open Go.RowKit

def repF (n i : Nat) : Value := if i < n then .int .i64 (-1) else .int .i64 0
theorem rowIs_sets {b n : Nat} {t : TypeId} (vs : List Value) : ∀ {W : World} {f : Nat → Value} (o : Nat), W.rowIs b t n f → (W.setCells b o vs).rowIs b t n (fun i => if o ≤ i ∧ i < o + vs.length then vs.getD (i - o) undef else f i) := by
  induction vs with
  | nil => intro W f o h; exact h.congr fun i _ => by rw [if_neg (by rintro ⟨h1, h2⟩; rw [List.length_nil] at h2; omega)]
  | cons v r ih =>
    intro W f o h
    refine (ih (o + 1) (h.set o v)).congr fun i _ => ?_
    rw [List.length_cons]
    by_cases h1 : i = o
    · subst h1
      rw [if_neg (by omega), if_pos (by omega), Nat.sub_self]
      simp
    · by_cases h2 : o ≤ i ∧ i < o + (r.length + 1)
      · rw [if_pos (by omega), if_pos h2, show i - o = (i - (o + 1)) + 1 by omega, List.getD_cons_succ]
      · rw [if_neg (by omega), if_neg h2, if_neg h1]
theorem own_of_row {W : World} {b n base : Nat} {f : Nat → Value} {xs : List Int} (h : W.rowIs b 3 n f) (hb : base ≤ b) (hn : n ≤ 1000000) (hx : xs.length = n) (hf : ∀ i, i < n → f i = .int .i64 (xs.getD i 0)) : Own W base (.slice (some ⟨b, 0, none⟩) n n) xs := by
  obtain ⟨cur, hh, hs, hc⟩ := h
  subst hx
  refine ⟨by simp, .inr ⟨b, xs.length, cur, rfl, hb, hh, Nat.le_refl _, by unfold maxLen; omega, by rw [hs, Nat.mul_one], ?_⟩⟩
  apply List.ext_getElem
  · simp [hs]
  · intro i h1 h2
    have hi : i < xs.length := by simpa using h2
    have h3 := hc i hi
    rw [hf i hi] at h3
    simp only [List.getElem_take, Array.getElem_toList, List.getElem_map]
    rw [Array.getElem?_eq_getElem (by omega)] at h3
    rw [Option.some.inj h3, List.getD_eq_getElem?_getD, List.getElem?_eq_getElem hi, Option.getD_some]
theorem below_cells {b B : Nat} (hB : B ≤ b) (vs : List Value) : ∀ (w w0 : World) (o : Nat), Below B w0 w → Below B w0 (w.setCells b o vs) := by
  induction vs with
  | nil => intro w w0 o h; exact h
  | cons v r ih => intro w w0 o h; exact ih _ _ _ (h.setCell (p := ⟨b, o, none⟩) hB _)
theorem repF_copy (n m : Nat) (i : Nat) : (if n ≤ i ∧ i < n + (List.replicate m (Value.int .i64 (-1))).length then (List.replicate m (Value.int .i64 (-1))).getD (i - n) undef else repF n i) = repF (n + m) i := by
  rw [List.length_replicate]
  unfold repF
  by_cases h : n ≤ i ∧ i < n + m
  · rw [if_pos h, if_pos h.2]
    simp [List.getD_eq_getElem?_getD, List.getElem?_replicate, show i - n < m by omega]
  · rw [if_neg h]
    by_cases h2 : i < n
    · rw [if_pos h2, if_pos (by omega)]
    · rw [if_neg h2, if_neg (by omega)]

set_option maxRecDepth 100000 in
set_option maxHeartbeats 2000000 in
theorem repI (b N : Nat) (w : World) (hc : w.cell? ⟨b, 0, none⟩ = some (.int .i64 (-1))) (h1 : 1 ≤ N) (hN : N ≤ 100) :
    Calls Tryz.prog 138 #[.slice (some ⟨b, 0, none⟩) 1 1, .int .i64 (N : Int)] w fun e w' => ∃ v, e = .returned v ∧ Own w' w.heap.size v (List.replicate N (-1)) ∧ Below w.heap.size w w' := by
  have hmk : ∀ W : World, (Instr.makeSlice 50 (.int .i64 (N : Int)) (.int .i64 (N : Int))).run Tryz.prog W = .ok (.slice (some ⟨W.heap.size, 0, none⟩) N N) (W.alloc (.cells (madeCells #[.int .i64 0] N) 3)) :=
    fun W => run_make_row' 50 3 _ 8 Tryz.underlying50 Tryz.info3 rfl .i64 .i64 N (by omega) (by omega) W
  have HBM := Lib.hid (fun W : World => Tryz.bits_Mul 1 N (by omega) (by omega) W)
  have e0 : 1 * N / 18446744073709551616 = 0 := by omega
  have e1 : 1 * N % 18446744073709551616 = N := by omega
  rw [e0, e1] at HBM
  have hk1 : IntKind.u64.wrap (N : Int) = (N : Int) := by unfold IntKind.wrap; simp [IntKind.bits, IntKind.signed]; omega
  have hk2 : IntKind.i64.wrap (N : Int) = (N : Int) := IntWalk.i64_in _ ⟨by omega, by omega⟩
  have HC := Lib.hid hc
  have hbl : b < w.heap.size := World.block_lt_of_cell? _ _ hc
  clear e0 e1 hc
  go_enter Tryz.func138, Tryz.ntmps138
  go_wp2_with fail
  refine (HBM.out w).mono ?_
  rintro e w1 ⟨rfl, rfl⟩
  have hr0 := World.rowIs_made w1 (.int .i64 0) N 3
  have hcp0 : ∀ ty, (Builtin.copy_ #[50, 50] ty #[.slice (some ⟨w1.heap.size, 0, none⟩) N N, .slice (some ⟨b, 0, none⟩) 1 1]).run Tryz.prog (w1.alloc (.cells (madeCells #[.int .i64 0] N) 3)) = .ok (.int .i64 1) ((w1.alloc (.cells (madeCells #[.int .i64 0] N) 3)).setCells w1.heap.size 0 [.int .i64 (-1)]) := fun ty =>
    run_copy_cells _ _ _ ty 3 w1.heap.size 0 N N ⟨b, 0, none⟩ 1 1 [.int .i64 (-1)] Tryz.underlying50 (by kernel_rfl) (by show 1 = min 1 N; omega) (fun j v hj => by
      match j, hj with
      | 0, hj =>
        simp at hj
        subst hj
        rw [Addr.add_lit]
        exact (((Below.refl w1.heap.size w1).alloc (Nat.le_refl _) (.cells (madeCells #[.int .i64 0] N) 3)).cell (p := ⟨b, 0, none⟩) hbl).trans HC.out) (fun j hj => by
      have : j < N := by simp at hj; omega
      rw [Nat.zero_add, hr0.cell this]; rfl) (fun j hj => by rw [Nat.zero_add]; exact hr0.frozen j) (by intro v hv; simp at hv; subst hv; rfl)
  have hr1 := rowIs_sets [.int .i64 (-1)] 0 hr0
  have hb1 := below_cells (Nat.le_refl w1.heap.size) [.int .i64 (-1)] _ w1 0 ((Below.refl w1.heap.size w1).alloc (Nat.le_refl _) (.cells (madeCells #[.int .i64 0] N) 3))
  have HR1 : Hid (((w1.alloc (.cells (madeCells #[.int .i64 0] N) 3)).setCells w1.heap.size 0 [.int .i64 (-1)]).rowIs w1.heap.size 3 N (repF 1)) := Lib.hid (hr1.congr fun i _ => by
    unfold repF
    by_cases h : i < 1
    · obtain rfl : i = 0 := by omega
      simp
    · rw [if_neg h, if_neg (by simp; omega)])
  have HB1 := Lib.hid hb1
  obtain ⟨B0, hB0⟩ : ∃ B0, w1.heap.size = B0 := ⟨_, rfl⟩
  obtain ⟨V1, hV1⟩ : ∃ V1, (w1.alloc (.cells (madeCells #[.int .i64 0] N) 3)).setCells w1.heap.size 0 [.int .i64 (-1)] = V1 := ⟨_, rfl⟩
  rw [hV1] at hcp0 HR1 HB1
  rw [hB0] at HR1 HB1 hcp0
  have HS := Lib.hid hB0
  clear hr0 hr1 hb1 hV1 hbl HC
  go_wp2_with fail
  clear hcp0 hmk hB0
  go_loopw [8] (fun i wr => ∃ n : Nat, 1 ≤ n ∧ n ≤ N ∧ i = .int .i64 n ∧ wr.rowIs B0 3 N (repF n) ∧ Below B0 w1 wr) (fun i _ => N - (intOf i).toNat)
  case atStart => exact ⟨1, Nat.le_refl _, h1, rfl, HR1.out, HB1.out⟩
  case round =>
    clear HR1 HB1
    obtain ⟨n, hn1, hnN, rfl, hr, hb⟩ := hrel
    by_cases hlt : n < N
    · have hni : (n : Int) < (N : Int) := by omega
      have hnn : ¬ N = n := by omega
      have hnl : n ≤ N := by omega
      have hnli : (n : Int) ≤ (N : Int) := by omega
      obtain ⟨m, hm⟩ : ∃ m, min n (N - n) = m := ⟨_, rfl⟩
      have hm1 : 1 ≤ m := by omega
      have hmn : n + m ≤ N := by omega
      have hcp : ∀ ty, (Builtin.copy_ #[50, 50] ty #[.slice (some ⟨B0, n, none⟩) (N - n) (N - n), .slice (some ⟨B0, 0, none⟩) n N]).run Tryz.prog wr.drew = .ok (.int .i64 (m : Int)) (wr.drew.setCells B0 n (List.replicate m (.int .i64 (-1)))) := fun ty => by
        have := run_copy_cells (P := Tryz.prog) wr.drew 50 50 ty 3 B0 n (N - n) (N - n) ⟨B0, 0, none⟩ n N (List.replicate m (.int .i64 (-1))) Tryz.underlying50 (by kernel_rfl) (by rw [List.length_replicate]; exact hm.symm) (fun j v hj => by
          rw [List.getElem?_replicate] at hj
          split at hj
          · cases hj
            rw [Addr.add_lit, Nat.zero_add]
            have h2 := hr.cell (i := j) (by omega)
            unfold repF at h2
            rw [if_pos (by omega)] at h2
            exact h2
          · cases hj) (fun j hj => by
          rw [List.length_replicate] at hj
          show (wr.cell? _).isSome = true
          rw [hr.cell (by omega)]; rfl) (fun j _ => hr.frozen _) (by intro v hv; rw [List.eq_of_mem_replicate hv]; rfl)
        rw [List.length_replicate] at this
        exact this
      have HR := Lib.hid (show (wr.drew.setCells B0 n (List.replicate m (.int .i64 (-1)))).rowIs B0 3 N (repF (n + m)) from (rowIs_sets _ n (show wr.drew.rowIs B0 3 N (repF n) from hr)).congr fun i _ => repF_copy n m i)
      have HB := Lib.hid (below_cells (Nat.le_refl B0) (List.replicate m (.int .i64 (-1))) wr.drew w1 n hb.drew)
      have hwr : IntKind.i64.wrap ((n : Int) + (m : Int)) = ((n + m : Nat) : Int) := by rw [IntWalk.i64_in _ ⟨by omega, by omega⟩]; rfl
      obtain ⟨q, hq⟩ : ∃ q, n + m = q := ⟨_, rfl⟩
      rw [hq] at hwr HR hmn
      have hq1 : n < q := by omega
      clear hr hb hm hq
      go_wp2_with fail
      refine wp_region_held (S := (fun _ => True)) (by kernel_rfl) ?_
      change wpAnyH _ _ _ _ _ _ _ _ wr.drew
      refine wpAnyH_take (i := 0) (v := .int .i64 (n : Int)) rfl (by kernel_rfl) (by kernel_rfl) (by kernel_rfl) (fun _ _ _ h => h) (Or.inl ⟨by kernel_rfl, fun V hV => ?_⟩) trivial ?_
      · clear hV
        go_simp
      simp only [Act.put, List.setIfInBounds_toArray, List.set_cons_zero, List.set_cons_succ]
      refine wpAnyH_take (i := 1) (v := .slice (some ⟨B0, 0, none⟩) N N) rfl (by kernel_rfl) (by kernel_rfl) (by kernel_rfl) (fun _ _ _ h => h) (Or.inl ⟨by kernel_rfl, fun V hV => ?_⟩) trivial ?_
      · clear hV
        go_simp
      simp only [Act.put, List.setIfInBounds_toArray, List.set_cons_zero, List.set_cons_succ]
      refine wpAnyH_take (i := 2) (v := .int .i64 (n : Int)) rfl (by kernel_rfl) (by kernel_rfl) (by kernel_rfl) (fun _ _ _ h => h) (Or.inl ⟨by kernel_rfl, fun V hV => ?_⟩) trivial ?_
      · clear hV
        go_simp
      simp only [Act.put, List.setIfInBounds_toArray, List.set_cons_zero, List.set_cons_succ]
      refine wpAnyH_take (i := 3) (v := .slice (some ⟨B0, n, none⟩) (N - n) (N - n)) rfl (by kernel_rfl) (by kernel_rfl) (by kernel_rfl) (fun _ _ _ h => h) (Or.inl ⟨by kernel_rfl, fun V hV => ?_⟩) trivial ?_
      · clear hV
        go_simp
      simp only [Act.put, List.setIfInBounds_toArray, List.set_cons_zero, List.set_cons_succ]
      refine wpAnyH_take (i := 4) (v := .slice (some ⟨B0, 0, none⟩) N N) rfl (by kernel_rfl) (by kernel_rfl) (by kernel_rfl) (fun _ _ _ h => h) (Or.inl ⟨by kernel_rfl, fun V hV => ?_⟩) trivial ?_
      · clear hV
        go_simp
      simp only [Act.put, List.setIfInBounds_toArray, List.set_cons_zero, List.set_cons_succ]
      refine wpAnyH_take (i := 5) (v := .int .i64 (n : Int)) rfl (by kernel_rfl) (by kernel_rfl) (by kernel_rfl) (fun _ _ _ h => h) (Or.inl ⟨by kernel_rfl, fun V hV => ?_⟩) trivial ?_
      · clear hV
        go_simp
      simp only [Act.put, List.setIfInBounds_toArray, List.set_cons_zero, List.set_cons_succ]
      refine wpAnyH_take (i := 6) (v := .slice (some ⟨B0, 0, none⟩) n N) rfl (by kernel_rfl) (by kernel_rfl) (by kernel_rfl) (fun _ _ _ h => h) (Or.inl ⟨by kernel_rfl, fun V hV => ?_⟩) trivial ?_
      · clear hV
        go_simp
      simp only [Act.put, List.setIfInBounds_toArray, List.set_cons_zero, List.set_cons_succ]
      refine wpAnyH_ready (rs := [7]) (by kernel_rfl) (by simp) ?_
      refine AllReadyH.cons (o := ⟨some 45, _, _, _, _, _⟩) rfl (fun K hK => ?_) AllReadyH.nil
      go_simp
      refine hK.out _ _ trivial (fun _ => ?_)
      try simp only [Act.put, List.setIfInBounds_toArray, List.set_cons_zero, List.set_cons_succ]
      clear hK K
      refine wpAnyH_take (i := 8) (oi := ⟨some 46, _, _, _, _, _⟩) (v := .int .i64 (q : Int)) rfl (by kernel_rfl) (by kernel_rfl) (by kernel_rfl) (fun _ _ _ h => h) (Or.inl ⟨by kernel_rfl, fun V hV => ?_⟩) trivial ?_
      · clear hV
        go_simp
      simp only [Act.put, List.setIfInBounds_toArray, List.set_cons_zero, List.set_cons_succ]
      refine wpAnyH_take (i := 9) (oi := ⟨some 8, _, _, _, _, _⟩) (v := .int .i64 (q : Int)) rfl (by kernel_rfl) (by kernel_rfl) (by kernel_rfl) (fun _ _ _ h => h) (Or.inl ⟨by kernel_rfl, fun V hV => ?_⟩) trivial ?_
      · clear hV
        go_simp
      simp only [Act.put, List.setIfInBounds_toArray, List.set_cons_zero, List.set_cons_succ]
      refine wpAnyH_done (by kernel_rfl) ?_ _
      obtain ⟨V2, hV2⟩ : ∃ V2, wr.drew.setCells B0 n (List.replicate m (.int .i64 (-1))) = V2 := ⟨_, rfl⟩
      rw [hV2] at HR HB ⊢
      clear hV2 hcp
      go_wp2_with fail
      go_roundw
      case rel => exact ⟨q, by omega, hmn, rfl, HR.out, HB.out⟩
      case measure => simp [intOf]; omega
    · obtain rfl : n = N := by omega
      have HR := Lib.hid hr
      have HB := Lib.hid hb
      clear hr hb
      go_wp2_with fail
      go_ret
      refine ⟨_, rfl, own_of_row HR.out (by rw [HS.out]; exact Nat.le_refl _) (by omega) (by simp) (fun i hi => ?_), by rw [HS.out]; exact HB.out⟩
      unfold repF
      rw [if_pos hi]
      simp [List.getD_eq_getElem?_getD, List.getElem?_replicate, hi]
end Go.Proofs.YtcjhenfofekofaaGreatDoor
