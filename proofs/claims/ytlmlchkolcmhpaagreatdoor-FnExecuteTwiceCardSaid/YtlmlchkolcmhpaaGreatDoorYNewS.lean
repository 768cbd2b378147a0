/-
  Contracts: spec.l14New, spec.PatternStep.
-/
import Derived.Test.YtlmlchkolcmhpaaGreatDoorYNeedS
namespace Go.Proofs.YtlmlchkolcmhpaaGreatDoor
open Go.RowKit
open Go.TextMath (tvB mvB)

/-- The four cells of a rectangle. -/
def plA (i j k l : Nat) : List (Nat × Nat) := [(i, j), (i, l), (k, j), (k, l)]
def sumA (T : List (List Int)) (M : List (List Bool)) (ps : List (Nat × Nat)) : Int := (ps.map fun p => costC T M p.1 p.2).sum
def manyA (M : List (List Bool)) (ps : List (Nat × Nat)) : Nat := (ps.map fun p => if flagM M p.1 p.2 then 0 else 1).sum
theorem plA_take (i j k l : Nat) {z : Nat} (hz : z < 4) : (plA i j k l).take (z + 1) = (plA i j k l).take z ++ [(plA i j k l).getD z (0, 0)] := by
  match z, hz with
  | 0, _ => rfl
  | 1, _ => rfl
  | 2, _ => rfl
  | 3, _ => rfl
theorem sumA_next (T : List (List Int)) (M : List (List Bool)) (i j k l : Nat) {z : Nat} (hz : z < 4) : sumA T M ((plA i j k l).take (z + 1)) = sumA T M ((plA i j k l).take z) + costC T M ((plA i j k l).getD z (0, 0)).1 ((plA i j k l).getD z (0, 0)).2 := by
  rw [plA_take i j k l hz]
  simp [sumA]
theorem manyA_next (M : List (List Bool)) (i j k l : Nat) {z : Nat} (hz : z < 4) : manyA M ((plA i j k l).take (z + 1)) = manyA M ((plA i j k l).take z) + if flagM M ((plA i j k l).getD z (0, 0)).1 ((plA i j k l).getD z (0, 0)).2 then 0 else 1 := by
  rw [plA_take i j k l hz]
  simp [manyA]
theorem sumA_all (T : List (List Int)) (M : List (List Bool)) (i j k l : Nat) : sumA T M ((plA i j k l).take 4) = costM T M i j k l := by
  simp [sumA, plA, costM]
  omega
theorem manyA_all (M : List (List Bool)) (i j k l : Nat) : 0 < manyA M ((plA i j k l).take 4) ↔ openM M i j k l = true := by
  simp only [manyA, plA, openM, List.take, List.map_cons, List.map_nil, List.sum_cons, List.sum_nil]
  cases flagM M i j <;> cases flagM M i l <;> cases flagM M k j <;> cases flagM M k l <;> simp
theorem plA_in {i j k l h q : Nat} (hi : i < h) (hj : j < q) (hk : k < h) (hl : l < q) {z : Nat} (hz : z < 4) : ((plA i j k l).getD z (0, 0)).1 < h ∧ ((plA i j k l).getD z (0, 0)).2 < q := by
  match z, hz with
  | 0, _ => exact ⟨hi, hj⟩
  | 1, _ => exact ⟨hi, hl⟩
  | 2, _ => exact ⟨hk, hj⟩
  | 3, _ => exact ⟨hk, hl⟩

set_option maxRecDepth 100000 in
set_option maxHeartbeats 8000000 in
theorem newS (tb ct : Nat) (T : List (List Int)) (mb cm : Nat) (M : List (List Bool)) (i j k l : Nat) (w : World) (hr : Tab .i64 w (some ⟨tb, 0, none⟩) tb 0 T) (hm : TabB w (some ⟨mb, 0, none⟩) mb 0 M) (hv : mvB T M = true) (hi : i < T.length) (hj : j < (T.getD 0 []).length) (hk : k < T.length) (hl : l < (T.getD 0 []).length) :
    Calls Tryz.prog 160 #[.slice (some ⟨tb, 0, none⟩) T.length ct, .slice (some ⟨mb, 0, none⟩) T.length cm, .int .i64 (i : Int), .int .i64 (j : Int), .int .i64 (k : Int), .int .i64 (l : Int)] w fun e w' => ∃ m : Nat, e = .returned (.tuple #[.int .i64 (costM T M i j k l), .int .i64 (m : Int)]) ∧ (0 < m ↔ openM M i j k l = true) ∧ Below w.heap.size w w' := by
  have htv := (mv_t.1 hv).1
  have hf := fitM_of hv
  obtain ⟨hT1, hT4, hC1, hC4, hT5⟩ := tv_t.1 htv
  have RT : Rect T T.length (T.getD 0 []).length := ⟨rfl, fun k hk => (hT5 k hk).1⟩
  have RM : Rect M T.length (T.getD 0 []).length := ⟨hf.1, hf.2⟩
  have HTC := Lib.hid (fun z (hz : z < 4) => RT.cellI hr (plA_in hi hj hk hl hz).1 (plA_in hi hj hk hl hz).2)
  have HMC := Lib.hid (fun z (hz : z < 4) => RM.cellB hm (plA_in hi hj hk hl hz).1 (plA_in hi hj hk hl hz).2)
  have HPI := Lib.hid (fun z (hz : z < 4) => plA_in hi hj hk hl hz)
  have HCB := Lib.hid (fun z (hz : z < 4) => (show 0 ≤ cellT T ((plA i j k l).getD z (0, 0)).1 ((plA i j k l).getD z (0, 0)).2 ∧ cellT T ((plA i j k l).getD z (0, 0)).1 ((plA i j k l).getD z (0, 0)).2 ≤ 99 from ⟨(tv_bounds htv).1 _ (plA_in hi hj hk hl hz).1 _ (plA_in hi hj hk hl hz).2, (tv_bounds htv).2 _ (plA_in hi hj hk hl hz).1 _ (plA_in hi hj hk hl hz).2⟩))
  have HSN := Lib.hid (fun z (hz : z < 4) => sumA_next T M i j k l hz)
  have HMN := Lib.hid (fun z (hz : z < 4) => manyA_next M i j k l hz)
  have HSA := Lib.hid (sumA_all T M i j k l)
  have HMA := Lib.hid (manyA_all M i j k l)
  obtain ⟨q, hq⟩ : ∃ q, (T.getD 0 []).length = q := ⟨_, rfl⟩
  rw [hq] at HTC HMC HPI
  obtain ⟨h, hh⟩ : ∃ h, T.length = h := ⟨_, rfl⟩
  rw [hh] at HPI ⊢
  clear hr hm hv htv hf hT1 hT4 hC1 hC4 hT5 RT RM hq hh hi hj hk hl
  go_enter Tryz.func160, Tryz.ntmps160
  go_wp2_with fail
  have hB2 : Below w.heap.size w ((w.alloc (.cells #[.int .i64 (i : Int), .int .i64 (i : Int), .int .i64 (k : Int), .int .i64 (k : Int)] 3)).alloc (.cells #[.int .i64 (j : Int), .int .i64 (l : Int), .int .i64 (j : Int), .int .i64 (l : Int)] 3)) := (((Below.refl _ _).alloc (Nat.le_refl _) _).alloc (by simp) _)
  have hs1 : (w.alloc (.cells #[.int .i64 (i : Int), .int .i64 (i : Int), .int .i64 (k : Int), .int .i64 (k : Int)] 3)).heap.size = w.heap.size + 1 := World.size_alloc _ _
  have HRC := Lib.hid (show ∀ z, z < 4 → ((w.alloc (.cells #[.int .i64 (i : Int), .int .i64 (i : Int), .int .i64 (k : Int), .int .i64 (k : Int)] 3)).alloc (.cells #[.int .i64 (j : Int), .int .i64 (l : Int), .int .i64 (j : Int), .int .i64 (l : Int)] 3)).cell? ⟨w.heap.size, z, none⟩ = some (.int .i64 ((((plA i j k l).getD z (0, 0)).1 : Nat) : Int)) from fun z hz => by
    refine (((Below.refl (w.alloc (.cells #[.int .i64 (i : Int), .int .i64 (i : Int), .int .i64 (k : Int), .int .i64 (k : Int)] 3)).heap.size _).alloc (Nat.le_refl _) _).cell (p := ⟨w.heap.size, z, none⟩) (by show w.heap.size < _; rw [hs1]; omega)).trans ?_
    rw [World.cell?_alloc_new]
    match z, hz with
    | 0, _ => rfl
    | 1, _ => rfl
    | 2, _ => rfl
    | 3, _ => rfl)
  have HCC := Lib.hid (show ∀ z, z < 4 → ((w.alloc (.cells #[.int .i64 (i : Int), .int .i64 (i : Int), .int .i64 (k : Int), .int .i64 (k : Int)] 3)).alloc (.cells #[.int .i64 (j : Int), .int .i64 (l : Int), .int .i64 (j : Int), .int .i64 (l : Int)] 3)).cell? ⟨w.heap.size + 1, z, none⟩ = some (.int .i64 ((((plA i j k l).getD z (0, 0)).2 : Nat) : Int)) from fun z hz => by
    rw [← hs1, World.cell?_alloc_new]
    match z, hz with
    | 0, _ => rfl
    | 1, _ => rfl
    | 2, _ => rfl
    | 3, _ => rfl)
  obtain ⟨V, hV⟩ : ∃ V, ((w.alloc (.cells #[.int .i64 (i : Int), .int .i64 (i : Int), .int .i64 (k : Int), .int .i64 (k : Int)] 3)).alloc (.cells #[.int .i64 (j : Int), .int .i64 (l : Int), .int .i64 (j : Int), .int .i64 (l : Int)] 3)) = V := ⟨_, rfl⟩
  rw [hV] at hB2 HRC HCC ⊢
  have HB2 := Lib.hid hB2
  clear hB2 hV hs1
  go_loopw [14, 15, 18] (fun s m t W => ∃ z : Nat, z ≤ 4 ∧ t = .int .i64 z ∧ s = .int .i64 (sumA T M ((plA i j k l).take z)) ∧ m = .int .i64 ((manyA M ((plA i j k l).take z) : Nat) : Int) ∧ (0 ≤ sumA T M ((plA i j k l).take z) ∧ sumA T M ((plA i j k l).take z) ≤ 400 * z ∧ manyA M ((plA i j k l).take z) ≤ z) ∧ ∃ y, W = V.drewN y) (fun _ _ t _ => 4 - (intOf t).toNat)
  case atStart => exact ⟨0, by omega, rfl, rfl, rfl, ⟨by simp [sumA], by simp [sumA], by simp [manyA]⟩, 0, rfl⟩
  case round =>
    obtain ⟨z, hz, rfl, rfl, rfl, ⟨g1, g2, g3⟩, y, rfl⟩ := hrel
    by_cases hlt : z < 4
    · obtain ⟨b1, o1, c1, r1, r2, r3, r4, r5⟩ := HTC.out z hlt
      obtain ⟨b2, o2, c2, m1, m2, m3, m4, m5⟩ := HMC.out z hlt
      have hcb := HCB.out z hlt
      have hpi := HPI.out z hlt
      have hrc := HRC.out z hlt
      have hcc := HCC.out z hlt
      have hsn := HSN.out z hlt
      have hmn := HMN.out z hlt
      unfold costC at hsn
      obtain ⟨⟨pa, pc⟩, hp⟩ : ∃ p, (plA i j k l).getD z (0, 0) = p := ⟨_, rfl⟩
      rw [hp] at r1 r2 m1 m2 hcb hpi hrc hcc hsn hmn
      obtain ⟨S, hS⟩ : ∃ S, sumA T M ((plA i j k l).take z) = S := ⟨_, rfl⟩
      obtain ⟨Mm, hMm⟩ : ∃ Mm, manyA M ((plA i j k l).take z) = Mm := ⟨_, rfl⟩
      obtain ⟨x, hx⟩ : ∃ x, cellT T pa pc = x := ⟨_, rfl⟩
      obtain ⟨fl, hfl⟩ : ∃ fl, flagM M pa pc = fl := ⟨_, rfl⟩
      simp only at r1 r2 m1 m2 hcb hpi hrc hcc hsn hmn
      rw [hS] at g1 g2 hsn ⊢
      rw [hMm] at g3 hmn ⊢
      rw [hx] at r2 hcb hsn
      rw [hfl] at m2 hsn hmn
      have v1 : V.cell? ⟨tb, pa, none⟩ = some (.slice (some ⟨b1, o1, none⟩) q c1) := (HB2.out.cell (p := ⟨tb, pa, none⟩) r4).trans r1
      have v2 : V.cell? ⟨b1, o1 + pc, none⟩ = some (.int .i64 x) := (HB2.out.cell (p := ⟨b1, o1 + pc, none⟩) r5).trans r2
      have v3 : V.cell? ⟨mb, pa, none⟩ = some (.slice (some ⟨b2, o2, none⟩) q c2) := (HB2.out.cell (p := ⟨mb, pa, none⟩) m4).trans m1
      have v4 : V.cell? ⟨b2, o2 + pc, none⟩ = some (.bool fl) := (HB2.out.cell (p := ⟨b2, o2 + pc, none⟩) m5).trans m2
      have hz4 : (z : Int) < 4 := by omega
      have hpa : (pa : Int) < (h : Int) := by omega
      have hpc : (pc : Int) < (q : Int) := by omega
      clear r1 r2 m1 m2 hp hS hMm hx hfl
      cases fl with
      | true =>
        rw [if_pos rfl] at hsn hmn
        have HS := Lib.hid hsn
        have HM := Lib.hid hmn
        clear hsn hmn
        go_wp2_with fail
        go_quiet (fail)
        go_wp2_with fail
        go_roundw
        case rel => exact ⟨z + 1, by omega, by go_num, by rw [HS.out] <;> go_num, by rw [HM.out] <;> go_num, ⟨by rw [HS.out]; omega, by rw [HS.out]; omega, by rw [HM.out]; omega⟩, _, rfl⟩
        case measure => simp [intOf]; omega
      | false =>
        rw [if_neg (by decide)] at hsn hmn
        have HS := Lib.hid hsn
        have HM := Lib.hid hmn
        clear hsn hmn
        go_wp2_with fail
        go_quiet (fail)
        go_wp2_with fail
        go_quiet (fail)
        go_wp2_with fail
        go_roundw
        case rel => exact ⟨z + 1, by omega, by go_num, by rw [HS.out] <;> go_num, by rw [HM.out] <;> go_num, ⟨by rw [HS.out]; omega, by rw [HS.out]; omega, by rw [HM.out]; omega⟩, _, rfl⟩
        case measure => simp [intOf]; omega
    · obtain rfl : z = 4 := by omega
      have HFIN := Lib.hid (show Below w.heap.size w (V.drewN y) from HB2.out.trans ((below_draws V y).mono HB2.out.size))
      go_wp2_with fail
      go_ret2
      exact ⟨_, by rw [HSA.out] <;> rfl, HMA.out, HFIN.out⟩
end Go.Proofs.YtlmlchkolcmhpaaGreatDoor
