/-
  Contract: spec.PeopleFrom.
-/
import Derived.Test.YthncpnopplhlkaaDoorTfS
import Derived.Test.YthncpnopplhlkaaDoorPfI
namespace Go.Proofs.YthncpnopplhlkaaDoor
open Go.RowKit
open Go.ParseMath

theorem rowsS_len (l : List UInt8) : (rowsS l).length ≤ l.length := by
  unfold rowsS
  rw [List.length_map, List.length_dropLast, cutL_length]
  have := List.count_le_length (a := (10 : UInt8)) (l := l)
  omega
theorem all4_take {T : List (List Int)} {k : Nat} (h : k < T.length) (h1 : all4 (T.take k) = true) (h2 : (T.getD k []).length = 4) : all4 (T.take (k + 1)) = true := by
  rw [all4_t] at h1 ⊢
  intro r hr
  rw [take_one (d := []) h, List.mem_append, List.mem_singleton] at hr
  rcases hr with hr | rfl
  · exact h1 r hr
  · exact h2
theorem all4_at {T : List (List Int)} {k : Nat} (h : k < T.length) (h2 : (T.getD k []).length ≠ 4) : all4 T = false := by
  rw [Bool.eq_false_iff]
  intro h3
  exact h2 (all4_t.1 h3 _ (getD_mem h))

set_option maxHeartbeats 2000000 in
set_option maxRecDepth 100000 in
theorem pfS (s : ByteArray) (hs : s.size ≤ 100000000) (w : World) :
    Calls Tryd.prog 23 #[.string s] w (PfP s.data.toList w) := by
  go_enter Tryd.func23, Tryd.ntmps23
  go_wp2_with fail
  refine (rowsS_any s hs w).mono ?_
  rintro e w1 ⟨v, g, rfl, hm, hb⟩
  have HB := Lib.hid hb
  obtain ⟨ao, tb, cap, rfl, hc1, hc2, h0, hcs, hel⟩ := hm.cells
  have HC := Lib.hid hcs
  have HE := Lib.hid hel
  have hsz := hb.size
  have htl := rowsS_len s.data.toList
  have hsl : s.data.toList.length = s.size := rfl
  obtain ⟨T, hT⟩ : ∃ T, rowsS s.data.toList = T := ⟨_, rfl⟩
  rw [hT] at hc1 h0 HC HE htl ⊢
  have HT := Lib.hid hT
  have H0 := Lib.hid h0
  have HTL : Hid (T.length ≤ 100000000) := Lib.hid (by omega)
  clear hm hb hcs hel hT h0 htl hsl
  have HN : Hid (OwnPpl (w1.alloc (.cells #[] 47)) w1.heap.size (.slice (some ⟨w1.heap.size, 0, none⟩) 0 0) []) := by
    have := World.ownsRow_lit (base := w1.heap.size) (e := 47) (size := 4) w1 #[] 0 (Nat.le_refl _) (by unfold maxLen; omega) (by simp)
    show OwnPpl _ _ _ _
    simpa [OwnPpl, pc] using this
  go_wp2_with fail
  go_loopw [5, 6] (fun o i wr => ∃ k : Nat, i = .int .i64 k ∧ k ≤ T.length ∧ OwnPpl wr w1.heap.size o ((T.take k).map perR) ∧ all4 (T.take k) = true ∧ Below w1.heap.size w1 wr) (fun _ i _ => T.length - (intOf i).toNat)
  case atStart => exact ⟨0, rfl, Nat.zero_le _, HN.out, rfl, (Below.refl _ _).alloc (Nat.le_refl _) _⟩
  case round =>

    obtain ⟨k, rfl, hk, hown, hall, hbq⟩ := hrel
    clear HN
    by_cases hlt : k < T.length
    · obtain ⟨c, hcell, hc3, hc4⟩ := HC.out k hlt
      obtain ⟨rfl, htb1, htb2⟩ := H0.out (by omega)
      have hki : (k : Int) < (T.length : Int) := by omega
      have hcw : wr.cell? ⟨tb, k, none⟩ = some (.slice (some ⟨g k, 0, none⟩) (T.getD k []).length c) := (hbq.cell (p := ⟨tb, k, none⟩) htb2).trans hcell
      by_cases h4 : (T.getD k []).length = 4
      · obtain ⟨y0, y1, y2, y3, hy⟩ : ∃ y0 y1 y2 y3, T.getD k [] = [y0, y1, y2, y3] := by
          revert h4
          generalize T.getD k [] = r
          intro h4
          match r, h4 with
          | [a, b, c, d], _ => exact ⟨a, b, c, d, rfl⟩
        have z0 := (HE.out k hlt 0 y0 (by rw [hy]; rfl)).1
        have z1 := (HE.out k hlt 1 y1 (by rw [hy]; rfl)).1
        have z2 := (HE.out k hlt 2 y2 (by rw [hy]; rfl)).1
        have z3 := (HE.out k hlt 3 y3 (by rw [hy]; rfl)).1
        rw [h4] at hcell hcw hc3
        have KS : Hid (∀ V, Below w1.heap.size w1 V → (fun V => V.cell? ⟨tb, k, none⟩ = some (.slice (some ⟨g k, 0, none⟩) 4 c) ∧ V.cell? ⟨g k, 0, none⟩ = some (.int .i64 y0) ∧ V.cell? ⟨g k, 1, none⟩ = some (.int .i64 y1) ∧ V.cell? ⟨g k, 2, none⟩ = some (.int .i64 y2) ∧ V.cell? ⟨g k, 3, none⟩ = some (.int .i64 y3)) V) := Lib.hid (fun V hV => ⟨(hV.cell (p := ⟨tb, k, none⟩) htb2).trans hcell, (hV.cell (World.block_lt_of_cell? _ _ z0)).trans z0, (hV.cell (World.block_lt_of_cell? _ _ z1)).trans z1, (hV.cell (World.block_lt_of_cell? _ _ z2)).trans z2, (hV.cell (World.block_lt_of_cell? _ _ z3)).trans z3⟩)
        have HALL := Lib.hid (all4_take hlt hall h4)
        have hlk : ((T.take k).map perR).length = k := by rw [List.length_map, List.length_take]; omega
        have hnx : (T.take (k + 1)).map perR = (T.take k).map perR ++ [⟨y0, y1, y2, y3⟩] := by rw [take_one (d := []) hlt, List.map_append, hy]; rfl
        have HSN := Lib.hid (fun (v' : Value) (w9 : World) (hh : w9.ownsRow w1.heap.size 47 4 v' (((T.take k).map perR).length + 1) (pc ((T.take k).map perR) ++ [.int .i64 y0, .int .i64 y1, .int .i64 y2, .int .i64 y3])) => (show OwnPpl w9 w1.heap.size v' ((T.take (k + 1)).map perR) by rw [hnx]; unfold OwnPpl; rw [pc_snoc, List.length_append]; exact hh))
        obtain ⟨L, hL⟩ : ∃ L, (T.take k).map perR = L := ⟨_, rfl⟩
        rw [hL] at hown hlk HSN
        have hbd : Below w1.heap.size w1 wr.drew := hbq.drew
        have HOd := Lib.hid (show wr.drew.ownsRow w1.heap.size 47 4 u5 L.length (pc L) from orow_below hown (Below.refl _ _).drew)
        have hsd : w1.heap.size ≤ wr.drew.heap.size := hbd.size
        clear hall hown hbq hnx hL hcell z0 z1 z2 z3 h4 hy
        go_wp2_with fail
        refine wp_region_held (S := (fun V => V.cell? ⟨tb, k, none⟩ = some (.slice (some ⟨g k, 0, none⟩) 4 c) ∧ V.cell? ⟨g k, 0, none⟩ = some (.int .i64 y0) ∧ V.cell? ⟨g k, 1, none⟩ = some (.int .i64 y1) ∧ V.cell? ⟨g k, 2, none⟩ = some (.int .i64 y2) ∧ V.cell? ⟨g k, 3, none⟩ = some (.int .i64 y3))) (by kernel_rfl) ?_
        change wpAnyH _ _ _ _ _ _ _ _ wr.drew
        have hS0 := KS.out _ hbd
        obtain ⟨Wd, hWd⟩ : ∃ Wd, wr.drew = Wd := ⟨_, rfl⟩
        rw [hWd] at hS0 hbd HOd hsd ⊢
        refine wpAnyH_take (i := 0) (v := u5) rfl (by kernel_rfl) (by kernel_rfl) (by kernel_rfl) (fun _ _ _ h => h) (Or.inl ⟨by rfl, fun V hV => ?_⟩) hS0 ?_
        · obtain ⟨u, u0, u1, u2, u3⟩ := hV
          go_simp
        simp only [Act.put, List.setIfInBounds_toArray, List.set_cons_zero, List.set_cons_succ]
        refine wpAnyH_take (i := 1) (v := .slice (some ⟨tb, 0, none⟩) T.length cap) rfl (by kernel_rfl) (by kernel_rfl) (by kernel_rfl) (fun _ _ _ h => h) (Or.inl ⟨by rfl, fun V hV => ?_⟩) hS0 ?_
        · obtain ⟨u, u0, u1, u2, u3⟩ := hV
          go_simp
        simp only [Act.put, List.setIfInBounds_toArray, List.set_cons_zero, List.set_cons_succ]
        refine wpAnyH_take (i := 2) (v := .int .i64 k) rfl (by kernel_rfl) (by kernel_rfl) (by kernel_rfl) (fun _ _ _ h => h) (Or.inl ⟨by rfl, fun V hV => ?_⟩) hS0 ?_
        · obtain ⟨u, u0, u1, u2, u3⟩ := hV
          go_simp
        simp only [Act.put, List.setIfInBounds_toArray, List.set_cons_zero, List.set_cons_succ]
        refine wpAnyH_take (i := 3) (v := .pointer (some ⟨tb, k, none⟩)) rfl (by kernel_rfl) (by kernel_rfl) (by kernel_rfl) (fun _ _ _ h => h) (Or.inl ⟨by rfl, fun V hV => ?_⟩) hS0 ?_
        · obtain ⟨u, u0, u1, u2, u3⟩ := hV
          go_simp
        simp only [Act.put, List.setIfInBounds_toArray, List.set_cons_zero, List.set_cons_succ]
        refine wpAnyH_take (i := 4) (v := .slice (some ⟨g k, 0, none⟩) 4 c) rfl (by kernel_rfl) (by kernel_rfl) (by kernel_rfl) (fun _ _ _ h => h) (Or.inl ⟨by rfl, fun V hV => ?_⟩) hS0 ?_
        · obtain ⟨u, u0, u1, u2, u3⟩ := hV
          go_simp
        simp only [Act.put, List.setIfInBounds_toArray, List.set_cons_zero, List.set_cons_succ]
        refine wpAnyH_take (i := 5) (v := .pointer (some ⟨g k, 0, none⟩)) rfl (by kernel_rfl) (by kernel_rfl) (by kernel_rfl) (fun _ _ _ h => h) (Or.inl ⟨by rfl, fun V hV => ?_⟩) hS0 ?_
        · obtain ⟨u, u0, u1, u2, u3⟩ := hV
          go_simp
        simp only [Act.put, List.setIfInBounds_toArray, List.set_cons_zero, List.set_cons_succ]
        refine wpAnyH_take (i := 6) (v := .int .i64 y0) rfl (by kernel_rfl) (by kernel_rfl) (by kernel_rfl) (fun _ _ _ h => h) (Or.inl ⟨by rfl, fun V hV => ?_⟩) hS0 ?_
        · obtain ⟨u, u0, u1, u2, u3⟩ := hV
          go_simp
        simp only [Act.put, List.setIfInBounds_toArray, List.set_cons_zero, List.set_cons_succ]
        refine wpAnyH_take (i := 7) (v := .slice (some ⟨tb, 0, none⟩) T.length cap) rfl (by kernel_rfl) (by kernel_rfl) (by kernel_rfl) (fun _ _ _ h => h) (Or.inl ⟨by rfl, fun V hV => ?_⟩) hS0 ?_
        · obtain ⟨u, u0, u1, u2, u3⟩ := hV
          go_simp
        simp only [Act.put, List.setIfInBounds_toArray, List.set_cons_zero, List.set_cons_succ]
        refine wpAnyH_take (i := 8) (v := .int .i64 k) rfl (by kernel_rfl) (by kernel_rfl) (by kernel_rfl) (fun _ _ _ h => h) (Or.inl ⟨by rfl, fun V hV => ?_⟩) hS0 ?_
        · obtain ⟨u, u0, u1, u2, u3⟩ := hV
          go_simp
        simp only [Act.put, List.setIfInBounds_toArray, List.set_cons_zero, List.set_cons_succ]
        refine wpAnyH_take (i := 9) (v := .pointer (some ⟨tb, k, none⟩)) rfl (by kernel_rfl) (by kernel_rfl) (by kernel_rfl) (fun _ _ _ h => h) (Or.inl ⟨by rfl, fun V hV => ?_⟩) hS0 ?_
        · obtain ⟨u, u0, u1, u2, u3⟩ := hV
          go_simp
        simp only [Act.put, List.setIfInBounds_toArray, List.set_cons_zero, List.set_cons_succ]
        refine wpAnyH_take (i := 10) (v := .slice (some ⟨g k, 0, none⟩) 4 c) rfl (by kernel_rfl) (by kernel_rfl) (by kernel_rfl) (fun _ _ _ h => h) (Or.inl ⟨by rfl, fun V hV => ?_⟩) hS0 ?_
        · obtain ⟨u, u0, u1, u2, u3⟩ := hV
          go_simp
        simp only [Act.put, List.setIfInBounds_toArray, List.set_cons_zero, List.set_cons_succ]
        refine wpAnyH_take (i := 11) (v := .pointer (some ⟨g k, 1, none⟩)) rfl (by kernel_rfl) (by kernel_rfl) (by kernel_rfl) (fun _ _ _ h => h) (Or.inl ⟨by rfl, fun V hV => ?_⟩) hS0 ?_
        · obtain ⟨u, u0, u1, u2, u3⟩ := hV
          go_simp
        simp only [Act.put, List.setIfInBounds_toArray, List.set_cons_zero, List.set_cons_succ]
        refine wpAnyH_take (i := 12) (v := .int .i64 y1) rfl (by kernel_rfl) (by kernel_rfl) (by kernel_rfl) (fun _ _ _ h => h) (Or.inl ⟨by rfl, fun V hV => ?_⟩) hS0 ?_
        · obtain ⟨u, u0, u1, u2, u3⟩ := hV
          go_simp
        simp only [Act.put, List.setIfInBounds_toArray, List.set_cons_zero, List.set_cons_succ]
        refine wpAnyH_take (i := 13) (v := .slice (some ⟨tb, 0, none⟩) T.length cap) rfl (by kernel_rfl) (by kernel_rfl) (by kernel_rfl) (fun _ _ _ h => h) (Or.inl ⟨by rfl, fun V hV => ?_⟩) hS0 ?_
        · obtain ⟨u, u0, u1, u2, u3⟩ := hV
          go_simp
        simp only [Act.put, List.setIfInBounds_toArray, List.set_cons_zero, List.set_cons_succ]
        refine wpAnyH_take (i := 14) (v := .int .i64 k) rfl (by kernel_rfl) (by kernel_rfl) (by kernel_rfl) (fun _ _ _ h => h) (Or.inl ⟨by rfl, fun V hV => ?_⟩) hS0 ?_
        · obtain ⟨u, u0, u1, u2, u3⟩ := hV
          go_simp
        simp only [Act.put, List.setIfInBounds_toArray, List.set_cons_zero, List.set_cons_succ]
        refine wpAnyH_take (i := 15) (v := .pointer (some ⟨tb, k, none⟩)) rfl (by kernel_rfl) (by kernel_rfl) (by kernel_rfl) (fun _ _ _ h => h) (Or.inl ⟨by rfl, fun V hV => ?_⟩) hS0 ?_
        · obtain ⟨u, u0, u1, u2, u3⟩ := hV
          go_simp
        simp only [Act.put, List.setIfInBounds_toArray, List.set_cons_zero, List.set_cons_succ]
        refine wpAnyH_take (i := 16) (v := .slice (some ⟨g k, 0, none⟩) 4 c) rfl (by kernel_rfl) (by kernel_rfl) (by kernel_rfl) (fun _ _ _ h => h) (Or.inl ⟨by rfl, fun V hV => ?_⟩) hS0 ?_
        · obtain ⟨u, u0, u1, u2, u3⟩ := hV
          go_simp
        simp only [Act.put, List.setIfInBounds_toArray, List.set_cons_zero, List.set_cons_succ]
        refine wpAnyH_take (i := 17) (v := .pointer (some ⟨g k, 2, none⟩)) rfl (by kernel_rfl) (by kernel_rfl) (by kernel_rfl) (fun _ _ _ h => h) (Or.inl ⟨by rfl, fun V hV => ?_⟩) hS0 ?_
        · obtain ⟨u, u0, u1, u2, u3⟩ := hV
          go_simp
        simp only [Act.put, List.setIfInBounds_toArray, List.set_cons_zero, List.set_cons_succ]
        refine wpAnyH_take (i := 18) (v := .int .i64 y2) rfl (by kernel_rfl) (by kernel_rfl) (by kernel_rfl) (fun _ _ _ h => h) (Or.inl ⟨by rfl, fun V hV => ?_⟩) hS0 ?_
        · obtain ⟨u, u0, u1, u2, u3⟩ := hV
          go_simp
        simp only [Act.put, List.setIfInBounds_toArray, List.set_cons_zero, List.set_cons_succ]
        refine wpAnyH_take (i := 19) (v := .slice (some ⟨tb, 0, none⟩) T.length cap) rfl (by kernel_rfl) (by kernel_rfl) (by kernel_rfl) (fun _ _ _ h => h) (Or.inl ⟨by rfl, fun V hV => ?_⟩) hS0 ?_
        · obtain ⟨u, u0, u1, u2, u3⟩ := hV
          go_simp
        simp only [Act.put, List.setIfInBounds_toArray, List.set_cons_zero, List.set_cons_succ]
        refine wpAnyH_take (i := 20) (v := .int .i64 k) rfl (by kernel_rfl) (by kernel_rfl) (by kernel_rfl) (fun _ _ _ h => h) (Or.inl ⟨by rfl, fun V hV => ?_⟩) hS0 ?_
        · obtain ⟨u, u0, u1, u2, u3⟩ := hV
          go_simp
        simp only [Act.put, List.setIfInBounds_toArray, List.set_cons_zero, List.set_cons_succ]
        refine wpAnyH_take (i := 21) (v := .pointer (some ⟨tb, k, none⟩)) rfl (by kernel_rfl) (by kernel_rfl) (by kernel_rfl) (fun _ _ _ h => h) (Or.inl ⟨by rfl, fun V hV => ?_⟩) hS0 ?_
        · obtain ⟨u, u0, u1, u2, u3⟩ := hV
          go_simp
        simp only [Act.put, List.setIfInBounds_toArray, List.set_cons_zero, List.set_cons_succ]
        refine wpAnyH_take (i := 22) (v := .slice (some ⟨g k, 0, none⟩) 4 c) rfl (by kernel_rfl) (by kernel_rfl) (by kernel_rfl) (fun _ _ _ h => h) (Or.inl ⟨by rfl, fun V hV => ?_⟩) hS0 ?_
        · obtain ⟨u, u0, u1, u2, u3⟩ := hV
          go_simp
        simp only [Act.put, List.setIfInBounds_toArray, List.set_cons_zero, List.set_cons_succ]
        refine wpAnyH_take (i := 23) (v := .pointer (some ⟨g k, 3, none⟩)) rfl (by kernel_rfl) (by kernel_rfl) (by kernel_rfl) (fun _ _ _ h => h) (Or.inl ⟨by rfl, fun V hV => ?_⟩) hS0 ?_
        · obtain ⟨u, u0, u1, u2, u3⟩ := hV
          go_simp
        simp only [Act.put, List.setIfInBounds_toArray, List.set_cons_zero, List.set_cons_succ]
        refine wpAnyH_take (i := 24) (v := .int .i64 y3) rfl (by kernel_rfl) (by kernel_rfl) (by kernel_rfl) (fun _ _ _ h => h) (Or.inl ⟨by rfl, fun V hV => ?_⟩) hS0 ?_
        · obtain ⟨u, u0, u1, u2, u3⟩ := hV
          go_simp
        simp only [Act.put, List.setIfInBounds_toArray, List.set_cons_zero, List.set_cons_succ]
        refine wpAnyH_take (i := 25) (v := .agg #[.int .i64 y0, .int .i64 y1, .int .i64 y2, .int .i64 y3]) rfl (by kernel_rfl) (by kernel_rfl) (by kernel_rfl) (fun _ _ _ h => h) (Or.inl ⟨by rfl, fun V hV => ?_⟩) hS0 ?_
        · obtain ⟨u, u0, u1, u2, u3⟩ := hV
          go_simp
        simp only [Act.put, List.setIfInBounds_toArray, List.set_cons_zero, List.set_cons_succ]
        refine wpAnyH_ready (rs := [26]) (by kernel_rfl) (by simp) ?_
        refine AllReadyH.cons rfl (fun K hK => ?_) AllReadyH.nil
        go_simp
        refine hK.out _ _ (KS.out _ (hbd.alloc (by omega) _)) (fun _ => ?_)
        try simp only [Act.put, List.setIfInBounds_toArray, List.set_cons_zero, List.set_cons_succ]
        clear hK K
        refine wpAnyH_ready (rs := [27]) (by kernel_rfl) (by simp) ?_
        refine AllReadyH.cons rfl (fun K hK => ?_) AllReadyH.nil
        rw [if_pos (by rfl)]
        refine wp_app eltP (.tmp 23) (.tmp 49) rfl w1.heap.size _ _ _ rfl HOd.out [.int .i64 y0, .int .i64 y1, .int .i64 y2, .int .i64 y3] rfl (by intro u hu; simp at hu; rcases hu with rfl | rfl | rfl | rfl <;> rfl) rfl rfl (by have := HTL.out; omega) hsd ?_
        intro v' w3 ho3 hb3 hg3
        refine hK.out _ _ (KS.out _ (hbd.trans hb3)) (fun _ => ?_)
        try simp only [Act.put, List.setIfInBounds_toArray, List.set_cons_zero, List.set_cons_succ]
        clear hK K
        refine wpAnyH_ready (rs := [28]) (by kernel_rfl) (by simp) ?_
        refine AllReadyH.cons rfl (fun K hK => ?_) AllReadyH.nil
        have HO3 := Lib.hid (HSN.out v' w3 ho3)
        have HB3 := Lib.hid (hbd.trans hb3)
        clear ho3 hb3 hg3
        go_simp
        refine hK.out _ _ (KS.out _ HB3.out) (fun _ => ?_)
        clear hK K
        refine wpAnyH_done (by kernel_rfl) ?_ _
        go_wp2_with fail
        go_roundw
        case rel => exact ⟨k + 1, by go_num, by omega, HO3.out, HALL.out, HB3.out⟩
        case measure => simp [intOf]; omega
      · have HF := Lib.hid (show pfB s.data.toList = false by unfold pfB; rw [HT.out, all4_at hlt h4]; rfl)
        have hq : (((T.getD k []).length : Int) == 4) = false := by rw [beq_eq_false_iff_ne]; omega
        obtain ⟨n, hn⟩ : ∃ n, (T.getD k []).length = n := ⟨_, rfl⟩
        rw [hn] at hq hcw
        have HBQ := Lib.hid hbq
        clear h4 hn hcell hc3 hall hown hbq
        go_wp2_with fail
        go_ret2
        have hnl : OwnPpl (wr.alloc (.cells #[] 47)) w.heap.size (.slice (some ⟨wr.heap.size, 0, none⟩) 0 0) [] := by
          have := World.ownsRow_lit (base := w.heap.size) (e := 47) (size := 4) wr #[] 0 (by have := HBQ.out.size; omega) (by unfold maxLen; omega) (by simp)
          show OwnPpl _ _ _ _
          simpa [OwnPpl, pc] using this
        exact ⟨_, by rw [HF.out]; rfl, by rw [pf_f HF.out]; exact hnl, (HB.out.trans (HBQ.out.mono hsz)).alloc (by have := HBQ.out.size; omega) _⟩
    · obtain rfl : k = T.length := by omega
      rw [List.take_length] at hown hall
      have HALL := Lib.hid hall
      have HO := Lib.hid hown
      obtain ⟨a2, b2, c2, hv2, k1, k2, -, hppl⟩ := hown.ppl
      subst hv2
      have HPP := Lib.hid hppl
      have HBQ := Lib.hid hbq
      have hszq := hbq.size
      obtain ⟨L, hL⟩ : ∃ L, T.map perR = L := ⟨_, rfl⟩
      have hll : L.length = T.length := by rw [← hL, List.length_map]
      rw [hL] at HO HPP k1 ⊢
      have HL := Lib.hid hL
      clear hown hall hbq hppl hlt
      go_wp2_with fail
      have hpt := peopleTextS a2 b2 0 c2 L wr HPP.out (by omega)
      rw [hll] at hpt
      refine hpt.mono ?_
      clear hpt
      rintro e w2 ⟨rfl, hb2⟩
      have HB2 := Lib.hid (HB.out.trans ((HBQ.out.trans (hb2.mono hszq)).mono hsz))
      have HO2 := Lib.hid (orow_below HO.out hb2)
      have hsz2 := hb2.size
      clear hb2
      by_cases heq : tpL L = s.data.toList
      · have HF := Lib.hid (show pfB s.data.toList = true by unfold pfB; rw [HT.out, HALL.out, HL.out, decide_eq_true heq]; rfl)
        have hts : tp L = s := tp_of heq
        rw [hts]
        clear heq hts
        go_wp2_with fail
        go_ret2
        refine ⟨_, by rw [HF.out]; rfl, ?_, HB2.out⟩
        rw [pf_tt HF.out, HT.out, HL.out]
        have h : OwnPpl w2 w1.heap.size (.slice a2 T.length c2) L := by rw [← hll]; exact HO2.out
        exact orow_mono h hsz
      · have HF := Lib.hid (show pfB s.data.toList = false by unfold pfB; rw [HT.out, HL.out, decide_eq_false heq]; simp)
        have hts : tp L ≠ s := tp_not heq
        obtain ⟨S, hS⟩ : ∃ S, tp L = S := ⟨_, rfl⟩
        rw [hS] at hts ⊢
        have hq := str_ne hts
        clear heq hS hts
        go_wp2_with fail
        go_ret2
        have hnl : OwnPpl (w2.alloc (.cells #[] 47)) w.heap.size (.slice (some ⟨w2.heap.size, 0, none⟩) 0 0) [] := by
          have := World.ownsRow_lit (base := w.heap.size) (e := 47) (size := 4) w2 #[] 0 (by omega) (by unfold maxLen; omega) (by simp)
          show OwnPpl _ _ _ _
          simpa [OwnPpl, pc] using this
        exact ⟨_, by rw [HF.out]; rfl, by rw [pf_f HF.out]; exact hnl, HB2.out.alloc (by omega) _⟩
end Go.Proofs.YthncpnopplhlkaaDoor
