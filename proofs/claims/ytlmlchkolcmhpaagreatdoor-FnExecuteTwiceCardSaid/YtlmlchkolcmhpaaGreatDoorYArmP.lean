/-
  Contract: spec.l51Person.
-/
import Derived.Test.YtlmlchkolcmhpaaGreatDoorYArmS2
namespace Go.Proofs.YtlmlchkolcmhpaaGreatDoor
open Go.RowKit

/-- Cells that lie in a block stay while another row grows. -/
theorem cells_grown {V V1 : World} {row : Option Nat} {cs : List Value} {B : Nat} (hv : ∀ j u, cs[j]? = some u → V.cell? (Addr.add ⟨B, 0, none⟩ j) = some u) (hB : B < V.heap.size) (hg : V.grownBy V1 row) (hne : some B ≠ row) : ∀ j u, cs[j]? = some u → V1.cell? (Addr.add ⟨B, 0, none⟩ j) = some u := by
  intro j u hu
  have h1 := hv j u hu
  rw [Addr.add_lit] at h1 ⊢
  exact (World.cell?_of_block (hg.block B hB hne)).trans h1
theorem lit_all (W : World) (y0 y1 y2 y3 : Int) : ∀ j u, [Value.int .i64 y0, .int .i64 y1, .int .i64 y2, .int .i64 y3][j]? = some u → (W.alloc (.cells #[.int .i64 y0, .int .i64 y1, .int .i64 y2, .int .i64 y3] 69)).cell? (Addr.add ⟨W.heap.size, 0, none⟩ j) = some u := fun _ _ h => lit_cell W h
theorem own_lit0 {base H : Nat} (W : World) (hb : base ≤ W.heap.size) (hH : H = W.heap.size) : OwnPpl (W.alloc (.cells #[] 69)) base (.slice (some ⟨H, 0, none⟩) 0 0) [] := by
  subst hH
  have := World.ownsRow_lit (base := base) (e := 69) (size := 4) W #[] 0 hb (by unfold maxLen; omega) (by simp)
  show OwnPpl _ _ _ _
  simpa [OwnPpl, pc] using this

/-- What l51Person answers. -/
def PersonQ (w : World) (b cap : Nat) (L : List Per) (p : Per) (e : Ending) (w' : World) : Prop :=
  Below w.heap.size w w' ∧ ((pplB (L ++ [p]) = true ∧ ∃ v, e = .returned (.tuple #[v, .bool true]) ∧ OwnPpl w' w.heap.size v (L ++ [p])) ∨ (pplB (L ++ [p]) = false ∧ e = .returned (.tuple #[.slice (some ⟨b, 0, none⟩) L.length cap, .bool false])))

set_option maxRecDepth 100000 in
set_option maxHeartbeats 8000000 in
theorem personArmS (b cap nb cn : Nat) (L : List Per) (y0 y1 y2 y3 : Int) (w : World) (hr : Ppl w (some ⟨b, 0, none⟩) b 0 L) (hv : pplB L = true) (n0 : w.cell? ⟨nb, 0, none⟩ = some (.int .i64 y0)) (n1 : w.cell? ⟨nb, 1, none⟩ = some (.int .i64 y1)) (n2 : w.cell? ⟨nb, 2, none⟩ = some (.int .i64 y2)) (n3 : w.cell? ⟨nb, 3, none⟩ = some (.int .i64 y3)) :
    Calls Tryz.prog 30 #[.slice (some ⟨b, 0, none⟩) L.length cap, .slice (some ⟨nb, 0, none⟩) 4 cn] w (PersonQ w b cap L ⟨y0, y1, y2, y3⟩) := by
  have h40 := (ppl_t.1 hv).1
  have hbn := World.block_lt_of_cell? _ _ n0
  simp only at hbn
  have HT := Lib.hid (show ∀ (W : World), Below w.heap.size w W → ∀ t u, (pc L)[t]? = some u → W.cell? (Addr.add ⟨b, 0, none⟩ t) = some u from fun W hW t u hu => by
    rw [Addr.add_lit]
    exact ppl_cells (hr.keep hW (Nat.le_refl _)) _ u hu)
  clear hr hv
  go_enter Tryz.func30, Tryz.ntmps30
  go_wp2_with fail
  have KS := Lib.hid (fun (W' : World) (hW : Below w.heap.size w W') => (show W'.cell? ⟨nb, 0, none⟩ = some (.int .i64 y0) ∧ W'.cell? ⟨nb, 1, none⟩ = some (.int .i64 y1) ∧ W'.cell? ⟨nb, 2, none⟩ = some (.int .i64 y2) ∧ W'.cell? ⟨nb, 3, none⟩ = some (.int .i64 y3) from ⟨(hW.cell (p := ⟨nb, 0, none⟩) (hbn)).trans n0, (hW.cell (p := ⟨nb, 1, none⟩) (hbn)).trans n1, (hW.cell (p := ⟨nb, 2, none⟩) (hbn)).trans n2, (hW.cell (p := ⟨nb, 3, none⟩) (hbn)).trans n3⟩))
  refine wp_region_held (S := (fun V => V.cell? ⟨nb, 0, none⟩ = some (.int .i64 y0) ∧ V.cell? ⟨nb, 1, none⟩ = some (.int .i64 y1) ∧ V.cell? ⟨nb, 2, none⟩ = some (.int .i64 y2) ∧ V.cell? ⟨nb, 3, none⟩ = some (.int .i64 y3))) (by kernel_rfl) ?_
  change wpAnyH _ _ _ _ _ _ _ _ w.drew
  have hS0 : w.drew.cell? ⟨nb, 0, none⟩ = some (.int .i64 y0) ∧ w.drew.cell? ⟨nb, 1, none⟩ = some (.int .i64 y1) ∧ w.drew.cell? ⟨nb, 2, none⟩ = some (.int .i64 y2) ∧ w.drew.cell? ⟨nb, 3, none⟩ = some (.int .i64 y3) := ⟨n0, n1, n2, n3⟩
  have hd := (Below.refl w.heap.size w).drew
  obtain ⟨Wd, hWd⟩ : ∃ Wd, w.drew = Wd := ⟨_, rfl⟩
  rw [hWd] at hS0 hd ⊢
  have HD := Lib.hid hd
  clear hWd hd
  refine wpAnyH_take (i := 1) (oi := ⟨some 8, _, _, _, _, _⟩) (v := .slice (some ⟨b, 0, none⟩) L.length cap) rfl (by kernel_rfl) (by kernel_rfl) (by kernel_rfl) (fun _ _ _ h => h) (Or.inl ⟨by kernel_rfl, fun V hV => ?_⟩) hS0 ?_
  · obtain ⟨q0, q1, q2, q3⟩ := hV
    go_simp
  simp only [Act.put, List.setIfInBounds_toArray, List.set_cons_zero, List.set_cons_succ]
  refine wpAnyH_take (i := 3) (oi := ⟨some 10, _, _, _, _, _⟩) (v := .slice (some ⟨nb, 0, none⟩) 4 cn) rfl (by kernel_rfl) (by kernel_rfl) (by kernel_rfl) (fun _ _ _ h => h) (Or.inl ⟨by kernel_rfl, fun V hV => ?_⟩) hS0 ?_
  · obtain ⟨q0, q1, q2, q3⟩ := hV
    go_simp
  simp only [Act.put, List.setIfInBounds_toArray, List.set_cons_zero, List.set_cons_succ]
  refine wpAnyH_take (i := 4) (oi := ⟨some 11, _, _, _, _, _⟩) (v := .pointer (some ⟨nb, 0, none⟩)) rfl (by kernel_rfl) (by kernel_rfl) (by kernel_rfl) (fun _ _ _ h => h) (Or.inl ⟨by kernel_rfl, fun V hV => ?_⟩) hS0 ?_
  · obtain ⟨q0, q1, q2, q3⟩ := hV
    go_simp
  simp only [Act.put, List.setIfInBounds_toArray, List.set_cons_zero, List.set_cons_succ]
  refine wpAnyH_take (i := 5) (oi := ⟨some 12, _, _, _, _, _⟩) (v := .int .i64 y0) rfl (by kernel_rfl) (by kernel_rfl) (by kernel_rfl) (fun _ _ _ h => h) (Or.inl ⟨by kernel_rfl, fun V hV => ?_⟩) hS0 ?_
  · obtain ⟨q0, q1, q2, q3⟩ := hV
    go_simp
  simp only [Act.put, List.setIfInBounds_toArray, List.set_cons_zero, List.set_cons_succ]
  refine wpAnyH_take (i := 6) (oi := ⟨some 13, _, _, _, _, _⟩) (v := .slice (some ⟨nb, 0, none⟩) 4 cn) rfl (by kernel_rfl) (by kernel_rfl) (by kernel_rfl) (fun _ _ _ h => h) (Or.inl ⟨by kernel_rfl, fun V hV => ?_⟩) hS0 ?_
  · obtain ⟨q0, q1, q2, q3⟩ := hV
    go_simp
  simp only [Act.put, List.setIfInBounds_toArray, List.set_cons_zero, List.set_cons_succ]
  refine wpAnyH_take (i := 7) (oi := ⟨some 14, _, _, _, _, _⟩) (v := .pointer (some ⟨nb, 1, none⟩)) rfl (by kernel_rfl) (by kernel_rfl) (by kernel_rfl) (fun _ _ _ h => h) (Or.inl ⟨by kernel_rfl, fun V hV => ?_⟩) hS0 ?_
  · obtain ⟨q0, q1, q2, q3⟩ := hV
    go_simp
  simp only [Act.put, List.setIfInBounds_toArray, List.set_cons_zero, List.set_cons_succ]
  refine wpAnyH_take (i := 8) (oi := ⟨some 15, _, _, _, _, _⟩) (v := .int .i64 y1) rfl (by kernel_rfl) (by kernel_rfl) (by kernel_rfl) (fun _ _ _ h => h) (Or.inl ⟨by kernel_rfl, fun V hV => ?_⟩) hS0 ?_
  · obtain ⟨q0, q1, q2, q3⟩ := hV
    go_simp
  simp only [Act.put, List.setIfInBounds_toArray, List.set_cons_zero, List.set_cons_succ]
  refine wpAnyH_take (i := 9) (oi := ⟨some 16, _, _, _, _, _⟩) (v := .slice (some ⟨nb, 0, none⟩) 4 cn) rfl (by kernel_rfl) (by kernel_rfl) (by kernel_rfl) (fun _ _ _ h => h) (Or.inl ⟨by kernel_rfl, fun V hV => ?_⟩) hS0 ?_
  · obtain ⟨q0, q1, q2, q3⟩ := hV
    go_simp
  simp only [Act.put, List.setIfInBounds_toArray, List.set_cons_zero, List.set_cons_succ]
  refine wpAnyH_take (i := 10) (oi := ⟨some 17, _, _, _, _, _⟩) (v := .pointer (some ⟨nb, 2, none⟩)) rfl (by kernel_rfl) (by kernel_rfl) (by kernel_rfl) (fun _ _ _ h => h) (Or.inl ⟨by kernel_rfl, fun V hV => ?_⟩) hS0 ?_
  · obtain ⟨q0, q1, q2, q3⟩ := hV
    go_simp
  simp only [Act.put, List.setIfInBounds_toArray, List.set_cons_zero, List.set_cons_succ]
  refine wpAnyH_take (i := 11) (oi := ⟨some 18, _, _, _, _, _⟩) (v := .int .i64 y2) rfl (by kernel_rfl) (by kernel_rfl) (by kernel_rfl) (fun _ _ _ h => h) (Or.inl ⟨by kernel_rfl, fun V hV => ?_⟩) hS0 ?_
  · obtain ⟨q0, q1, q2, q3⟩ := hV
    go_simp
  simp only [Act.put, List.setIfInBounds_toArray, List.set_cons_zero, List.set_cons_succ]
  refine wpAnyH_take (i := 12) (oi := ⟨some 19, _, _, _, _, _⟩) (v := .slice (some ⟨nb, 0, none⟩) 4 cn) rfl (by kernel_rfl) (by kernel_rfl) (by kernel_rfl) (fun _ _ _ h => h) (Or.inl ⟨by kernel_rfl, fun V hV => ?_⟩) hS0 ?_
  · obtain ⟨q0, q1, q2, q3⟩ := hV
    go_simp
  simp only [Act.put, List.setIfInBounds_toArray, List.set_cons_zero, List.set_cons_succ]
  refine wpAnyH_take (i := 13) (oi := ⟨some 20, _, _, _, _, _⟩) (v := .pointer (some ⟨nb, 3, none⟩)) rfl (by kernel_rfl) (by kernel_rfl) (by kernel_rfl) (fun _ _ _ h => h) (Or.inl ⟨by kernel_rfl, fun V hV => ?_⟩) hS0 ?_
  · obtain ⟨q0, q1, q2, q3⟩ := hV
    go_simp
  simp only [Act.put, List.setIfInBounds_toArray, List.set_cons_zero, List.set_cons_succ]
  refine wpAnyH_take (i := 14) (oi := ⟨some 21, _, _, _, _, _⟩) (v := .int .i64 y3) rfl (by kernel_rfl) (by kernel_rfl) (by kernel_rfl) (fun _ _ _ h => h) (Or.inl ⟨by kernel_rfl, fun V hV => ?_⟩) hS0 ?_
  · obtain ⟨q0, q1, q2, q3⟩ := hV
    go_simp
  simp only [Act.put, List.setIfInBounds_toArray, List.set_cons_zero, List.set_cons_succ]
  refine wpAnyH_take (i := 15) (oi := ⟨some 22, _, _, _, _, _⟩) (v := .agg #[.int .i64 y0, .int .i64 y1, .int .i64 y2, .int .i64 y3]) rfl (by kernel_rfl) (by kernel_rfl) (by kernel_rfl) (fun _ _ _ h => h) (Or.inl ⟨by kernel_rfl, fun V hV => ?_⟩) hS0 ?_
  · obtain ⟨q0, q1, q2, q3⟩ := hV
    go_simp
  simp only [Act.put, List.setIfInBounds_toArray, List.set_cons_zero, List.set_cons_succ]
  obtain ⟨i0, hi, hz0, hz1, hz2⟩ := info_parts eltP.info
  refine wpAnyH_ready (rs := [0, 16]) (by kernel_rfl) (by simp) ?_
  refine AllReadyH.cons (o := ⟨some 7, _, _, _, _, _⟩) rfl (fun K hK => ?_) (AllReadyH.cons (o := ⟨some 23, _, _, _, _, _⟩) rfl (fun K hK => ?_) AllReadyH.nil)
  · go_simp
    have hal := HD.out.alloc HD.out.size (.cells #[] 69)
    have ho0 := own_lit0 (base := w.heap.size) Wd HD.out.size rfl
    have hz9 : (Wd.alloc (.cells #[] 69)).heap.size = Wd.heap.size + 1 := World.size_alloc _ _
    refine hK.out _ _ (KS.out _ (hal)) (fun _ => ?_)
    try simp only [Act.put, List.setIfInBounds_toArray, List.set_cons_zero, List.set_cons_succ]
    clear hK K
    refine wpAnyH_ready (rs := [2, 16]) (by kernel_rfl) (by simp) ?_
    refine AllReadyH.cons (o := ⟨some 9, _, _, _, _, _⟩) rfl (fun K hK => ?_) (AllReadyH.cons (o := ⟨some 23, _, _, _, _, _⟩) rfl (fun K hK => ?_) AllReadyH.nil)
    · rw [if_pos (by rfl)]
      refine wp_append_own _ (.tmp 7) (.tmp 8) _ rfl w.heap.size 69 i0 _ 4 32 eltP.und hi hz0 hz1 hz2 eltP.zs eltP.pos _ _ _ rfl ho0 ⟨b, 0, none⟩ L.length cap (pc L) rfl (by rw [pc_len]) (HT.out _ hal) (pc_one _) (by unfold maxLen; simp only [List.length_nil]; omega) (by simp only [List.length_nil]; omega) hal.size ?_
      intro v1 W1 ho1 hg1 _
      have hok1 := hal.trans (below_own ho0 hg1 hal.size)
      refine hK.out _ _ (KS.out _ (hok1)) (fun _ => ?_)
      try simp only [Act.put, List.setIfInBounds_toArray, List.set_cons_zero, List.set_cons_succ]
      clear hK K
      refine wpAnyH_ready (rs := [16]) (by kernel_rfl) (by simp) ?_
      refine AllReadyH.cons (o := ⟨some 23, _, _, _, _, _⟩) rfl (fun K hK => ?_) AllReadyH.nil
      go_simp
      have hok1' := hok1.alloc hok1.size (.cells #[.int .i64 y0, .int .i64 y1, .int .i64 y2, .int .i64 y3] 69)
      have ho1' := World.ownsRow.alloc ho1 (.cells #[.int .i64 y0, .int .i64 y1, .int .i64 y2, .int .i64 y3] 69)
      refine hK.out _ _ (KS.out _ (hok1')) (fun _ => ?_)
      try simp only [Act.put, List.setIfInBounds_toArray, List.set_cons_zero, List.set_cons_succ]
      clear hK K
      clear hok1 ho1 ho0 hal
      have hok1 := hok1'
      have ho1 := ho1'
      clear hok1' ho1'
      refine wpAnyH_ready (rs := [17]) (by kernel_rfl) (by simp) ?_
      refine AllReadyH.cons (o := ⟨some 24, _, _, _, _, _⟩) rfl (fun K hK => ?_) AllReadyH.nil
      rw [if_pos (by rfl)]
      refine wp_append_own _ (.tmp 9) (.tmp 23) _ rfl w.heap.size 69 i0 _ 4 32 eltP.und hi hz0 hz1 hz2 eltP.zs eltP.pos _ _ _ rfl ho1 ⟨W1.heap.size, 0, none⟩ 1 1 [.int .i64 y0, .int .i64 y1, .int .i64 y2, .int .i64 y3] rfl (rfl) (lit_all W1 y0 y1 y2 y3) (by intro u hu; simp at hu; rcases hu with rfl | rfl | rfl | rfl <;> rfl) (by unfold maxLen; simp only [List.length_nil]; omega) (by simp only [List.length_nil]; omega) hok1.size ?_
      intro v2 W2 ho2 hg2 _
      have hok2 := hok1.trans (below_own ho1 hg2 hok1.size)
      refine hK.out _ _ (KS.out _ (hok2)) (fun _ => ?_)
      try simp only [Act.put, List.setIfInBounds_toArray, List.set_cons_zero, List.set_cons_succ]
      clear hK K
      have HO2 := Lib.hid (show OwnPpl W2 w.heap.size v2 (L ++ [⟨y0, y1, y2, y3⟩]) from ownp_snoc (by
        have h9 := ho2
        simp only [List.length_nil, Nat.zero_add] at h9
        exact h9))
      have HB2 := Lib.hid hok2
      have HKS := Lib.hid (KS.out _ hok2)
      clear ho1 ho2 hg2 hok1 hok2 hg1 hi hz0 hz1 hz2
      refine wpAnyH_take (i := 18) (oi := ⟨some 6, _, _, _, _, _⟩) (v := v2) rfl (by kernel_rfl) (by kernel_rfl) (by kernel_rfl) (fun _ _ _ h => h) (Or.inl ⟨by kernel_rfl, fun V hV => ?_⟩) HKS.out ?_
      · obtain ⟨q0, q1, q2, q3⟩ := hV
        go_simp
      simp only [Act.put, List.setIfInBounds_toArray, List.set_cons_zero, List.set_cons_succ]
      refine wpAnyH_done (by kernel_rfl) ?_ _
      obtain ⟨ag, bg, cg, rfl, hg3, hg4, -, hgp⟩ := OwnPpl.ppl HO2.out
      have HGP := Lib.hid hgp
      clear hgp
      obtain ⟨M, hM⟩ : ∃ M, L ++ [⟨y0, y1, y2, y3⟩] = M := ⟨_, rfl⟩
      have hl41 : M.length ≤ 41 := by rw [← hM, List.length_append, List.length_singleton]; omega
      rw [hM] at HGP HO2 hg3 ⊢
      have HM := Lib.hid hM
      clear hM
      go_wp2_with fail
      refine (peopleS ag bg 0 cg M W2 HGP.out (by omega)).mono ?_
      rintro e w6 ⟨rfl, hb6⟩
      have HB6 := Lib.hid (HB2.out.trans (hb6.mono HB2.out.size))
      have HO6 := Lib.hid (orow_below HO2.out hb6)
      clear hb6
      cases hpb : pplB M with
      | true =>
        have HPB := Lib.hid hpb
        clear hpb
        go_wp2_with fail
        go_ret2
        exact ⟨HB6.out, .inl ⟨by rw [HM.out]; exact HPB.out, _, rfl, by rw [HM.out]; exact HO6.out⟩⟩
      | false =>
        have HPB := Lib.hid hpb
        clear hpb
        go_wp2_with fail
        go_ret2
        exact ⟨HB6.out, .inr ⟨by rw [HM.out]; exact HPB.out, rfl⟩⟩
    · go_simp
      have hok0 := hal.alloc hal.size (.cells #[.int .i64 y0, .int .i64 y1, .int .i64 y2, .int .i64 y3] 69)
      have ho0' := World.ownsRow.alloc ho0 (.cells #[.int .i64 y0, .int .i64 y1, .int .i64 y2, .int .i64 y3] 69)
      have hlc := lit_all (Wd.alloc (.cells #[] 69)) y0 y1 y2 y3
      rw [hz9] at hlc
      refine hK.out _ _ (KS.out _ (hok0)) (fun _ => ?_)
      try simp only [Act.put, List.setIfInBounds_toArray, List.set_cons_zero, List.set_cons_succ]
      clear hK K
      refine wpAnyH_ready (rs := [2]) (by kernel_rfl) (by simp) ?_
      refine AllReadyH.cons (o := ⟨some 9, _, _, _, _, _⟩) rfl (fun K hK => ?_) AllReadyH.nil
      rw [if_pos (by rfl)]
      refine wp_append_own _ (.tmp 7) (.tmp 8) _ rfl w.heap.size 69 i0 _ 4 32 eltP.und hi hz0 hz1 hz2 eltP.zs eltP.pos _ _ _ rfl ho0' ⟨b, 0, none⟩ L.length cap (pc L) rfl (by rw [pc_len]) (HT.out _ hok0) (pc_one _) (by unfold maxLen; simp only [List.length_nil]; omega) (by simp only [List.length_nil]; omega) hok0.size ?_
      intro v1 W1 ho1 hg1 _
      have hok1 := hok0.trans (below_own ho0' hg1 hok0.size)
      have hlc1 := cells_grown hlc (by rw [World.size_alloc, hz9]; omega) hg1 (fun e => by injection e with e; have e9 : Wd.heap.size + 1 = Wd.heap.size := e; omega)
      refine hK.out _ _ (KS.out _ (hok1)) (fun _ => ?_)
      try simp only [Act.put, List.setIfInBounds_toArray, List.set_cons_zero, List.set_cons_succ]
      clear hK K
      refine wpAnyH_ready (rs := [17]) (by kernel_rfl) (by simp) ?_
      refine AllReadyH.cons (o := ⟨some 24, _, _, _, _, _⟩) rfl (fun K hK => ?_) AllReadyH.nil
      rw [if_pos (by rfl)]
      refine wp_append_own _ (.tmp 9) (.tmp 23) _ rfl w.heap.size 69 i0 _ 4 32 eltP.und hi hz0 hz1 hz2 eltP.zs eltP.pos _ _ _ rfl ho1 ⟨Wd.heap.size + 1, 0, none⟩ 1 1 [.int .i64 y0, .int .i64 y1, .int .i64 y2, .int .i64 y3] rfl (rfl) (hlc1) (by intro u hu; simp at hu; rcases hu with rfl | rfl | rfl | rfl <;> rfl) (by unfold maxLen; simp only [List.length_nil]; omega) (by simp only [List.length_nil]; omega) hok1.size ?_
      intro v2 W2 ho2 hg2 _
      have hok2 := hok1.trans (below_own ho1 hg2 hok1.size)
      refine hK.out _ _ (KS.out _ (hok2)) (fun _ => ?_)
      try simp only [Act.put, List.setIfInBounds_toArray, List.set_cons_zero, List.set_cons_succ]
      clear hK K
      have HO2 := Lib.hid (show OwnPpl W2 w.heap.size v2 (L ++ [⟨y0, y1, y2, y3⟩]) from ownp_snoc (by
        have h9 := ho2
        simp only [List.length_nil, Nat.zero_add] at h9
        exact h9))
      have HB2 := Lib.hid hok2
      have HKS := Lib.hid (KS.out _ hok2)
      clear ho0 ho0' ho1 ho2 hg2 hok0 hok1 hok2 hg1 hi hz0 hz1 hz2 hlc hlc1 hal
      refine wpAnyH_take (i := 18) (oi := ⟨some 6, _, _, _, _, _⟩) (v := v2) rfl (by kernel_rfl) (by kernel_rfl) (by kernel_rfl) (fun _ _ _ h => h) (Or.inl ⟨by kernel_rfl, fun V hV => ?_⟩) HKS.out ?_
      · obtain ⟨q0, q1, q2, q3⟩ := hV
        go_simp
      simp only [Act.put, List.setIfInBounds_toArray, List.set_cons_zero, List.set_cons_succ]
      refine wpAnyH_done (by kernel_rfl) ?_ _
      obtain ⟨ag, bg, cg, rfl, hg3, hg4, -, hgp⟩ := OwnPpl.ppl HO2.out
      have HGP := Lib.hid hgp
      clear hgp
      obtain ⟨M, hM⟩ : ∃ M, L ++ [⟨y0, y1, y2, y3⟩] = M := ⟨_, rfl⟩
      have hl41 : M.length ≤ 41 := by rw [← hM, List.length_append, List.length_singleton]; omega
      rw [hM] at HGP HO2 hg3 ⊢
      have HM := Lib.hid hM
      clear hM
      go_wp2_with fail
      refine (peopleS ag bg 0 cg M W2 HGP.out (by omega)).mono ?_
      rintro e w6 ⟨rfl, hb6⟩
      have HB6 := Lib.hid (HB2.out.trans (hb6.mono HB2.out.size))
      have HO6 := Lib.hid (orow_below HO2.out hb6)
      clear hb6
      cases hpb : pplB M with
      | true =>
        have HPB := Lib.hid hpb
        clear hpb
        go_wp2_with fail
        go_ret2
        exact ⟨HB6.out, .inl ⟨by rw [HM.out]; exact HPB.out, _, rfl, by rw [HM.out]; exact HO6.out⟩⟩
      | false =>
        have HPB := Lib.hid hpb
        clear hpb
        go_wp2_with fail
        go_ret2
        exact ⟨HB6.out, .inr ⟨by rw [HM.out]; exact HPB.out, rfl⟩⟩
  · go_simp
    have hal := HD.out.alloc HD.out.size (.cells #[.int .i64 y0, .int .i64 y1, .int .i64 y2, .int .i64 y3] 69)
    have hlc := lit_all Wd y0 y1 y2 y3
    have hz9 : (Wd.alloc (.cells #[.int .i64 y0, .int .i64 y1, .int .i64 y2, .int .i64 y3] 69)).heap.size = Wd.heap.size + 1 := World.size_alloc _ _
    refine hK.out _ _ (KS.out _ (hal)) (fun _ => ?_)
    try simp only [Act.put, List.setIfInBounds_toArray, List.set_cons_zero, List.set_cons_succ]
    clear hK K
    refine wpAnyH_ready (rs := [0]) (by kernel_rfl) (by simp) ?_
    refine AllReadyH.cons (o := ⟨some 7, _, _, _, _, _⟩) rfl (fun K hK => ?_) AllReadyH.nil
    go_simp
    have hok0 := hal.alloc hal.size (.cells #[] 69)
    have ho0 := own_lit0 (base := w.heap.size) (H := Wd.heap.size + 1) (Wd.alloc (.cells #[.int .i64 y0, .int .i64 y1, .int .i64 y2, .int .i64 y3] 69)) hal.size hz9.symm
    have hlc0 : ∀ j u, [Value.int .i64 y0, .int .i64 y1, .int .i64 y2, .int .i64 y3][j]? = some u → ((Wd.alloc (.cells #[.int .i64 y0, .int .i64 y1, .int .i64 y2, .int .i64 y3] 69)).alloc (.cells #[] 69)).cell? (Addr.add ⟨Wd.heap.size, 0, none⟩ j) = some u := cells_grown hlc (by rw [hz9]; omega) (World.grownBy_alloc _ _ none) (fun e => by cases e)
    refine hK.out _ _ (KS.out _ (hok0)) (fun _ => ?_)
    try simp only [Act.put, List.setIfInBounds_toArray, List.set_cons_zero, List.set_cons_succ]
    clear hK K
    refine wpAnyH_ready (rs := [2]) (by kernel_rfl) (by simp) ?_
    refine AllReadyH.cons (o := ⟨some 9, _, _, _, _, _⟩) rfl (fun K hK => ?_) AllReadyH.nil
    rw [if_pos (by rfl)]
    refine wp_append_own _ (.tmp 7) (.tmp 8) _ rfl w.heap.size 69 i0 _ 4 32 eltP.und hi hz0 hz1 hz2 eltP.zs eltP.pos _ _ _ rfl ho0 ⟨b, 0, none⟩ L.length cap (pc L) rfl (by rw [pc_len]) (HT.out _ hok0) (pc_one _) (by unfold maxLen; simp only [List.length_nil]; omega) (by simp only [List.length_nil]; omega) hok0.size ?_
    intro v1 W1 ho1 hg1 _
    have hok1 := hok0.trans (below_own ho0 hg1 hok0.size)
    have hlc1 := cells_grown hlc0 (by rw [World.size_alloc, hz9]; omega) hg1 (fun e => by injection e with e; have e9 : Wd.heap.size = Wd.heap.size + 1 := e; omega)
    refine hK.out _ _ (KS.out _ (hok1)) (fun _ => ?_)
    try simp only [Act.put, List.setIfInBounds_toArray, List.set_cons_zero, List.set_cons_succ]
    clear hK K
    refine wpAnyH_ready (rs := [17]) (by kernel_rfl) (by simp) ?_
    refine AllReadyH.cons (o := ⟨some 24, _, _, _, _, _⟩) rfl (fun K hK => ?_) AllReadyH.nil
    rw [if_pos (by rfl)]
    refine wp_append_own _ (.tmp 9) (.tmp 23) _ rfl w.heap.size 69 i0 _ 4 32 eltP.und hi hz0 hz1 hz2 eltP.zs eltP.pos _ _ _ rfl ho1 ⟨Wd.heap.size, 0, none⟩ 1 1 [.int .i64 y0, .int .i64 y1, .int .i64 y2, .int .i64 y3] rfl (rfl) (hlc1) (by intro u hu; simp at hu; rcases hu with rfl | rfl | rfl | rfl <;> rfl) (by unfold maxLen; simp only [List.length_nil]; omega) (by simp only [List.length_nil]; omega) hok1.size ?_
    intro v2 W2 ho2 hg2 _
    have hok2 := hok1.trans (below_own ho1 hg2 hok1.size)
    refine hK.out _ _ (KS.out _ (hok2)) (fun _ => ?_)
    try simp only [Act.put, List.setIfInBounds_toArray, List.set_cons_zero, List.set_cons_succ]
    clear hK K
    have HO2 := Lib.hid (show OwnPpl W2 w.heap.size v2 (L ++ [⟨y0, y1, y2, y3⟩]) from ownp_snoc (by
      have h9 := ho2
      simp only [List.length_nil, Nat.zero_add] at h9
      exact h9))
    have HB2 := Lib.hid hok2
    have HKS := Lib.hid (KS.out _ hok2)
    clear ho0 ho1 ho2 hg2 hok0 hok1 hok2 hg1 hi hz0 hz1 hz2 hlc hlc0 hlc1 hal
    refine wpAnyH_take (i := 18) (oi := ⟨some 6, _, _, _, _, _⟩) (v := v2) rfl (by kernel_rfl) (by kernel_rfl) (by kernel_rfl) (fun _ _ _ h => h) (Or.inl ⟨by kernel_rfl, fun V hV => ?_⟩) HKS.out ?_
    · obtain ⟨q0, q1, q2, q3⟩ := hV
      go_simp
    simp only [Act.put, List.setIfInBounds_toArray, List.set_cons_zero, List.set_cons_succ]
    refine wpAnyH_done (by kernel_rfl) ?_ _
    obtain ⟨ag, bg, cg, rfl, hg3, hg4, -, hgp⟩ := OwnPpl.ppl HO2.out
    have HGP := Lib.hid hgp
    clear hgp
    obtain ⟨M, hM⟩ : ∃ M, L ++ [⟨y0, y1, y2, y3⟩] = M := ⟨_, rfl⟩
    have hl41 : M.length ≤ 41 := by rw [← hM, List.length_append, List.length_singleton]; omega
    rw [hM] at HGP HO2 hg3 ⊢
    have HM := Lib.hid hM
    clear hM
    go_wp2_with fail
    refine (peopleS ag bg 0 cg M W2 HGP.out (by omega)).mono ?_
    rintro e w6 ⟨rfl, hb6⟩
    have HB6 := Lib.hid (HB2.out.trans (hb6.mono HB2.out.size))
    have HO6 := Lib.hid (orow_below HO2.out hb6)
    clear hb6
    cases hpb : pplB M with
    | true =>
      have HPB := Lib.hid hpb
      clear hpb
      go_wp2_with fail
      go_ret2
      exact ⟨HB6.out, .inl ⟨by rw [HM.out]; exact HPB.out, _, rfl, by rw [HM.out]; exact HO6.out⟩⟩
    | false =>
      have HPB := Lib.hid hpb
      clear hpb
      go_wp2_with fail
      go_ret2
      exact ⟨HB6.out, .inr ⟨by rw [HM.out]; exact HPB.out, rfl⟩⟩
end Go.Proofs.YtlmlchkolcmhpaaGreatDoor
