/-
  Contracts: spec.DrawAskTells, spec.DrawAskTold.
-/
import Derived.Test.YtjglikccikeejabDrawL
import Derived.Deep.RegionLaw
import Derived.Deep.RegionWith
import Derived.Deep.DeepCutAuto
import Derived.Test.YtjglikccikeejabRowsS
import Derived.Test.YtjglikccikeejabPickD
namespace Go.Proofs.Ytjglikccikeejab
open Go.RowKit

def CutT (rb : Nat) (n p : Int) (v : Value) (zs : List Int) (w1 : World) (s : Value) (wx : World) : Prop :=
  ∃ bb : Bool, s = .bool bb ∧ (bb = true → 0 < zs.length ∧ 1 ≤ n ∧ n ≤ 6 ∧ 1 ≤ zs.getD 0 0 ∧ zs.getD 0 0 < 2 ^ n.toNat) ∧ Own wx (rb + 1) v zs ∧ IsRd wx rb (p + 1) ∧ Fr rb w1 wx

set_option maxHeartbeats 40000000 in
theorem drawTells_any (ao : Option Addr) (b off cap : Nat) (cs : List Int) (w : World) (hr : Row .u8 w ao b off cs) (hl : cs.length ≤ cap) (hw : ∀ i, i < cs.length → (Lit.int .u8 (cs.getD i 0)).wf = true) (hl2 : cap ≤ 9223372036854775807) :
    Calls Try.prog 15 #[.slice ao cs.length cap] w (DrawnM w) := by
  go_enter Try.func15, Try.ntmps15
  go_wp2_with fail
  refine (open_any ao b off cap cs w hr hl hw hl2).mono ?_
  rintro e w1 ⟨rfl, hb1, hrd1, hs1⟩
  obtain ⟨rb, hrb⟩ : ∃ rb, w.heap.size = rb := ⟨_, rfl⟩
  have HRB := Lib.hid hrb
  have HB1 := Lib.hid hb1
  rw [hrb] at hrd1 HB1
  have HR1 := Lib.hid hrd1
  have hs1 : w1.heap.size = rb + 1 := by omega
  rw [hrb]
  clear hb1 hrd1 hrb hr hw
  go_wp2_with fail
  refine (questions_any rb 0 w1 HR1.out (by omega)).mono ?_
  rintro e w2 ⟨n, p, v, zs, rfl, h0, h7, hzl, hzb, hO, hR, hp, hF⟩
  rw [hs1] at hO
  have HS1 := Lib.hid hs1
  have HO := Lib.hid hO
  have HR := Lib.hid hR
  have HF := Lib.hid hF
  have HZ := Lib.hid hzb
  clear hs1 hO hR hF hzb HR1
  obtain ⟨va, vb, vc, rfl, hvl, hvc, hvr, hvb, hvn⟩ := HO.out.row
  obtain ⟨hva, hvr⟩ := hvr
  obtain ⟨x, hx⟩ : ∃ x, zs.getD 0 0 = x := ⟨_, rfl⟩
  have HX := Lib.hid hx
  have HVR := Lib.hid hvr
  have HVA := Lib.hid hva
  have HVN := Lib.hid hvn
  have HVB := Lib.hid hvb
  have hrb1 : rb < w1.heap.size := by rw [HS1.out]; omega
  obtain ⟨k, ⟨hk0, hk1⟩, hpk⟩ := pick_det rb 3 p w2 HR.out (by omega) (by omega)
  have HPK := Lib.hid hpk
  have fin : ∀ (wx : World) (bb : Bool), (bb = true → 0 < zs.length ∧ 1 ≤ n ∧ n ≤ 6 ∧ 1 ≤ x ∧ x < 2 ^ n.toNat) → IsRd wx rb (p + 1) → Only rb w2 wx → CutT rb n p (.slice va zs.length vc) zs w1 (.bool bb) wx := fun wx bb h1 h2 h3 =>
    ⟨bb, rfl, by rw [HX.out]; exact h1, HO.out.only h3 (by omega), h2, HF.out.only h3⟩
  have Fin := Lib.hid fin
  clear hva hvr hvn hvb hx fin hpk
  go_upto_region 3 with fail
  go_cut [37] (fun s wx => CutT rb n p (.slice va zs.length vc) zs w1 s wx)
  case first =>
    by_cases hk : k = 0
    · subst hk
      by_cases hz : 0 < zs.length
      · obtain rfl := HVA.out hz
        have hc0 := HVR.out 0 hz
        rw [HX.out] at hc0
        by_cases hn : 1 ≤ n ∧ n ≤ 6
        · obtain ⟨hn1, hn6⟩ := hn
          have hpw := two_le (n := n.toNat) (by omega)
          have hpp : (0 : Int) < 2 ^ n.toNat := Int.pow_pos (by omega)
          have HPW := Lib.hid (fun W => power2_any n W (by omega) (by omega))
          obtain ⟨P, hP⟩ : ∃ P : Int, 2 ^ n.toNat = P := ⟨_, rfl⟩
          rw [hP] at hpw hpp HPW Fin
          have e1 : IntKind.i64.wrap (P - 1) = P - 1 := IntWalk.i64_in _ ⟨by omega, by omega⟩
          clear hP
          by_cases hxx : 1 ≤ x ∧ x ≤ P - 1
          · obtain ⟨hx1, hx2⟩ := hxx
            first | (go_region_with (first | (go_at_call 33; refine (HPK.out _ ?_).mono ?_; (exact rfl); rintro e w' ⟨rfl, hrd, ho⟩; have hck := (World.cell?_of_block (ho.2.2.2.2 vb (by have := HVB.out hz; omega))).trans hc0) | (go_at_call 34; first | ((with_reducible refine (in_yes n 1 6 _ hn1 hn6).mono ?_); rintro e w' ⟨rfl, rfl⟩) | ((with_reducible refine (in_yes x 1 (P - 1) _ hx1 hx2).mono ?_); rintro e w' ⟨rfl, rfl⟩)) | (go_at_call 35; refine (HPW.out _).mono ?_; rintro e w' ⟨rfl, rfl⟩))) | fail
            all_goals (go_wp2_with fail; go_meet; exact Fin.out _ true (fun _ => ⟨hz, hn1, hn6, hx1, by omega⟩) hrd ho)
          · have hx3 : ¬ (1 ≤ x ∧ x ≤ P - 1) := hxx
            clear hxx
            first | (go_region_with (first | (go_at_call 33; refine (HPK.out _ ?_).mono ?_; (exact rfl); rintro e w' ⟨rfl, hrd, ho⟩; have hck := (World.cell?_of_block (ho.2.2.2.2 vb (by have := HVB.out hz; omega))).trans hc0) | (go_at_call 34; first | ((with_reducible refine (in_yes n 1 6 _ hn1 hn6).mono ?_); rintro e w' ⟨rfl, rfl⟩) | ((with_reducible refine (in_no x 1 (P - 1) _ hx3).mono ?_); rintro e w' ⟨rfl, rfl⟩)) | (go_at_call 35; refine (HPW.out _).mono ?_; rintro e w' ⟨rfl, rfl⟩))) | fail
            all_goals (go_wp2_with fail; go_meet; exact Fin.out _ false (fun h => by cases h) hrd ho)
        · first | (go_region_with (first | (go_at_call 33; refine (HPK.out _ ?_).mono ?_; (exact rfl); rintro e w' ⟨rfl, hrd, ho⟩) | (go_at_call 34; refine (in_no n 1 6 _ hn).mono ?_; rintro e w' ⟨rfl, rfl⟩))) | fail
          all_goals (go_wp2_with fail; go_meet; exact Fin.out _ false (fun h => by cases h) hrd ho)
      · first | (go_region_with (go_at_call 33; refine (HPK.out _ ?_).mono ?_; (exact rfl); rintro e w' ⟨rfl, hrd, ho⟩)) | fail
        all_goals (go_wp2_with fail; go_meet; exact Fin.out _ false (fun h => by cases h) hrd ho)
    · have hkb : (k == 0) = false := by rw [beq_eq_false_iff_ne]; exact hk
      first | (go_region_with (go_at_call 33; refine (HPK.out _ ?_).mono ?_; (exact rfl); rintro e w' ⟨rfl, hrd, ho⟩)) | fail
      all_goals (go_wp2_with fail; go_meet; exact Fin.out _ false (fun h => by cases h) hrd ho)
  case rest =>
    clear hk0 hk1 HPK Fin HR HF HO
    rename_i w3
    obtain ⟨bb, rfl, hbb, hO, hR, hF⟩ := hcut
    have HO := Lib.hid hO
    have HR := Lib.hid hR
    have HF := Lib.hid hF
    have HBB := Lib.hid hbb
    clear hO hR hF hbb
    have hrb2 : rb < rb + 1 := by omega
    cases bb with
    | false =>
      go_wp2_with fail
      refine (pick_any rb 7 (p + 1) _ HR.out (by omega) (by omega)).mono ?_
      rintro e w4 ⟨k1, rfl, hk10, hk11, hrd4, ho4⟩
      have HR4 := Lib.hid hrd4
      have HO4 := Lib.hid (HO.out.only ho4 hrb2)
      have HF4 := Lib.hid (HF.out.only ho4)
      clear hrd4 ho4
      go_wp2_with fail
      refine (pick_any rb 10 (p + 1 + 1) _ HR4.out (by omega) (by omega)).mono ?_
      rintro e w5 ⟨k2, rfl, hk20, hk21, hrd5, ho5⟩
      have HO5 := Lib.hid (HO4.out.only ho5 hrb2)
      have HF5 := Lib.hid (HF4.out.only ho5)
      clear hrd5 ho5
      go_wp2_with fail
      go_ret3
      refine ⟨n, _, zs, _, rfl, by omega, HO5.out.mono (by rw [HRB.out]; omega), ?_⟩
      rw [HRB.out]
      exact HB1.out.trans (HF5.out.toBelow (Nat.le_refl _) (by rw [HS1.out]; omega))
    | true =>
      obtain ⟨hz, hn1, hn6, hx1, hx2⟩ := HBB.out rfl
      rw [HX.out] at hx1 hx2
      have hpn : (2 : Int) ^ n.toNat ≤ 64 := pow_le (a := 2) (k := n.toNat) (n := 6) (by decide) (by omega)
      have hx64 : x < 64 := by omega
      clear hx2 hpn
      obtain rfl := HVA.out hz
      go_wp2_with fail
      refine (pick_any rb n (p + 1) _ HR.out (by omega) (by omega)).mono ?_
      rintro e w4 ⟨i, rfl, hi0, hi1, hrd4, ho4⟩
      have hi6 : i < 6 := by omega
      have HO4 := Lib.hid (HO.out.only ho4 hrb2)
      have HF4 := Lib.hid (HF.out.only ho4)
      clear hrd4 ho4 hi1
      go_wp2_with fail
      refine (power2_any i _ hi0 (by omega)).mono ?_
      rintro e w5 ⟨rfl, rfl⟩
      have hp1 : (1 : Int) ≤ 2 ^ i.toNat := by have := Int.pow_pos (n := 2) (m := i.toNat) (by decide); omega
      have hp6 : (2 : Int) ^ i.toNat ≤ 64 := pow_le (a := 2) (k := i.toNat) (n := 6) (by decide) (by omega)
      obtain ⟨P, hP⟩ : ∃ P : Int, 2 ^ i.toNat = P := ⟨_, rfl⟩
      rw [hP] at hp1 hp6 ⊢
      clear hP
      have hc0 : w4.cell? ⟨vb, 0, none⟩ = some (.int .i64 x) := by
        obtain ⟨va, vb', vc', hv, _, _, hrow, _, _⟩ := HO4.out.row
        injection hv with hv
        have h1 := hrow.1 hz
        rw [← hv] at h1
        injection h1 with h1
        injection h1 with h1
        have h2 := hrow.2 0 hz
        rw [HX.out, ← h1] at h2
        exact h2
      have hsz : rb + 1 ≤ w4.heap.size := by have := HF4.out.size; rw [HS1.out] at this; omega
      have e1 : Int.tdiv x P = x / P := Int.tdiv_eq_ediv_of_nonneg (by omega)
      have hq0 : 0 ≤ x / P := Int.ediv_nonneg (by omega) (by omega)
      have hq1 : x / P ≤ x := Int.ediv_le_self _ (by omega)
      obtain ⟨Q, hQ⟩ : ∃ Q : Int, x / P = Q := ⟨_, rfl⟩
      rw [hQ] at e1 hq0 hq1
      have e2 : IntKind.i64.wrap Q = Q := IntWalk.i64_in _ ⟨by omega, by omega⟩
      have e3 : Int.tmod Q 2 = Q % 2 := Int.tmod_eq_emod_of_nonneg hq0
      have hb0 : 0 ≤ Q % 2 ∧ Q % 2 ≤ 1 := by omega
      obtain ⟨B, hBq⟩ : ∃ B : Int, Q % 2 = B := ⟨_, rfl⟩
      rw [hBq] at e3 hb0
      have m1 : 0 ≤ B * P ∧ B * P ≤ 64 := by
        rcases (show B = 0 ∨ B = 1 by omega) with rfl | rfl <;> omega
      have m2 : 0 ≤ (1 - B) * P ∧ (1 - B) * P ≤ 64 := by
        rcases (show B = 0 ∨ B = 1 by omega) with rfl | rfl <;> omega
      obtain ⟨C, hC⟩ : ∃ C : Int, B * P = C := ⟨_, rfl⟩
      obtain ⟨E, hE⟩ : ∃ E : Int, (1 - B) * P = E := ⟨_, rfl⟩
      rw [hC] at m1
      rw [hE] at m2
      have e4 : IntKind.i64.wrap (B * P) = C := by rw [hC]; exact IntWalk.i64_in _ ⟨by omega, by omega⟩
      have e5 : IntKind.i64.wrap (x - C) = x - C := IntWalk.i64_in _ ⟨by omega, by omega⟩
      have e6 : IntKind.i64.wrap (1 - B) = 1 - B := IntWalk.i64_in _ ⟨by omega, by omega⟩
      have e7 : IntKind.i64.wrap ((1 - B) * P) = E := by rw [hE]; exact IntWalk.i64_in _ ⟨by omega, by omega⟩
      have e8 : IntKind.i64.wrap (x - C + E) = x - C + E := IntWalk.i64_in _ ⟨by omega, by omega⟩
      have hPz : (P == 0) = false := by rw [beq_eq_false_iff_ne]; omega
      have hPn : ¬ P = 0 := by omega
      have hPf : (P = 0) = False := by simp [hPn]
      clear hQ hBq hC hE hb0 m1 m2 hq0 hq1
      have fin : ∀ (v' : Value) (z : Int) (w' : World), Own w' (rb + 1) v' (zs ++ [z]) → Below (rb + 1) w4 w' → DrawnM w (.returned (.tuple #[.int .i64 n, v', .int .i64 i])) w' := fun v' z w' h1 h2 => by
        refine ⟨n, v', zs ++ [z], i, rfl, by simp; omega, h1.mono (by rw [HRB.out]; omega), ?_⟩
        rw [HRB.out]
        exact HB1.out.trans ((HF4.out.toBelow (Nat.le_refl _) (by rw [HS1.out]; omega)).trans (h2.mono (by omega)))
      have Fin := Lib.hid fin
      clear fin
      go_wp2_with fail
      go_region_law (first | (refine step_app1 (w0 := w4.drew) rfl (.tmp 43) (.tmp 67) rfl (rb + 1) _ _ (by rfl) HO4.out (if 1 < x - C + E then x - C + E else 1) rfl (by rfl) (by omega) hsz ?_; intro v' w' hO2 hB2 _))
      all_goals
        have HO2 := Lib.hid hO2
        have HB2 := Lib.hid (show Below (rb + 1) w4 w' from ⟨hB2.os, hB2.tape, hB2.output, hB2.size, fun i hi => hB2.block i hi⟩)
        clear hO2 hB2
        go_wp2_with fail
        all_goals
          go_ret3
          exact Fin.out _ _ _ HO2.out HB2.out

theorem drawTold_any (ao : Option Addr) (b off cap : Nat) (cs : List Int) (w : World) (hr : Row .u8 w ao b off cs) (hl : cs.length ≤ cap) (hw : ∀ i, i < cs.length → (Lit.int .u8 (cs.getD i 0)).wf = true) (hl2 : cap ≤ 9223372036854775807) :
    Calls Try.prog 20 #[.slice ao cs.length cap] w (DrawnL w) := by
  go_enter Try.func20, Try.ntmps20
  go_wp2_with fail
  refine (drawTells_any ao b off cap cs w hr hl hw hl2).mono ?_
  rintro e w1 ⟨n, v, zs, i, rfl, hzl, hO, hB⟩
  go_wp2_with fail
  go_ret2
  exact ⟨n, v, zs, rfl, hzl, hO, hB⟩
end Go.Proofs.Ytjglikccikeejab
