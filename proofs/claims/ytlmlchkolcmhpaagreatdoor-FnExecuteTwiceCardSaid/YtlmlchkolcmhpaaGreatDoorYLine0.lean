/-
  Contract: a line of a script that is none of the others.
-/
import Derived.Test.YtlmlchkolcmhpaaGreatDoorJ3
import Derived.IntWalk
import Derived.Carry
namespace Go.Proofs.YtlmlchkolcmhpaaGreatDoor
open Go.RowKit Go.Maps Go.WideShapes
open Go.TextMath (tvB mvB text word)
attribute [local go_sem] run_makeMap

theorem step_0 {L : List Per} {ws : List (List UInt8)} (h : kindM ws = 0) : stepM L ws = (L, sWhat) := by unfold stepM; rw [h]; rfl
theorem not_kind {ws : List (List UInt8)} (h : kindM ws = 0) : wantN (ws.getD 0 []) = none ∨ ∃ m, wantN (ws.getD 0 []) = some m ∧ m ≠ (ws.length : Int) - 1 := by
  unfold kindM at h
  generalize ws.getD 0 [] = x at h
  generalize ws.length = n at h ⊢
  unfold wantN
  by_cases e1 : x = kGroups
  · right
    refine ⟨0, by rw [if_pos e1], fun e => ?_⟩
    subst e1
    obtain rfl : n = 1 := by omega
    exact absurd h (by decide)
  rw [if_neg e1]
  by_cases e2 : x = kRound
  · right
    refine ⟨1, by rw [if_pos e2], fun e => ?_⟩
    subst e2
    obtain rfl : n = 2 := by omega
    exact absurd h (by decide)
  rw [if_neg e2]
  by_cases e3 : x = kGrow
  · right
    refine ⟨2, by rw [if_pos e3], fun e => ?_⟩
    subst e3
    obtain rfl : n = 3 := by omega
    exact absurd h (by decide)
  rw [if_neg e3]
  by_cases e4 : x = kSmall
  · right
    refine ⟨1, by rw [if_pos e4], fun e => ?_⟩
    subst e4
    obtain rfl : n = 2 := by omega
    exact absurd h (by decide)
  rw [if_neg e4]
  by_cases e5 : x = kTable
  · right
    refine ⟨0, by rw [if_pos e5], fun e => ?_⟩
    subst e5
    obtain rfl : n = 1 := by omega
    exact absurd h (by decide)
  rw [if_neg e5]
  by_cases e6 : x = kCount
  · right
    refine ⟨3, by rw [if_pos e6], fun e => ?_⟩
    subst e6
    obtain rfl : n = 4 := by omega
    exact absurd h (by decide)
  rw [if_neg e6]
  by_cases e7 : x = kDrop
  · right
    refine ⟨1, by rw [if_pos e7], fun e => ?_⟩
    subst e7
    obtain rfl : n = 2 := by omega
    exact absurd h (by decide)
  rw [if_neg e7]
  by_cases e8 : x = kPerson
  · right
    refine ⟨4, by rw [if_pos e8], fun e => ?_⟩
    subst e8
    obtain rfl : n = 5 := by omega
    exact absurd h (by decide)
  rw [if_neg e8]
  exact .inl rfl

set_option maxRecDepth 100000 in
set_option maxHeartbeats 4000000 in
theorem line0 : LineC 0 := by
  intro blk L sb scap ss w hsc hv hrow hl1 hl2 hsz hl0 hl5 hlib hkind
  have HK := Lib.hid hkind
  have HSC := Lib.hid hsc
  have h0' := hrow.2 0 (by omega)
  rw [Nat.zero_add] at h0'
  have hk0 := not_kind hkind
  rw [wsL_len, wsL_at ss (by omega)] at hk0
  obtain ⟨x, hx⟩ : ∃ x, ss.getD 0 ⟨#[]⟩ = x := ⟨_, rfl⟩
  have hxs : x.size ≤ 1000 := by
    have h1 : ss.getD 0 ⟨#[]⟩ ∈ ss := by
      rw [List.getD_eq_getElem?_getD, List.getElem?_eq_getElem (by omega), Option.getD_some]
      exact List.getElem_mem _
    have := hsz _ h1
    rw [hx] at this
    omega
  rw [hx] at h0' hk0
  have hsb : sb < w.heap.size := World.block_lt_of_cell? _ _ h0'
  obtain ⟨m, hm⟩ : ∃ m, ss.length = m := ⟨_, rfl⟩
  rw [hm] at hk0 hl0 hl5 hl1 ⊢
  have hm1 : 0 ≤ (m : Int) - 1 := by omega
  have hm2 : (m : Int) - 1 ≤ 501 := by omega
  have hm0 : 0 < m := by omega
  have HSZ := Lib.hid hxs
  clear hkind hsc hv hrow hsz hlib hx hm hxs
  go_enter Tryz.func19, Tryz.ntmps19
  have HM0 := Lib.hid (MapS.start w)
  go_wp2_with (refine ins_step w _ _ _ HM0.out rfl _ _ _ rfl rfl ⟨#[112, 101, 114, 115, 111, 110]⟩ rfl (by decide) 4 rfl (by decide) (by decide) ?_)
  intro W1 hm1
  have HM1 := Lib.hid hm1
  clear hm1 HM0
  go_wp2_with (refine ins_step w _ _ _ HM1.out rfl _ _ _ rfl rfl ⟨#[100, 114, 111, 112]⟩ rfl (by decide) 1 rfl (by decide) (by decide) ?_)
  intro W2 hm2
  have HM2 := Lib.hid hm2
  clear hm2 HM1
  go_wp2_with (refine ins_step w _ _ _ HM2.out rfl _ _ _ rfl rfl ⟨#[99, 111, 117, 110, 116]⟩ rfl (by decide) 3 rfl (by decide) (by decide) ?_)
  intro W3 hm3
  have HM3 := Lib.hid hm3
  clear hm3 HM2
  go_wp2_with (refine ins_step w _ _ _ HM3.out rfl _ _ _ rfl rfl ⟨#[116, 97, 98, 108, 101]⟩ rfl (by decide) 0 rfl (by decide) (by decide) ?_)
  intro W4 hm4
  have HM4 := Lib.hid hm4
  clear hm4 HM3
  go_wp2_with (refine ins_step w _ _ _ HM4.out rfl _ _ _ rfl rfl ⟨#[115, 109, 97, 108, 108]⟩ rfl (by decide) 1 rfl (by decide) (by decide) ?_)
  intro W5 hm5
  have HM5 := Lib.hid hm5
  clear hm5 HM4
  go_wp2_with (refine ins_step w _ _ _ HM5.out rfl _ _ _ rfl rfl ⟨#[103, 114, 111, 119]⟩ rfl (by decide) 2 rfl (by decide) (by decide) ?_)
  intro W6 hm6
  have HM6 := Lib.hid hm6
  clear hm6 HM5
  go_wp2_with (refine ins_step w _ _ _ HM6.out rfl _ _ _ rfl rfl ⟨#[114, 111, 117, 110, 100]⟩ rfl (by decide) 1 rfl (by decide) (by decide) ?_)
  intro W7 hm7
  have HM7 := Lib.hid hm7
  clear hm7 HM6
  go_wp2_with (refine ins_step w _ _ _ HM7.out rfl _ _ _ rfl rfl ⟨#[103, 114, 111, 117, 112, 115]⟩ rfl (by decide) 0 rfl (by decide) (by decide) ?_)
  intro W8 hm8
  have HM8 := Lib.hid hm8
  clear hm8 HM7
  have h08 := (HM8.out.2.cell (p := ⟨sb, 0, none⟩) hsb).trans h0'
  have HB8 := Lib.hid HM8.out.2
  have HK0 := Lib.hid hk0
  have HFR := Lib.hid (show Fr blk w W8 from (Fr.refl _ _).below HB8.out)
  clear hk0
  obtain ⟨c, hc⟩ : ∃ c, (wantN x.data.toList).getD 0 = c := ⟨_, rfl⟩
  obtain ⟨q, hq⟩ : ∃ q, (wantN x.data.toList).isSome = q := ⟨_, rfl⟩
  have HC := Lib.hid hc
  have HQ := Lib.hid hq
  clear hc hq
  cases q with
  | false =>
    go_wp2_with (at_lookup; refine look_step w _ HM8.out rfl _ _ rfl rfl x rfl HSZ.out c false HC.out HQ.out ?_)
    go_wp2_with fail
    go_ret2
    refine ⟨_, true, rfl, ?_, ?_, HFR.out⟩
    · rw [step_0 HK.out]; rfl
    · rw [step_0 HK.out]
      exact HSC.out.keep HB8.out
  | true =>
    have hne : (c != (m : Int) - 1) = true := by
      rcases HK0.out with h | ⟨d, h1, h2⟩
      · have := HQ.out; rw [h] at this; cases this
      · have h3 := HC.out
        rw [h1] at h3
        simp only [Option.getD_some] at h3
        subst h3
        simp only [bne_iff_ne]
        exact h2
    go_wp2_with (at_lookup; refine look_step w _ HM8.out rfl _ _ rfl rfl x rfl HSZ.out c true HC.out HQ.out ?_)
    go_wp2_with fail
    go_ret2
    refine ⟨_, true, rfl, ?_, ?_, HFR.out⟩
    · rw [step_0 HK.out]; rfl
    · rw [step_0 HK.out]
      exact HSC.out.keep HB8.out
end Go.Proofs.YtlmlchkolcmhpaaGreatDoor
