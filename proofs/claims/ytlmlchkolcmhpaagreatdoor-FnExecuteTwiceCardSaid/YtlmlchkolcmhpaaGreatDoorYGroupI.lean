/-
  Contracts: impl.LadderValid, RecodeValid, ladderCode, RecodePeople, groupOf, groupsOf, GroupLeast, GroupMany, AnonKeep, AnonDrop, GroupUniques, without a ladder.
-/
import Derived.Test.YtlmlchkolcmhpaaGreatDoorJ7
import Derived.Test.YtlmlchkolcmhpaaGreatDoorJ6
import Derived.Test.YtlmlchkolcmhpaaGreatDoorJ3
import Derived.Maps.RangeWalk
import Derived.Deep.RegionWith
import Derived.IntWalk
import Derived.Carry
namespace Go.Proofs.YtlmlchkolcmhpaaGreatDoor
open Go.RowKit Go.Maps Go.WideShapes

theorem gkeyP : GKey kp where
  key p hp := keyP.key (keyOf_kp hp)
  same := kp_same

/-- The recoding that leaves all as it is. -/
def rec0 : Value := .agg #[.int .i64 0, .int .i64 0, .int .i64 0]

set_option maxHeartbeats 1000000 in
theorem ladderI (a : Option Addr) (c : Nat) (w : World) : Calls Tryz.prog 151 #[.slice a 0 c] w fun e w' => e = .returned (.bool true) ∧ w = w' := by
  go_enter Tryz.func151, Tryz.ntmps151
  go_wp2_with fail
  go_loop [12] (fun i => i = .int .i64 0) (fun _ => 0)
  case atStart => rfl
  case round =>
    subst hrel
    go_wp2_with fail
    go_ret
    exact ⟨rfl, rfl⟩

set_option maxHeartbeats 1000000 in
theorem ladderCodeI (a : Option Addr) (c : Nat) (x : Int) (w : World) : Calls Tryz.prog 121 #[.slice a 0 c, .int .i64 0, .int .i64 x] w fun e w' => e = .returned (.int .i64 x) ∧ w = w' := by
  go_enter Tryz.func121, Tryz.ntmps121
  go_wp2_with fail
  go_ret
  exact ⟨rfl, rfl⟩

set_option maxHeartbeats 1000000 in
theorem recValidI (a : Option Addr) (c : Nat) (w : World) : Calls Tryz.prog 120 #[.slice a 0 c, .agg #[.int .i64 0, .int .i64 0, .int .i64 0]] w fun e w' => e = .returned (.bool true) ∧ Below w.heap.size w w' := by
  go_enter Tryz.func120, Tryz.ntmps120
  go_wp2_with fail
  refine (ladderI a c _).mono ?_
  rintro e w' ⟨rfl, rfl⟩
  go_wp2_with fail
  refine (isSex_any 0 _).mono ?_
  rintro e w' ⟨rfl, rfl⟩
  rw [dec_t ⟨by decide, by decide⟩]
  go_wp2_with fail
  refine (isSex_any 0 _).mono ?_
  rintro e w' ⟨rfl, rfl⟩
  rw [dec_t ⟨by decide, by decide⟩]
  go_wp2_with fail
  go_ret
  exact ⟨rfl, (Below.refl _ _).alloc (Nat.le_refl _) _⟩

set_option maxHeartbeats 1000000 in
theorem groupOfI (p : Per) (w : World) : Calls Tryz.prog 122 #[.agg #[.int .i64 p.area, .int .i64 p.job, .int .i64 p.sex, .int .i64 p.pay]] w fun e w' => e = .returned (gv p) ∧ Below w.heap.size w w' := by
  go_enter Tryz.func122, Tryz.ntmps122
  go_wp2_with fail
  exact bodyPost_ret (v := .agg #[.int .i64 p.area, .int .i64 p.job, .int .i64 p.sex, .int .i64 0]) (by simp [results, Tryz.results122, go_sem]) rfl ⟨rfl, ((Below.refl _ _).alloc (Nat.le_refl _) _).alloc (by simp) _⟩

/-- What the loop of RecodePeople keeps. -/
def RecR (w : World) (L : List Per) (k : Nat) (v : Value) (wr : World) : Prop :=
  OwnPpl wr (w.heap.size + 1) v (L.take k) ∧ Below w.heap.size w wr ∧ w.heap.size + 1 ≤ wr.heap.size ∧ wr.cell? ⟨w.heap.size, 0, none⟩ = some (.int .i64 0) ∧ wr.cell? ⟨w.heap.size, 1, none⟩ = some (.int .i64 0) ∧ wr.cell? ⟨w.heap.size, 2, none⟩ = some (.int .i64 0)

set_option maxRecDepth 100000 in
set_option maxHeartbeats 4000000 in
theorem recodeI (ao : Option Addr) (b cap : Nat) (L : List Per) (la : Option Addr) (lc : Nat) (w : World) (hr : Ppl w ao b 0 L) (hv : pplB L = true) :
    Calls Tryz.prog 85 #[.slice ao L.length cap, .slice la 0 lc, .agg #[.int .i64 0, .int .i64 0, .int .i64 0]] w fun e w' => ∃ v, e = .returned (.tuple #[v, .bool true]) ∧ OwnPpl w' w.heap.size v L ∧ Below w.heap.size w w' := by
  have h40 := (ppl_t.1 hv).1
  have HV := Lib.hid hv
  have HR := Lib.hid hr
  have HC := Lib.hid (fun (W : World) (hb : Below w.heap.size w W) => peopleI ao b 0 cap L W (hr.keep hb (Nat.le_refl _)) (by omega))
  clear hr hv
  go_enter Tryz.func85, Tryz.ntmps85
  go_wp2_with fail
  have hb1 : Below w.heap.size w (w.alloc (.cells #[.int .i64 0, .int .i64 0, .int .i64 0] 81)) := (Below.refl _ _).alloc (Nat.le_refl _) _
  obtain ⟨W1, hW1⟩ : ∃ W1, w.alloc (.cells #[.int .i64 0, .int .i64 0, .int .i64 0] 81) = W1 := ⟨_, rfl⟩
  have r0 : W1.cell? ⟨w.heap.size, 0, none⟩ = some (.int .i64 0) := by rw [← hW1, World.cell?_alloc_new]; rfl
  have r1 : W1.cell? ⟨w.heap.size, 1, none⟩ = some (.int .i64 0) := by rw [← hW1, World.cell?_alloc_new]; rfl
  have r2 : W1.cell? ⟨w.heap.size, 2, none⟩ = some (.int .i64 0) := by rw [← hW1, World.cell?_alloc_new]; rfl
  have hs1 : w.heap.size + 1 ≤ W1.heap.size := by rw [← hW1]; simp
  rw [hW1] at hb1 ⊢
  have HB1 := Lib.hid hb1
  clear hb1 hW1
  refine (HC.out W1 HB1.out).mono ?_
  rintro e w2 ⟨rfl, hb2⟩
  rw [HV.out]
  have q0 := (hb2.cell (p := ⟨w.heap.size, 0, none⟩) hs1).trans r0
  have q1 := (hb2.cell (p := ⟨w.heap.size, 1, none⟩) hs1).trans r1
  have q2 := (hb2.cell (p := ⟨w.heap.size, 2, none⟩) hs1).trans r2
  have HB2 := Lib.hid (HB1.out.trans (hb2.mono HB1.out.size))
  have hs2 := Nat.le_trans hs1 hb2.size
  clear hb2 r0 r1 r2 HC
  go_wp2_with fail
  refine (recValidI la lc _).mono ?_
  rintro e w3 ⟨rfl, hb3⟩
  have HI := Lib.hid (show RecR w L 0 (.slice none 0 0) w3 from ⟨World.ownsRow_nil _ _ _ _, HB2.out.trans (hb3.mono HB2.out.size), Nat.le_trans hs2 hb3.size, (hb3.cell (p := ⟨w.heap.size, 0, none⟩) hs2).trans q0, (hb3.cell (p := ⟨w.heap.size, 1, none⟩) hs2).trans q1, (hb3.cell (p := ⟨w.heap.size, 2, none⟩) hs2).trans q2⟩)
  clear hb3 q0 q1 q2 HB2 hs2 hs1
  go_wp2_with fail
  go_loopw [8, 22] (fun v i wr => ∃ k : Nat, k ≤ L.length ∧ i = .int .i64 k ∧ RecR w L k v wr) (fun _ i _ => L.length - (intOf i).toNat)
  case atStart => exact ⟨0, Nat.zero_le _, rfl, HI.out⟩
  case round =>
    obtain ⟨k, hk, rfl, hown, hb, hsw, r0, r1, r2⟩ := hrel
    have HB := Lib.hid hb
    by_cases hlt : k < L.length
    · have h2 := (HR.out.keep HB.out (Nat.le_refl _)).2 k hlt
      obtain rfl := HR.out.1 (by omega)
      have hpo := (ppl_t.1 HV.out).2 k hlt
      have HT := Lib.hid (show L.take (k + 1) = L.take k ++ [L.getD k per0] by rw [List.take_add_one, List.getD_eq_getElem?_getD, List.getElem?_eq_getElem hlt]; rfl)
      obtain ⟨p, hp⟩ : ∃ p, L.getD k per0 = p := ⟨_, rfl⟩
      rw [hp] at h2 HT hpo
      clear hp
      obtain ⟨p0, p1, p2, p3⟩ := p
      obtain ⟨c0, c1, c2, c3⟩ := h2
      unfold PerOk at hpo
      simp only [Nat.zero_add] at c0 c1 c2 c3 hpo
      obtain ⟨⟨a1, a2⟩, ⟨a3, a4⟩, ⟨a5, a6⟩, a7, a8⟩ := hpo
      obtain ⟨M, hM⟩ : ∃ M, L.take k = M := ⟨_, rfl⟩
      have hml : M.length ≤ 40 := by rw [← hM, List.length_take]; omega
      rw [hM] at hown HT
      have HO := Lib.hid hown
      have R0 := Lib.hid r0
      have R1 := Lib.hid r1
      have R2 := Lib.hid r2
      obtain ⟨aM, bM, cM, hvM, -, -, -, -⟩ := hown.ppl
      subst hvM
      have HML := Lib.hid (show M.length ≤ 1000000000 by omega)
      have hwl : w.heap.size < wr.heap.size := hsw
      have hwn : w.heap.size ≠ wr.heap.size := by omega
      have HOA := Lib.hid (show OwnPpl (wr.alloc (.cells #[.int .i64 p0, .int .i64 p1, .int .i64 p2, .int .i64 p3] 69)) (w.heap.size + 1) (.slice aM M.length cM) M from World.ownsRow.alloc hown _)
      clear hown hb hM
      go_wp2_with fail
      refine (ladderCodeI la lc p0 _).mono ?_
      rintro e w4 ⟨rfl, rfl⟩
      go_upto_region 10 with fail
      have hal := (Below.refl wr.heap.size wr).alloc (Nat.le_refl _) (.cells #[.int .i64 p0, .int .i64 p1, .int .i64 p2, .int .i64 p3] 69)
      have hs9 : w.heap.size + 1 ≤ (wr.alloc (.cells #[.int .i64 p0, .int .i64 p1, .int .i64 p2, .int .i64 p3] 69)).heap.size := by simp; omega
      obtain ⟨V, hV⟩ : ∃ V, wr.alloc (.cells #[.int .i64 p0, .int .i64 p1, .int .i64 p2, .int .i64 p3] 69) = V := ⟨_, rfl⟩
      have v0 : V.cell? ⟨wr.heap.size, 0, none⟩ = some (.int .i64 p0) := by rw [← hV, World.cell?_alloc_new]; rfl
      have v1 : V.cell? ⟨wr.heap.size, 1, none⟩ = some (.int .i64 p1) := by rw [← hV, World.cell?_alloc_new]; rfl
      have v2 : V.cell? ⟨wr.heap.size, 2, none⟩ = some (.int .i64 p2) := by rw [← hV, World.cell?_alloc_new]; rfl
      have v3 : V.cell? ⟨wr.heap.size, 3, none⟩ = some (.int .i64 p3) := by rw [← hV, World.cell?_alloc_new]; rfl
      rw [hV] at HOA hal hs9 ⊢
      have HAL := Lib.hid hal
      clear hV c0 c1 c2 c3 hal r0 r1 r2
      go_wp2_with (at_builtin; refine wpList_app eltP rfl (.tmp 47) (.tmp 49) rfl (w.heap.size + 1) _ _ _ rfl HOA.out [.int .i64 p0, .int .i64 p1, .int .i64 p2, .int .i64 p3] rfl (by intro u hu; simp at hu; rcases hu with rfl | rfl | rfl | rfl <;> rfl) rfl rfl HML.out hs9 ?_)
      intro v' w9 ho9 hb9 _
      have HO9 := Lib.hid (show OwnPpl w9 (w.heap.size + 1) v' (M ++ [⟨p0, p1, p2, p3⟩]) by unfold OwnPpl; rw [pc_snoc, List.length_append, List.length_singleton]; exact ho9)
      have h19 := (HAL.out.mono hsw).trans hb9
      have HNW := Lib.hid (show RecR w L (k + 1) v' w9 from ⟨by rw [HT.out]; exact HO9.out, HB.out.trans (h19.mono (Nat.le_succ _)), Nat.le_trans hsw h19.size, (h19.cell (p := ⟨w.heap.size, 0, none⟩) (Nat.lt_succ_self _)).trans R0.out, (h19.cell (p := ⟨w.heap.size, 1, none⟩) (Nat.lt_succ_self _)).trans R1.out, (h19.cell (p := ⟨w.heap.size, 2, none⟩) (Nat.lt_succ_self _)).trans R2.out⟩)
      clear ho9 hb9 h19 v0 v1 v2 v3
      go_wp2_with fail
      go_roundw
      case rel => exact ⟨k + 1, by omega, by go_num, HNW.out⟩
      case measure => simp [intOf]; omega
    · obtain rfl : k = L.length := by omega
      rw [List.take_length] at hown
      have HO := Lib.hid (own_mono hown (Nat.le_succ _))
      obtain ⟨aM, bM, cM, hvM, -, -, -, -⟩ := hown.ppl
      subst hvM
      clear hown hb r0 r1 r2
      go_wp2_with fail
      go_ret2
      exact ⟨_, rfl, HO.out, HB.out⟩
end Go.Proofs.YtlmlchkolcmhpaaGreatDoor
