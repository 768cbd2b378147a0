/-
  Contracts: laws.eqPersonS; people in memory.
-/
import Derived.Test.YthncpnopplhlkaaDoorPpl
import Derived.Test.YthncpnopplhlkaaDoorGrow
import Derived.Deep.RegionWith
namespace Go.Proofs.YthncpnopplhlkaaDoor
open Go.RowKit

theorem eqPer (a j s y : Int) (w : World) : Calls Tryd.prog 46 #[.agg #[.int .i64 a, .int .i64 j, .int .i64 s, .int .i64 y], .agg #[.int .i64 a, .int .i64 j, .int .i64 s, .int .i64 y]] w fun e w' => e = .returned (.bool true) ∧ Below w.heap.size w w' := by
  go_enter Tryd.func46, Tryd.ntmps46
  go_wp2_with fail
  go_ret
  exact ⟨rfl, ((Below.refl _ _).alloc (Nat.le_refl _) _).alloc (by simp) _⟩

theorem eltP : Elt 23 47 (.agg #[.int .i64 0, .int .i64 0, .int .i64 0, .int .i64 0]) 4 32 := ⟨Tryd.underlying23, by kernel_rfl, rfl, by decide, by decide⟩

/-- The first m people are laid. -/
def perF (L : List Per) (m i : Nat) : Value :=
  if i / 4 < m then (if i % 4 = 0 then .int .i64 (L.getD (i / 4) per0).area else if i % 4 = 1 then .int .i64 (L.getD (i / 4) per0).job else if i % 4 = 2 then .int .i64 (L.getD (i / 4) per0).sex else .int .i64 (L.getD (i / 4) per0).pay) else .int .i64 0

theorem per_put {W : World} {tb N k : Nat} {L : List Per} {a j s y : Int} (h : W.rowIs tb 47 N (perF L k)) (hp : L.getD k per0 = ⟨a, j, s, y⟩) :
    ((((W.setCell ⟨tb, k * 4, none⟩ (.int .i64 a)).setCell ⟨tb, k * 4 + 1, none⟩ (.int .i64 j)).setCell ⟨tb, k * 4 + 2, none⟩ (.int .i64 s)).setCell ⟨tb, k * 4 + 3, none⟩ (.int .i64 y)).rowIs tb 47 N (perF L (k + 1)) := by
  refine ((((h.set _ _).set _ _).set _ _).set _ _).congr fun i _ => ?_
  by_cases hq : i / 4 = k
  · have hr : i % 4 = 0 ∨ i % 4 = 1 ∨ i % 4 = 2 ∨ i % 4 = 3 := by omega
    have hp2 : L[k]?.getD per0 = ⟨a, j, s, y⟩ := by rw [← List.getD_eq_getElem?_getD]; exact hp
    rcases hr with hr | hr | hr | hr
    · rw [if_neg (by omega), if_neg (by omega), if_neg (by omega), if_pos (by omega)]
      simp [perF, hq, hr, hp2]
    · rw [if_neg (by omega), if_neg (by omega), if_pos (by omega)]
      simp [perF, hq, hr, hp2]
    · rw [if_neg (by omega), if_pos (by omega)]
      simp [perF, hq, hr, hp2]
    · rw [if_pos (by omega)]
      simp [perF, hq, hr, hp2]
  · rw [if_neg (by omega), if_neg (by omega), if_neg (by omega), if_neg (by omega)]
    unfold perF
    by_cases hl : i / 4 < k
    · have h2 : i / 4 < k + 1 := by omega
      simp only [if_pos hl, if_pos h2]
    · have h2 : ¬ i / 4 < k + 1 := by omega
      simp only [if_neg hl, if_neg h2]
theorem per_at {W : World} {tb : Nat} {L : List Per} (h : W.rowIs tb 47 (L.length * 4) (perF L L.length)) {i : Nat} (hi : i < L.length) : PerAt W tb (0 + i * 4) (L.getD i per0) := by
  rw [Nat.zero_add]
  have e0 : i * 4 / 4 = i := by omega
  have e1 : (i * 4 + 1) / 4 = i := by omega
  have e2 : (i * 4 + 2) / 4 = i := by omega
  have e3 : (i * 4 + 3) / 4 = i := by omega
  have m0 : i * 4 % 4 = 0 := by omega
  have m1 : (i * 4 + 1) % 4 = 1 := by omega
  have m2 : (i * 4 + 2) % 4 = 2 := by omega
  have m3 : (i * 4 + 3) % 4 = 3 := by omega
  refine ⟨?_, ?_, ?_, ?_⟩
  · rw [h.cell (by omega)]; unfold perF; rw [e0, m0, if_pos hi, if_pos rfl]
  · rw [h.cell (by omega)]; unfold perF; rw [e1, m1, if_pos hi]; rfl
  · rw [h.cell (by omega)]; unfold perF; rw [e2, m2, if_pos hi]; rfl
  · rw [h.cell (by omega)]; unfold perF; rw [e3, m3, if_pos hi]; rfl
theorem per_made (w : World) (L : List Per) : (w.alloc (.cells (madeCells #[.int .i64 0, .int .i64 0, .int .i64 0, .int .i64 0] (L.length * 4)) 47)).rowIs w.heap.size 47 (L.length * 4) (perF L 0) := by
  refine ⟨_, heap_alloc_new _ _, size_madeCells _ _, fun i hi => ?_⟩
  have hr : i % 4 = 0 ∨ i % 4 = 1 ∨ i % 4 = 2 ∨ i % 4 = 3 := by omega
  unfold perF
  rw [if_neg (by omega)]
  have hx : (Array.range (L.length * 4))[i]? = some i := by simp [hi]
  simp only [madeCells, Array.getElem?_map, hx]
  rcases hr with hr | hr | hr | hr <;> simp [hr]

theorem make_ppl (n : Nat) (hn : n ≤ 1048576) (w : World) :
    (Instr.makeSlice 23 (.int .i64 (n : Int)) (.int .i64 (n : Int))).run Tryd.prog w = .ok (.slice (some ⟨w.heap.size, 0, none⟩) n n) (w.alloc (.cells (madeCells #[.int .i64 0, .int .i64 0, .int .i64 0, .int .i64 0] (n * 4)) 47)) := by
  obtain ⟨i0, hi, hz0, hz1, hz2⟩ := info_parts eltP.info
  have hr := run_make (P := Tryd.prog) w 23 47 i0 _ eltP.und hi hz0 .i64 .i64 n n (by omega) (Int.le_refl _) (by rw [hz2]; omega) (by omega)
  simp only [Int.toNat_natCast, hz1] at hr
  exact hr

set_option maxHeartbeats 1000000 in
theorem eqPers (ao bo : Option Addr) (b off cap c off2 cap2 : Nat) (L : List Per) (w : World) (hr1 : Ppl w ao b off L) (hr2 : Ppl w bo c off2 L) (hl : L.length ≤ 9223372036854775807) :
    Calls Tryd.prog 24 #[.slice ao L.length cap, .slice bo L.length cap2] w fun e w' => e = .returned (.bool true) ∧ Below w.heap.size w w' := by
  have H1 := Lib.hid hr1
  have H2 := Lib.hid hr2
  clear hr1 hr2
  go_enter Tryd.func24, Tryd.ntmps24
  go_wp2_with fail
  go_loopw [5] (fun t wr => (∃ k : Nat, k ≤ L.length ∧ t = .int .i64 k) ∧ Below w.heap.size w wr) (fun t _ => L.length - (intOf t).toNat)
  case atStart => exact ⟨⟨0, Nat.zero_le _, rfl⟩, Below.refl _ _⟩
  case round =>
    obtain ⟨⟨k, hk, rfl⟩, hb⟩ := hrel
    have HB := Lib.hid hb
    have hsz := hb.size
    by_cases hlt : k < L.length
    · have h1 := (H1.out.keep hb (Nat.le_refl _)).2 k hlt
      have h2 := (H2.out.keep hb (Nat.le_refl _)).2 k hlt
      obtain rfl := H1.out.1 (by omega)
      obtain rfl := H2.out.1 (by omega)
      obtain ⟨p, hp⟩ : ∃ p, L.getD k per0 = p := ⟨_, rfl⟩
      rw [hp] at h1 h2
      clear hp hb
      obtain ⟨a, j, s, y⟩ := p
      obtain ⟨c0, c1, c2, c3⟩ := h1
      obtain ⟨d0, d1, d2, d3⟩ := h2
      simp only at c0 c1 c2 c3 d0 d1 d2 d3
      go_wp2_with fail
      go_region_with (go_at_call 46; refine (eqPer a j s y _).mono ?_; rintro e w1 ⟨rfl, hb1⟩; have HB1 := Lib.hid hb1; clear hb1)
      all_goals
        go_wp2_with fail
        go_roundw
        case rel => exact ⟨⟨k + 1, by omega, by go_num⟩, HB.out.trans (((Below.refl _ _).drew.trans HB1.out).mono hsz)⟩
        case measure => simp [intOf]; omega
    · clear hb
      go_wp2_with fail
      go_ret
      exact ⟨rfl, HB.out⟩
end Go.Proofs.YthncpnopplhlkaaDoor
