/-
  Contracts: spec.DrawNoiseDraw.
-/
import Derived.Test.YtjglikccikeejacNoiseDraw
import Derived.Deep.RegionWith
namespace Go.Proofs.Ytjglikccikeejac
open Go.RowKit

/-- The numbers and a lot. -/
def DrawnLot (w : World) (e : Ending) (w' : World) : Prop :=
  ∃ (n a x lot : Int), e = .returned (.tuple #[.int .i64 n, .int .i64 a, .int .i64 x, .int .i64 lot]) ∧ -1 ≤ lot ∧ lot ≤ 1000000000000 ∧ Below w.heap.size w w'

theorem nv_nat {n a x : Int} (h : nvB n a x = true) : ∃ n' a' x' : Nat, n = n' ∧ a = a' ∧ x = x' ∧ 1 ≤ n' ∧ n' ≤ 12 ∧ 2 ≤ a' ∧ a' ≤ 5 ∧ x' ≤ n' := by
  have h : 1 ≤ n ∧ n ≤ 12 ∧ 2 ≤ a ∧ a ≤ 5 ∧ 0 ≤ x ∧ x ≤ n := by simpa [nvB] using h
  exact ⟨n.toNat, a.toNat, x.toNat, by omega, by omega, by omega, by omega, by omega, by omega, by omega, by omega⟩

theorem pick_two (k u v : Int) (h0 : 0 ≤ k) (h1 : k < 2 ∨ k = 0) : ∃ z : Int, (#[Value.int .i64 u, .int .i64 v] : Array Value)[k.toNat]? = some (.int .i64 z) ∧ (z = u ∨ z = v) := by
  have hk : k = 0 ∨ k = 1 := by omega
  rcases hk with rfl | rfl
  · exact ⟨u, rfl, .inl rfl⟩
  · exact ⟨v, rfl, .inr rfl⟩

theorem two_cell {rb : Nat} {w0 w6 : World} {u v z k : Int} (hrb : rb < w0.heap.size) (ho : Only rb (w0.alloc (.cells #[.int .i64 u, .int .i64 v] 3)).drew w6)
    (hz : (#[Value.int .i64 u, .int .i64 v] : Array Value)[k.toNat]? = some (.int .i64 z)) : w6.cell? ⟨w0.heap.size, k.toNat, none⟩ = some (.int .i64 z) := by
  have hb := ho.2.2.2.2 w0.heap.size (by omega)
  rw [World.cell?_of_block (w := (w0.alloc (.cells #[.int .i64 u, .int .i64 v] 3)).drew) hb]
  show (w0.alloc (.cells #[.int .i64 u, .int .i64 v] 3)).cell? _ = _
  rw [World.cell?_alloc_new]; exact hz

set_option maxHeartbeats 8000000 in
theorem drawNoise_any (ao : Option Addr) (b off cap : Nat) (cs : List Int) (w : World) (hr : Row .u8 w ao b off cs) (hl : cs.length ≤ cap) (hw : ∀ i, i < cs.length → (Lit.int .u8 (cs.getD i 0)).wf = true) (hl2 : cap ≤ 9223372036854775807) :
    Calls Try.prog 7 #[.slice ao cs.length cap] w (DrawnLot w) := by
  go_enter Try.func7, Try.ntmps7
  go_wp2_with fail
  refine (open_any ao b off cap cs w hr hl hw hl2).mono ?_
  rintro e w1 ⟨rfl, hb1, hrd1, hs1⟩
  go_wp2_with fail
  refine (noise_any w.heap.size 0 w1 hrd1 (by omega)).mono ?_
  rintro e w2 ⟨n, a, x, y, p, rfl, hn0, hn1, ha0, ha1, hx0, hx1, hR, hp, hF⟩
  have hB2 := Lib.hid (hb1.trans (hF.toBelow (Nat.le_refl _) (by omega)))
  have HR := Lib.hid hR
  clear hR hF hb1 hrd1
  cases hv : nvB n a x with
  | false =>
    have Hv := Lib.hid hv
    clear hv
    go_wp2_with fail
    refine (totalS_no _ _ _ _ Hv.out).mono ?_
    rintro e w' ⟨rfl, rfl⟩
    go_wp2_with fail
    have hlt := HR.out.lt
    go_region_with (go_at_call 15; refine (pick_any w.heap.size 2 p _ ?_ (by omega) (by omega)).mono ?_; (first | exact HR.out.drew | exact (HR.out.alloc _).drew); rintro e w6 ⟨k6, rfl, hk60, hk61, hrd6, ho6⟩; obtain ⟨z, hz, hz1⟩ := pick_two k6 (-1) 0 hk60 hk61; try (have hzc := two_cell hlt ho6 hz); have hk6z : k6 < 2 := by omega)
    all_goals go_wp2_with fail
    all_goals refine bodyPost_ret (results_tmp4 rfl _ _ _) rfl ?_
    all_goals go_light
    · exact ⟨n, a, x, z, rfl, by omega, by omega, (hB2.out.alloc hB2.out.size _).drew.trans (ho6.below (Nat.le_refl _))⟩
    · have hs6 := ho6.2.2.2.1
      have hB6 : Below w.heap.size w (w6.alloc (.cells #[Value.int .i64 (-1), Value.int .i64 0] 3)) := (hB2.out.drew.trans (ho6.below (Nat.le_refl _))).alloc (by have := hB2.out.size; simp at hs6; omega) _
      clear hz
      rcases (show k6 = 0 ∨ k6 = 1 from by omega) with rfl | rfl
      · exact ⟨n, a, x, -1, rfl, by omega, by omega, hB6⟩
      · exact ⟨n, a, x, 0, rfl, by omega, by omega, hB6⟩
    · have hs6 := ho6.2.2.2.1
      have hB6 : Below w.heap.size w (w6.alloc (.cells #[Value.int .i64 (-1), Value.int .i64 0] 3)) := (hB2.out.drew.trans (ho6.below (Nat.le_refl _))).alloc (by have := hB2.out.size; simp at hs6; omega) _
      clear hz
      rcases (show k6 = 0 ∨ k6 = 1 from by omega) with rfl | rfl
      · exact ⟨n, a, x, -1, rfl, by omega, by omega, hB6⟩
      · exact ⟨n, a, x, 0, rfl, by omega, by omega, hB6⟩
  | true =>
    obtain ⟨n, a, x, rfl, rfl, rfl, g1, g2, g3, g4, g5⟩ := nv_nat hv
    clear hv
    go_wp2_with fail
    refine (totalS _ _ _ _ g1 g2 g3 g4 g5).mono ?_
    rintro e w' ⟨rfl, rfl⟩
    have hc1 := cum_le (n := n) (x := x) g3 g4 g2 (n + 1)
    have hc0 : 1 ≤ cum n a x (n + 1) := by
      have := cum_nonneg (n := n) (x := x) g3 g4 g2 n
      have := (wN_bound (x := x) (y := n) g3 g4 g2).1
      simp only [cum]; omega
    generalize cum n a x (n + 1) = C at *
    go_wp2_with fail
    refine (pick_any w.heap.size _ p _ HR.out (by omega) (by omega)).mono ?_
    rintro e w3 ⟨k3, rfl, hk30, hk31, hrd3, ho3⟩
    have HR3 := Lib.hid hrd3
    have HB3 := Lib.hid (hB2.out.trans (ho3.below (Nat.le_refl _)))
    have hlt := hrd3.lt
    clear hrd3 ho3
    by_cases c0 : k3 = 0
    · subst c0
      have h0C : 0 < C := by omega
      go_wp2_with fail
      go_region_with (go_at_call 15; refine (pick_any w.heap.size 2 (p + 1) _ ?_ (by omega) (by omega)).mono ?_; (first | exact HR3.out.drew | exact (HR3.out.alloc _).drew); rintro e w6 ⟨k6, rfl, hk60, hk61, hrd6, ho6⟩; obtain ⟨z, hz, hz1⟩ := pick_two k6 (-1) C hk60 hk61; try (have hzc := two_cell hlt ho6 hz); have hk6z : k6 < 2 := by omega)
      all_goals go_wp2_with fail
      all_goals refine bodyPost_ret (results_tmp4 rfl _ _ _) rfl ?_
      all_goals go_light
      · exact ⟨n, a, x, z, rfl, by omega, by omega, (HB3.out.alloc HB3.out.size _).drew.trans (ho6.below (Nat.le_refl _))⟩
      all_goals
        have hs6 := ho6.2.2.2.1
        have hB6 : Below w.heap.size w (w6.alloc (.cells #[Value.int .i64 (-1), Value.int .i64 C] 3)) := (HB3.out.drew.trans (ho6.below (Nat.le_refl _))).alloc (by have := HB3.out.size; simp at hs6; omega) _
        clear hz
        rcases (show k6 = 0 ∨ k6 = 1 from by omega) with rfl | rfl
        · exact ⟨n, a, x, -1, rfl, by omega, by omega, hB6⟩
        · exact ⟨n, a, x, C, rfl, by omega, by omega, hB6⟩
    · have n0 : (k3 == 0) = false := by rw [beq_eq_false_iff_ne]; omega
      go_wp2_with fail
      go_region_with (go_at_call 15; first | ((with_reducible refine (pick_any w.heap.size 200 (p + 1) _ HR3.out.drew (by omega) (by omega)).mono ?_); rintro e w6 ⟨k6, rfl, hk60, hk61, hrd6, ho6⟩; have e1 : IntKind.i64.wrap (k6 * 7919) = k6 * 7919 := IntWalk.i64_in _ ⟨by omega, by omega⟩) | ((with_reducible refine (pick_any w.heap.size 200 (p + 1 + 1) _ (by assumption) (by omega) (by omega)).mono ?_); rintro e w7 ⟨k7, rfl, hk70, hk71, hrd7, ho7⟩; have e2 : IntKind.i64.wrap (k6 * 7919 + k7) = k6 * 7919 + k7 := IntWalk.i64_in _ ⟨by omega, by omega⟩; have e3 : 0 ≤ k6 * 7919 + k7 := by omega))
      all_goals go_wp2_with fail
      all_goals refine bodyPost_ret (results_tmp4 rfl _ _ _) rfl ?_
      all_goals go_light
      have hm0 : 0 ≤ (k6 * 7919 + k7) % C := Int.emod_nonneg _ (by omega)
      have hm1 : (k6 * 7919 + k7) % C < C := Int.emod_lt_of_pos _ (by omega)
      have hB7 : Below w.heap.size w w7 := (HB3.out.drew.trans (ho6.below (Nat.le_refl _))).trans (ho7.below (Nat.le_refl _))
      exact ⟨n, a, x, _, rfl, by omega, by omega, hB7⟩

end Go.Proofs.Ytjglikccikeejac
