/-
  Contracts: spec.l93Questions: drawn questions.
-/
import Derived.Test.YtjglikccikeejabOwn
import Derived.Test.YtjglikccikeejabPow2
namespace Go.Proofs.Ytjglikccikeejab
open Go.RowKit

/-- What is drawn: a number and questions. -/
def Drawn (rb : Nat) (p : Int) (w : World) (e : Ending) (w' : World) : Prop :=
  ∃ (n p' : Int) (v : Value) (zs : List Int), e = .returned (.tuple #[.int .i64 n, v]) ∧ 0 ≤ n ∧ n ≤ 7 ∧ zs.length ≤ 13 ∧ (∀ z ∈ zs, 0 ≤ z ∧ z ≤ 64) ∧ Own w' w.heap.size v zs ∧ IsRd w' rb p' ∧ p' ≤ p + 20 ∧ Fr rb w w'

set_option maxHeartbeats 1000000 in
theorem questions_any (rb : Nat) (p : Int) (w : World) (h : IsRd w rb p) (hp : p ≤ 900000000) :
    Calls Try.prog 32 #[.pointer (some ⟨rb, 0, none⟩)] w (Drawn rb p w) := by
  have hrb := h.lt
  have hp0 : 0 ≤ p := by obtain ⟨_, _, _, _, _, _, _, _, _, _, h0⟩ := h; exact h0
  go_enter Try.func32, Try.ntmps32
  go_wp2_with fail
  refine (pick_any rb 6 p _ h (by omega) (by omega)).mono ?_
  rintro e w1 ⟨k1, rfl, hk10, hk11, hrd1, ho1⟩
  have hk12 : k1 ≤ 5 := by omega
  go_wp2_with fail
  refine (pick_any rb 5 (p + 1) _ (hrd1.alloc _) (by omega) (by omega)).mono ?_
  rintro e w2 ⟨k2, rfl, hk20, hk21, hrd2, ho2⟩
  have hk22 : k2 ≤ 4 := by omega
  have hF2 : Fr rb w w2 := (((Fr.refl rb w).only ho1).alloc _).only ho2
  have hO2 : Own w2 w.heap.size (.slice (some ⟨w1.heap.size, 0, none⟩) 0 0) [] := by
    refine Own.only (rb := rb) ?_ ho2 (by omega)
    exact Own.lit [] (Nat.le_of_eq ho1.2.2.2.1.symm) (by simp)
  clear ho1 hrd1 hk11 hk21 ho2
  go_wp2_with fail
  obtain ⟨m, rfl⟩ := Int.eq_ofNat_of_zero_le hk20
  go_loopw [5, 7] (fun v i wr => ∃ (k : Nat) (zs : List Int), i = .int .i64 k ∧ k ≤ m ∧ zs.length = k ∧ (∀ z ∈ zs, 0 ≤ z ∧ z ≤ 64) ∧ Own wr w.heap.size v zs ∧ IsRd wr rb (p + 1 + 1 + k) ∧ Fr rb w wr) (fun _ i _ => m - (intOf i).toNat)
  case atStart => exact ⟨0, [], rfl, Nat.zero_le _, rfl, by simp, hO2, by simpa using hrd2, hF2⟩
  case round =>
    clear hO2 hrd2 hF2
    obtain ⟨k, zs, rfl, hk, hzl, hzb, hO, hR, hF⟩ := hrel
    have HO := Lib.hid hO
    have HR := Lib.hid hR
    have HF := Lib.hid hF
    have HZ := Lib.hid hzb
    have HL := Lib.hid hzl
    clear hO hR hF hzb hzl
    by_cases hlt : k < m
    · go_wp2_with fail
      have hpw := two_le (n := (1 + k1).toNat) (by omega)
      have hpp : (0 : Int) < 2 ^ (1 + k1).toNat := Int.pow_pos (by omega)
      have hp6 : (2 : Int) ^ (1 + k1).toNat ≤ 64 := by have := pow_le (a := 2) (k := (1 + k1).toNat) (n := 6) (by decide) (by omega); exact this
      refine (power2_any _ _ (by omega) (by omega)).mono ?_
      rintro e w3 ⟨rfl, rfl⟩
      go_wp2_with fail
      refine (pick_any rb _ (p + 1 + 1 + k) _ HR.out (by omega) (by omega)).mono ?_
      rintro e w3 ⟨k3, rfl, hk30, hk31, hrd3, ho3⟩
      have hk32 : k3 ≤ 63 := by omega
      have HO3 := Lib.hid (HO.out.only ho3 (by omega))
      have HF3 := Lib.hid (HF.out.only ho3)
      have HR3 := Lib.hid hrd3
      clear ho3 hrd3 hk31
      go_wp2_with (at_builtin; refine wpList_app1 rfl (.tmp 19) (.tmp 26) rfl w.heap.size _ zs rfl HO3.out (1 + k3) rfl rfl ?c2 ?c3 ?_)
      case c2 => have := HL.out; omega
      case c3 => exact HF3.out.size
      intro v' w4 hO4 hB4 _
      have hF4 : Fr rb w w4 := HF3.out.base hB4
      have hR4 : IsRd w4 rb (p + 1 + 1 + k + 1) := HR3.out.keep hB4 (by omega)
      clear hB4
      have HO4 := Lib.hid hO4
      have HF4 := Lib.hid hF4
      have HR4 := Lib.hid hR4
      clear hO4 hF4 hR4
      go_wp2_with fail
      go_roundw
      case rel =>
        refine ⟨k + 1, zs ++ [1 + k3], by go_num, by omega, by simp [HL.out], ?_, HO4.out, ?_, HF4.out⟩
        · intro z hz
          rcases List.mem_append.1 hz with hz | hz
          · exact HZ.out z hz
          · simp at hz; omega
        · have := HR4.out
          rw [show p + 1 + 1 + (k : Int) + 1 = p + 1 + 1 + ((k + 1 : Nat) : Int) from by omega] at this
          exact this
      case measure => simp [intOf]; omega
    · go_wp2_with fail
      refine (pick_any rb _ (p + 1 + 1 + k) _ HR.out (by omega) (by omega)).mono ?_
      rintro e w3 ⟨k3, rfl, hk30, hk31, hrd3, ho3⟩
      have HO3 := Lib.hid (HO.out.only ho3 (by omega))
      have HF3 := Lib.hid (HF.out.only ho3)
      have HR3 := Lib.hid hrd3
      clear ho3 hrd3 hk31
      have hzm : zs.length ≤ 5 := by have := HL.out; omega
      have hpw := two_le (n := (1 + k1).toNat) (by omega)
      have hpp : (0 : Int) < 2 ^ (1 + k1).toNat := Int.pow_pos (by omega)
      have hp6 : (2 : Int) ^ (1 + k1).toNat ≤ 64 := by have := pow_le (a := 2) (k := (1 + k1).toNat) (n := 6) (by decide) (by omega); exact this
      by_cases c0 : k3 = 0
      · subst c0
        go_wp2_with fail
        refine (power2_any _ _ (by omega) (by omega)).mono ?_
        rintro e w4 ⟨rfl, rfl⟩
        go_wp2_with fail
        refine (pick_any rb _ (p + 1 + 1 + k + 1) _ (HR3.out.alloc _) (by omega) (by omega)).mono ?_
        rintro e w4 ⟨k4, rfl, hk40, hk41, hrd4, ho4⟩
        have hb := HF3.out.size
        have HO4 := Lib.hid ((HO3.out.alloc (.cells #[.int .i64 0, .int .i64 (2 ^ (1 + k1).toNat)] 3)).only ho4 (by omega))
        have HF4 := Lib.hid ((HF3.out.alloc _).only ho4)
        have HR4 := Lib.hid hrd4
        have hcell : ∀ i v, (#[Value.int .i64 0, .int .i64 (2 ^ (1 + k1).toNat)] : Array Value)[i]? = some v → w4.cell? ⟨w3.heap.size, i, none⟩ = some v := fun i v hv => by
          rw [World.cell?_of_block (w := w3.alloc (.cells #[.int .i64 0, .int .i64 (2 ^ (1 + k1).toNat)] 3)) (ho4.2.2.2.2 _ (by show w3.heap.size ≠ rb; omega)), World.cell?_alloc_new]; exact hv
        have hc0 := hcell 0 _ rfl
        have hc1 := hcell 1 _ rfl
        clear ho4 hrd4 hcell
        have hk4 : k4 = 0 ∨ k4 = 1 := by omega
        clear hk41
        have fin : ∀ (z : Int) (v' : Value) (w5 : World), 0 ≤ z → z ≤ 64 → Own w5 w.heap.size v' (zs ++ [z]) → Below w.heap.size w4 w5 → Drawn rb p w (.returned (.tuple #[.int .i64 (1 + k1), v'])) w5 := fun z v' w5 h1 h2 h3 h4 =>
          ⟨1 + k1, p + 1 + 1 + k + 1 + 1, v', zs ++ [z], rfl, by omega, by omega, by simp; omega, fun y hy => by
            rcases List.mem_append.1 hy with hy | hy
            · exact HZ.out y hy
            · simp at hy; omega, h3, HR4.out.keep h4 (by omega), by omega, HF4.out.base h4⟩
        have Fin := Lib.hid fin
        clear fin
        rcases hk4 with rfl | rfl
        · go_wp2_with (at_builtin; refine wpList_app1 rfl (.tmp 33) (.tmp 41) rfl w.heap.size _ zs rfl HO4.out 0 rfl rfl ?d2 ?d3 ?_)
          case d2 => omega
          case d3 => exact HF4.out.size
          intro v' w5 hO5 hB5 _
          have HO5 := Lib.hid hO5
          have HB5 := Lib.hid hB5
          clear hO5 hB5
          go_wp2_with fail
          go_ret2
          exact Fin.out 0 v' w5 (by omega) (by omega) HO5.out HB5.out
        · go_wp2_with (at_builtin; refine wpList_app1 rfl (.tmp 33) (.tmp 41) rfl w.heap.size _ zs rfl HO4.out (2 ^ (1 + k1).toNat) rfl rfl ?e2 ?e3 ?_)
          case e2 => omega
          case e3 => exact HF4.out.size
          intro v' w5 hO5 hB5 _
          have HO5 := Lib.hid hO5
          have HB5 := Lib.hid hB5
          clear hO5 hB5
          go_wp2_with fail
          go_ret2
          exact Fin.out _ v' w5 (by omega) (by omega) HO5.out HB5.out
      by_cases c1 : k3 = 1
      · subst c1
        go_wp2_with fail
        refine (pick_any rb _ (p + 1 + 1 + k + 1) _ (HR3.out.alloc _) (by omega) (by omega)).mono ?_
        rintro e w4 ⟨k4, rfl, hk40, hk41, hrd4, ho4⟩
        have hb := HF3.out.size
        have HO4 := Lib.hid ((HO3.out.alloc (.cells #[.int .i64 0, .int .i64 7] 3)).only ho4 (by omega))
        have HF4 := Lib.hid ((HF3.out.alloc _).only ho4)
        have HR4 := Lib.hid hrd4
        have hcell : ∀ i v, (#[Value.int .i64 0, .int .i64 7] : Array Value)[i]? = some v → w4.cell? ⟨w3.heap.size, i, none⟩ = some v := fun i v hv => by
          rw [World.cell?_of_block (w := w3.alloc (.cells #[.int .i64 0, .int .i64 7] 3)) (ho4.2.2.2.2 _ (by show w3.heap.size ≠ rb; omega)), World.cell?_alloc_new]; exact hv
        have hc0 := hcell 0 _ rfl
        have hc1 := hcell 1 _ rfl
        clear ho4 hrd4 hcell
        have hk4 : k4 = 0 ∨ k4 = 1 := by omega
        clear hk41
        have fin : ∀ n : Int, 0 ≤ n → n ≤ 7 → Drawn rb p w (.returned (.tuple #[.int .i64 n, u5])) w4 := fun n h1 h2 =>
          ⟨n, p + 1 + 1 + k + 1 + 1, u5, zs, rfl, h1, h2, by omega, HZ.out, HO4.out, HR4.out, by omega, HF4.out⟩
        have Fin := Lib.hid fin
        clear fin
        rcases hk4 with rfl | rfl
        all_goals
          go_wp2_with fail
          go_ret2
          exact Fin.out _ (by omega) (by omega)
      have n0 : (k3 == 0) = false := by rw [beq_eq_false_iff_ne]; omega
      have n1 : (k3 == 1) = false := by rw [beq_eq_false_iff_ne]; omega
      by_cases c2 : k3 = 2
      · subst c2
        go_wp2_with fail
        go_loopg [5] (13 - zs.length) (fun g v wr => ∃ (zs : List Int), g + zs.length = 13 ∧ (∀ z ∈ zs, 0 ≤ z ∧ z ≤ 64) ∧ Own wr w.heap.size v zs ∧ IsRd wr rb (p + 1 + 1 + k + 1) ∧ Fr rb w wr)
        case atStart => exact ⟨zs, by omega, HZ.out, HO3.out, HR3.out, HF3.out⟩
        case round =>
          obtain ⟨ys, hg, hyb, hO, hR, hF⟩ := hrel
          obtain ⟨ao, b, cap, hv, _⟩ := hO.row
          have HO := Lib.hid hO
          have HR := Lib.hid hR
          have HF := Lib.hid hF
          have HY := Lib.hid hyb
          have HG := Lib.hid hg
          rename_i u5b _
          subst hv
          clear hO hR hF hyb
          by_cases hl : ys.length ≤ 12
          · clear hg
            go_wp2_with (at_builtin; refine wpList_app1 rfl (.tmp 56) (.tmp 57) rfl w.heap.size _ ys rfl HO.out 1 rfl rfl ?g2 ?g3 ?_)
            case g2 => omega
            case g3 => exact HF.out.size
            intro v' w5 hO5 hB5 _
            have HO5 := Lib.hid hO5
            have HB5 := Lib.hid hB5
            clear hO5 hB5
            go_wp2_with fail
            have hgg := HG.out
            go_roundg (gk - 1)
            case measure => go_light; omega
            case rel =>
              go_light
              refine ⟨ys ++ [1], by simp; omega, fun y hy => ?_, HO5.out, HR.out.keep HB5.out (by omega), HF.out.base HB5.out⟩
              rcases List.mem_append.1 hy with hy | hy
              · exact HY.out y hy
              · simp at hy; omega
          · clear hg
            go_wp2_with fail
            go_ret2
            exact ⟨1 + k1, p + 1 + 1 + k + 1, _, ys, rfl, by omega, by omega, by have := HG.out; omega, HY.out, HO.out, HR.out, by omega, HF.out⟩
      · have n2 : (k3 == 2) = false := by rw [beq_eq_false_iff_ne]; omega
        go_wp2_with fail
        go_ret2
        exact ⟨1 + k1, p + 1 + 1 + k + 1, _, zs, rfl, by omega, by omega, by omega, HZ.out, HO3.out, HR3.out, by omega, HF3.out⟩
end Go.Proofs.Ytjglikccikeejab
