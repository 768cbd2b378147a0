/-
  Contracts: the closure of impl.rank, slices.IndexFunc at it.
-/
import Derived.Test.YtjglikccikeejabMatI
namespace Go.Proofs.Ytjglikccikeejab
open Go.RowKit
open Go.AskMath (Mat)

theorem litI (gb n cp c Bi : Nat) (x : Int) (w : World) (h1 : w.cell? ⟨Bi, 0, none⟩ = some (.int .i64 c)) (h2 : w.cell? ⟨gb, c, none⟩ = some (.int .i64 x)) (hc : c < n) (_hn : n ≤ 1000) :
    Calls Try.prog 46 #[.slice (some ⟨gb, 0, none⟩) n cp, .pointer (some ⟨Bi, 0, none⟩)] w fun e w' => e = .returned (.bool (x != 0)) ∧ w = w' := by
  have hcz : (c : Int) < (n : Int) := by omega
  go_enter Try.func46, Try.ntmps46
  go_wp2_with fail
  go_ret
  exact ⟨rfl, rfl⟩

/-- What a search in a column finds. -/
def FoundI (m r c : Nat) (R : Mat) (w : World) (e : Ending) (w' : World) : Prop :=
  w = w' ∧ ((e = .returned (.int .i64 (-1)) ∧ ∀ k, r ≤ k → k < m → R k c = 0) ∨ ∃ i : Nat, e = .returned (.int .i64 i) ∧ r + i < m ∧ R (r + i) c ≠ 0 ∧ ∀ j, r ≤ j → j < r + i → R j c = 0)

theorem findI0 (ad : Option Addr) (C : Nat) (fv : Value) (m r c : Nat) (R : Mat) (w : World) (hm : m ≤ r) : Calls Try.prog 45 #[.slice ad 0 C, fv] w (FoundI m r c R w) := by
  go_enter Try.func45, Try.ntmps45
  go_wp2_with fail
  go_loop [8] (fun i => i = .int .i64 0) (fun _ => 0)
  case atStart => rfl
  case round =>
    obtain rfl := hrel
    go_wp2_with fail
    go_ret
    exact ⟨rfl, .inl ⟨rfl, fun k h1 h2 => absurd h2 (by omega)⟩⟩

set_option maxHeartbeats 1000000 in
theorem findI {w : World} {base tb mc m n : Nat} {g cp : Nat → Nat} {R : Mat} (h : Mx w base tb mc m n g cp R) (r c L Bi : Nat) (hr : m = r + L) (hc : c < n) (hm : m ≤ 1000000) (hn : n ≤ 1000) (C : Nat) (hb : w.cell? ⟨Bi, 0, none⟩ = some (.int .i64 c)) :
    Calls Try.prog 45 #[.slice (some ⟨tb, r, none⟩) L C, .func (.func 46) #[] #[.pointer (some ⟨Bi, 0, none⟩)]] w (FoundI m r c R w) := by
  subst hr
  have HB := Lib.hid hb
  clear hb
  go_enter Try.func45, Try.ntmps45
  go_wp2_with fail
  go_loop [8] (fun i => ∃ k : Nat, k ≤ L ∧ i = .int .i64 k ∧ ∀ j, r ≤ j → j < r + k → R j c = 0) (fun i => L - (intOf i).toNat)
  case atStart => exact ⟨0, Nat.zero_le _, rfl, by omega⟩
  case round =>
    obtain ⟨k, hk, rfl, hz⟩ := hrel
    have HZ := Lib.hid hz
    clear hz
    by_cases hlt : k < L
    · have t1 := h.cellT (show r + k < r + L by omega)
      have t2 := h.cellR (show r + k < r + L by omega) hc
      have hcz : (k : Int) < (L : Int) := by omega
      obtain ⟨v, hv⟩ : ∃ v, R (r + k) c = v := ⟨_, rfl⟩
      rw [hv] at t2
      have HV := Lib.hid hv
      have T2 := Lib.hid t2
      clear hv t2
      go_wp2_with fail
      refine (litI _ _ _ c Bi v _ HB.out T2.out hc hn).mono ?_
      rintro e w' ⟨rfl, rfl⟩
      by_cases h0 : v = 0
      · have hq : (v != 0) = false := by simp [h0]
        have H0 := Lib.hid h0
        clear h0 t1
        go_wp2_with fail
        go_round
        case rel =>
          refine ⟨k + 1, by omega, by go_num, fun j h1 h2 => ?_⟩
          by_cases e : j = r + k
          · rw [e, HV.out, H0.out]
          · exact HZ.out j h1 (by omega)
        case measure => simp [intOf]; omega
      · have hq : (v != 0) = true := by simp [h0]
        have H0 := Lib.hid h0
        clear h0 t1
        go_wp2_with fail
        go_ret
        exact ⟨rfl, .inr ⟨k, rfl, by omega, by rw [HV.out]; exact H0.out, HZ.out⟩⟩
    · go_wp2_with fail
      go_ret
      exact ⟨rfl, .inl ⟨rfl, fun j h1 h2 => HZ.out j h1 (by omega)⟩⟩
end Go.Proofs.Ytjglikccikeejab
