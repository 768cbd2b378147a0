/-
  Contract: spec.l6Dec at numbers that are not negative.
-/
import Derived.Test.YthncpnopplhlkaaDoorItoa
import Derived.Laws.IdiomStrings
import Derived.Deep.RegionWith
import Derived.IntWalk
namespace Go.Proofs.YthncpnopplhlkaaDoor
open Go.RowKit
open Go.TextMath (word)

/-- A digit, as a string. -/
def dgs (z : Int) : ByteArray := ⟨#[UInt8.ofNat (48 + z.toNat)]⟩
theorem wd_one {n : Int} (h0 : 0 ≤ n) (h : n < 10) : wd n = dgs n := by
  unfold wd word dgs
  rw [Lib.decDigits_one (by omega)]
theorem wd_more {n : Int} (h : 10 ≤ n) : wd n = wd (n / 10) ++ dgs (n % 10) := by
  unfold wd word dgs
  rw [Lib.decDigits, dif_neg (by omega)]
  have e1 : (n / 10).toNat = n.toNat / 10 := by omega
  have e2 : (n % 10).toNat = n.toNat % 10 := by omega
  rw [e1, e2]
  apply ByteArray.ext
  apply Array.toList_inj.1
  simp
theorem dgs_run (z : Int) (h0 : 0 ≤ z) (h9 : z ≤ 9) (w : World) :
    (convert 22 9 (.slice (some ⟨w.heap.size, 0, none⟩) 1 1)).run Tryd.prog (w.alloc (.cells #[.int .u8 (48 + z)] 5)) = .ok (.string (dgs z)) (w.alloc (.cells #[.int .u8 (48 + z)] 5)) :=
  run_convert_bytes_back (P := Tryd.prog) (w.alloc (.cells #[.int .u8 (48 + z)] 5)) 22 9 5 ⟨w.heap.size, 0, none⟩ 1 [UInt8.ofNat (48 + z.toNat)] Tryd.underlying22 Tryd.underlying5 Tryd.underlying9 (by
    intro j hj
    have : j = 0 := by simpa using hj
    subst this
    have e : ((UInt8.ofNat (48 + z.toNat)).toNat : Int) = 48 + z := by
      rw [UInt8.toNat_ofNat']; omega
    simp [Addr.add]
    omega)

theorem dgs_at (z : Int) (h0 : 0 ≤ z) (h9 : z ≤ 9) (W : World) (b : Nat) (hc : W.cell? ⟨b, 0, none⟩ = some (.int .u8 (48 + z))) :
    (convert 22 9 (.slice (some ⟨b, 0, none⟩) 1 1)).run Tryd.prog W = .ok (.string (dgs z)) W :=
  run_convert_bytes_back (P := Tryd.prog) W 22 9 5 ⟨b, 0, none⟩ 1 [UInt8.ofNat (48 + z.toNat)] Tryd.underlying22 Tryd.underlying5 Tryd.underlying9 (by
    intro j hj
    have : j = 0 := by simpa using hj
    subst this
    simp [Addr.add]
    rw [hc]
    simp
    omega)
theorem bcell {W w1 : World} (hb : Below W.heap.size W w1) : (∀ b o, b < W.heap.size → w1.cell? ⟨b, o, none⟩ = W.cell? ⟨b, o, none⟩) ∧ (∀ b o, b < W.heap.size → w1.frozen? ⟨b, o, none⟩ = W.frozen? ⟨b, o, none⟩) :=
  ⟨fun b o h => hb.cell (p := ⟨b, o, none⟩) h, fun b o h => hb.frozen (p := ⟨b, o, none⟩) h⟩

set_option maxRecDepth 100000 in
theorem decS (k : Nat) : ∀ (n : Int) (w : World), 0 ≤ n → n < k → n ≤ 1000000 →
    Calls Tryd.prog 56 #[.int .i64 n] w fun e w' => e = .returned (.string (wd n)) ∧ Below w.heap.size w w' := by
  induction k with
  | zero => intro n w h0 h1; omega
  | succ k ih =>
    intro n w h0 h1 hM
    by_cases h : n < 10
    · have HW := Lib.hid (wd_one h0 h)
      have hd := fun W => dgs_run n h0 (by omega) W
      clear ih
      go_enter Tryd.func56, Tryd.ntmps56
      go_wp2_with fail
      go_ret
      exact ⟨by rw [HW.out]; rfl, (Below.refl _ _).alloc (Nat.le_refl _) _⟩
    · have HW := Lib.hid (wd_more (n := n) (by omega))
      have q0 : 0 ≤ n / 10 := by omega
      have q1 : n / 10 < k := by omega
      have q2 : n / 10 ≤ 100000 := by omega
      have r0 : 0 ≤ n % 10 := by omega
      have r1 : n % 10 ≤ 9 := by omega
      have e1 : Int.tdiv n 10 = n / 10 := Int.tdiv_eq_ediv_of_nonneg h0
      have e3 : Int.tmod n 10 = n % 10 := Int.tmod_eq_emod_of_nonneg h0
      obtain ⟨q, hq⟩ : ∃ q, n / 10 = q := ⟨_, rfl⟩
      obtain ⟨r, hr⟩ : ∃ r, n % 10 = r := ⟨_, rfl⟩
      have hlen : (wd q).size ≤ 7 := by
        have := Go.TextMath.word_short (n := q) (by omega) (by omega)
        simpa [wd, ByteArray.size] using this
      have hlen2 : (dgs r).size ≤ 1 := by simp [dgs, ByteArray.size]
      rw [hq] at q0 q1 q2 e1
      rw [hr] at r0 r1 e3
      have e2 : IntKind.i64.wrap q = q := IntWalk.i64_in _ ⟨by omega, by omega⟩
      have e4 : IntKind.i64.wrap (48 + r) = 48 + r := IntWalk.i64_in _ ⟨by omega, by omega⟩
      have e5 : IntKind.u8.wrap (48 + r) = 48 + r := by unfold IntKind.wrap; simp [IntKind.bits, IntKind.signed]; omega
      have hd := fun W b => dgs_at r r0 r1 W b
      have HQ := Lib.hid hq
      have HR := Lib.hid hr
      have IH := Lib.hid (fun W => ih q W q0 q1 (by omega))
      clear hq hr ih
      go_enter Tryd.func56, Tryd.ntmps56
      go_wp2_with fail
      go_region_with (go_at_call 56; refine (IH.out _).mono ?_; rintro e w' ⟨rfl, hb⟩; have HBX := Lib.hid hb; have hbc := (bcell hb).1; clear hb)
      all_goals
        go_wp2_with fail
        go_ret
        refine ⟨by rw [HW.out, HQ.out, HR.out]; rfl, ?_⟩
        first
          | exact (((Below.refl w.heap.size w).drew.trans HBX.out).alloc (HBX.out.size) _)
          | exact (((Below.refl w.heap.size w).drew.alloc (Nat.le_refl _) _).trans (HBX.out.mono (by simp)))
end Go.Proofs.YthncpnopplhlkaaDoor
