/-
  The walk of laws.FnExecuteNone.
-/
import Derived.Test.YtlmlchkolcmhpaaGreatDoorYExecAll
import Derived.Test.YtlmlchkolcmhpaaGreatDoorYExecSp
import Derived.Test.YtlmlchkolcmhpaaGreatDoorJ7
namespace Go.Proofs.YtlmlchkolcmhpaaGreatDoor
open Go.RowKit
open Go.TextMath (tvB mvB text word)
open Go.ParseMath

theorem exec_ne (s : List UInt8) : execM s ≠ [] := by
  unfold execM
  split
  · simp
  · simp [sLong]
theorem dec_zero : word 0 = [48] := by
  unfold word
  first
    | rfl
    | decide
    | (show Lib.decDigits 0 = [48]; rw [Lib.decDigits]; rfl)
    | (show Lib.decDigits 0 = [48]; unfold Lib.decDigits; rfl)
    | (show Lib.decDigits 0 = [48]; simp [Lib.decDigits])
theorem exec_none : execM [] = [112, 101, 111, 112, 108, 101, 32, 48, 10] := by
  unfold execM
  rw [if_pos (by decide)]
  have h : (cutL 10 []).dropLast = [] := rfl
  rw [h]
  show ([] ++ sPeople ++ word ((0 : Nat) : Int) ++ [10] : List UInt8) = _
  rw [show ((0 : Nat) : Int) = 0 from rfl, dec_zero]
  rfl
/-- Both answer the same at a drawn script. -/
theorem both (s : ByteArray) (hs : s.size ≤ 100000) : ∃ X : ByteArray, X.data.toList = execM s.data.toList ∧ (∀ W, Calls Tryz.prog 10 #[.string s] W fun e w' => e = .returned (.string X) ∧ Below W.heap.size W w') ∧
    (∀ W, LibM W → Calls Tryz.prog 11 #[.string s] W fun e w' => e = .returned (.string X) ∧ Below W.heap.size W w') :=
  ⟨bs (execM s.data.toList), rfl, fun W => executeS s W (by omega), fun W h => executeAll s W (by omega) h⟩

set_option maxRecDepth 100000 in
set_option maxHeartbeats 4000000 in
theorem executeNone (a0 : Option Addr) (b0 o0 cap0 : Nat) (xs0 : List Int) (w : World) (hr0 : Row .u8 w a0 b0 o0 xs0) (hl0 : xs0.length ≤ cap0 ∧ cap0 ≤ 9223372036854775807) (hw0 : ∀ i, i < xs0.length → (Lit.int .u8 (xs0.getD i 0)).wf = true) (ht : LibM w) :
    Calls Tryz.prog 4 #[.slice a0 xs0.length cap0] w fun e w' => e = .returned (.bool true) ∧ Below w.heap.size w w' := by
  have HP := Lib.hid ht
  have HD := Lib.hid (drawExD a0 b0 o0 cap0 xs0 w hr0 hl0 hw0)
  clear hr0 hw0 ht
  by_cases hbig : 1048576 < xs0.length
  · go_enter Tryz.func4, Tryz.ntmps4
    go_wp2_with fail
    go_ret
    exact ⟨rfl, Below.refl _ _⟩
  · have hs0 : xs0.length ≤ 1048576 := by omega
    clear hbig
    go_enter Tryz.func4, Tryz.ntmps4
    go_wp2_with fail
    refine (HD.out).mono ?_
    rintro e w1 ⟨S, rfl, hS, hb1⟩
    have HB1 := Lib.hid hb1
    have HP1 := Lib.hid (HP.out.keep hb1 (Nat.le_refl _))
    clear hb1
    obtain ⟨X, hX, hsp, him⟩ := both S (by omega)
    have HSP := Lib.hid hsp
    have HIM := Lib.hid him
    have x0 : X.toList ≠ [] := by rw [Lib.toList_data, hX]; exact exec_ne _
    have x1 : (X.toList == []) = false := by rw [beq_eq_false_iff_ne]; exact x0
    have x2 : (X.toList != []) = true := by rw [bne_iff_ne]; exact x0
    obtain ⟨Y, hY, -, hiy⟩ := both ⟨#[]⟩ (by decide)
    have HIY := Lib.hid hiy
    have y0 : Y.toList = [112, 101, 111, 112, 108, 101, 32, 48, 10] := by rw [Lib.toList_data, hY]; exact exec_none
    have y1 : (Y.toList == [112, 101, 111, 112, 108, 101, 32, 48, 10]) = true := by rw [y0]; rfl
    clear hX hsp him hY hiy x0 y0
    go_wp2_with fail
    refine (HIM.out w1 HP1.out).mono ?_
    rintro e w2 ⟨rfl, hb2⟩
    have HB2 := Lib.hid (HB1.out.trans (hb2.mono HB1.out.size))
    clear hb2
    go_wp2_with fail
    refine (HSP.out w2).mono ?_
    rintro e w3 ⟨rfl, hb3⟩
    have HB3 := Lib.hid (HB2.out.trans (hb3.mono HB2.out.size))
    have HP3 := Lib.hid (HP.out.keep HB3.out (Nat.le_refl _))
    clear hb3
    go_wp2_with fail
    refine (HIY.out w3 HP3.out).mono ?_
    rintro e w4 ⟨rfl, hb4⟩
    have HB4 := Lib.hid (HB3.out.trans (hb4.mono HB3.out.size))
    clear hb4
    go_wp2_with fail
    go_ret
    exact ⟨rfl, HB4.out⟩
end Go.Proofs.YtlmlchkolcmhpaaGreatDoor
