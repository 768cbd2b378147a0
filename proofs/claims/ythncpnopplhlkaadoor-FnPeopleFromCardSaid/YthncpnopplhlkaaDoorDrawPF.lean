/-
  Contract: spec.DrawPeopleFrom.
-/
import Derived.Test.YthncpnopplhlkaaDoorDrawTF
import Derived.Test.YthncpnopplhlkaaDoorPplText
import Derived.Test.YthncpnopplhlkaaDoorDrawPpl
namespace Go.Proofs.YthncpnopplhlkaaDoor
open Go.RowKit
open Go.TextMath (text)

/-- A drawn text. -/
def StrP (w : World) (e : Ending) (w' : World) : Prop := ∃ S : ByteArray, e = .returned (.string S) ∧ S.size ≤ 600 ∧ Below w.heap.size w w'
theorem tp_size (L : List Per) (h : L.length ≤ 12) : (tp L).size ≤ 500 := by
  cases hv : pplB L with
  | false => rw [tp_f hv]; exact Nat.zero_le _
  | true =>
    rw [tp_t hv]
    have h := text_short (M := []) (ppl_fit hv) (rowsOf L).length (Nat.le_refl _)
    rw [List.take_length, rowsOf_len] at h
    simp [ByteArray.size]
    omega

set_option maxHeartbeats 2000000 in
theorem drawPF (ao : Option Addr) (b off cap : Nat) (cs : List Int) (w : World) (hr : Row .u8 w ao b off cs) (hl : cs.length ≤ cap ∧ cap ≤ 9223372036854775807) (hw : ∀ i, i < cs.length → (Lit.int .u8 (cs.getD i 0)).wf = true) :
    Calls Tryd.prog 27 #[.slice ao cs.length cap] w (StrP w) := by
  have HO := Lib.hid (open_any ao b off cap cs w hr hl.1 hw hl.2)
  clear hr hw
  go_enter Tryd.func27, Tryd.ntmps27
  go_wp2_with fail
  refine (HO.out).mono ?_
  rintro e w1 ⟨rfl, hb1, hrd1, hs1⟩
  have HB1 := Lib.hid hb1
  have HR1 := Lib.hid hrd1
  have HS1 := Lib.hid hs1
  have hlt1 : w.heap.size < w1.heap.size := hrd1.lt
  clear hb1 hrd1 hs1
  go_wp2_with fail
  refine (peopleD w.heap.size 5 0 w1 HR1.out (by omega) (by omega) (by omega)).mono ?_
  rintro e w2 ⟨ao2, b2, cap2, L, rfl, hT, hc1, hc2, hT4, hfr2, p2, hrd2, hp2⟩
  have HT := Lib.hid hT
  have HR2 := Lib.hid hrd2
  have HB2 := Lib.hid (HB1.out.trans (hfr2.toBelow (Nat.le_refl _) (by rw [HS1.out]; omega)))
  have hlt2 : w.heap.size < w2.heap.size := hrd2.lt
  clear hT hrd2 hfr2
  go_wp2_with fail
  refine (peopleTextS ao2 b2 0 cap2 L w2 HT.out (by omega)).mono ?_
  rintro e w3 ⟨rfl, hb3⟩
  have hsz := tp_size L hT4
  obtain ⟨S, hS⟩ : ∃ S, tp L = S := ⟨_, rfl⟩
  rw [hS] at hsz ⊢
  have HR3 := Lib.hid (HR2.out.keep hb3 hlt2)
  have HB3 := Lib.hid (HB2.out.trans (hb3.mono HB2.out.size))
  clear hb3 hS HT
  go_wp2_with fail
  refine (pick_any w.heap.size 8 p2 w3 HR3.out (by omega) (by omega)).mono ?_
  rintro e w4 ⟨y, rfl, hy0, hy1, hrd4, ho4⟩
  have HR4 := Lib.hid hrd4
  have hlt4 : w.heap.size < w4.heap.size := hrd4.lt
  have HB4 := Lib.hid (HB3.out.trans (show Below w.heap.size w3 w4 from ⟨ho4.1, ho4.2.1, ho4.2.2.1, Nat.le_of_eq ho4.2.2.2.1.symm, fun k hk => ho4.2.2.2.2 k (by omega)⟩))
  clear hrd4 ho4
  have ofB : ∀ (wa wb : World), Only w.heap.size wa wb → Below w.heap.size wa wb := fun wa wb h => ⟨h.1, h.2.1, h.2.2.1, Nat.le_of_eq h.2.2.2.1.symm, fun k hk => h.2.2.2.2 k (by omega)⟩
  have OFB := Lib.hid ofB
  clear ofB
  by_cases h0 : y = 0
  · subst h0
    have HW5 := Lib.hid (rowS_lit w4 [⟨#[]⟩, ⟨#[10]⟩, ⟨#[48, 32, 48, 32, 48, 10]⟩, ⟨#[52, 32, 48, 32, 48, 32, 49, 10]⟩, ⟨#[48, 32, 48, 32, 48, 32, 49, 48, 48, 48, 10]⟩, ⟨#[48, 32, 48, 32, 48, 32, 48, 49, 10]⟩, ⟨#[48, 32, 48, 32, 48, 32, 49]⟩] 9)
    have HR5 := Lib.hid (HR4.out.keep ((Below.refl w4.heap.size w4).alloc (Nat.le_refl _) (.cells (([⟨#[]⟩, ⟨#[10]⟩, ⟨#[48, 32, 48, 32, 48, 10]⟩, ⟨#[52, 32, 48, 32, 48, 32, 49, 10]⟩, ⟨#[48, 32, 48, 32, 48, 32, 49, 48, 48, 48, 10]⟩, ⟨#[48, 32, 48, 32, 48, 32, 48, 49, 10]⟩, ⟨#[48, 32, 48, 32, 48, 32, 49]⟩] : List ByteArray).map Value.string).toArray 9)) hlt4)
    have HB5 := Lib.hid (HB4.out.alloc (by omega) (.cells (([⟨#[]⟩, ⟨#[10]⟩, ⟨#[48, 32, 48, 32, 48, 10]⟩, ⟨#[52, 32, 48, 32, 48, 32, 49, 10]⟩, ⟨#[48, 32, 48, 32, 48, 32, 49, 48, 48, 48, 10]⟩, ⟨#[48, 32, 48, 32, 48, 32, 48, 49, 10]⟩, ⟨#[48, 32, 48, 32, 48, 32, 49]⟩] : List ByteArray).map Value.string).toArray 9))
    go_wp2_with fail
    refine (ofR w.heap.size w4.heap.size (p2 + 1) [⟨#[]⟩, ⟨#[10]⟩, ⟨#[48, 32, 48, 32, 48, 10]⟩, ⟨#[52, 32, 48, 32, 48, 32, 49, 10]⟩, ⟨#[48, 32, 48, 32, 48, 32, 49, 48, 48, 48, 10]⟩, ⟨#[48, 32, 48, 32, 48, 32, 48, 49, 10]⟩, ⟨#[48, 32, 48, 32, 48, 32, 49]⟩] _ HR5.out (by omega) HW5.out (by omega) (by decide) (by decide) (by decide)).mono ?_
    rintro e w6 ⟨x, rfl, hx, _, ho6⟩
    have HB6 := Lib.hid (HB5.out.trans (OFB.out _ _ ho6))
    clear ho6
    go_wp2_with fail
    go_ret
    exact ⟨x, rfl, by omega, HB6.out⟩
  · have hq0 : (y == 0) = false := by simpa using h0
    by_cases h1 : y = 1
    · subst h1
      have HW5 := Lib.hid (rowS_lit w4 [⟨#[48]⟩, ⟨#[10]⟩, ⟨#[48, 32, 48, 32, 50, 32, 49, 10]⟩] 9)
      have HR5 := Lib.hid (HR4.out.keep ((Below.refl w4.heap.size w4).alloc (Nat.le_refl _) (.cells (([⟨#[48]⟩, ⟨#[10]⟩, ⟨#[48, 32, 48, 32, 50, 32, 49, 10]⟩] : List ByteArray).map Value.string).toArray 9)) hlt4)
      have HB5 := Lib.hid (HB4.out.alloc (by omega) (.cells (([⟨#[48]⟩, ⟨#[10]⟩, ⟨#[48, 32, 48, 32, 50, 32, 49, 10]⟩] : List ByteArray).map Value.string).toArray 9))
      clear h0
      go_wp2_with fail
      refine (ofR w.heap.size w4.heap.size (p2 + 1) [⟨#[48]⟩, ⟨#[10]⟩, ⟨#[48, 32, 48, 32, 50, 32, 49, 10]⟩] _ HR5.out (by omega) HW5.out (by omega) (by decide) (by decide) (by decide)).mono ?_
      rintro e w6 ⟨x, rfl, hx, _, ho6⟩
      have HB6 := Lib.hid (HB5.out.trans (OFB.out _ _ ho6))
      clear ho6
      go_wp2_with fail
      go_ret
      exact ⟨S ++ x, rfl, by rw [ByteArray.size_append]; omega, HB6.out⟩
    · have hq1 : (y == 1) = false := by simpa using h1
      clear h0 h1
      go_wp2_with fail
      go_ret
      exact ⟨S, rfl, by omega, HB4.out⟩
end Go.Proofs.YthncpnopplhlkaaDoor
