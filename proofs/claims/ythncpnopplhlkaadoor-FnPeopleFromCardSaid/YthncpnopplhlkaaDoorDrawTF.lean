/-
  Contracts: (*spec.l6Rd).of, spec.DrawTableFrom.
-/
import Derived.Test.YthncpnopplhlkaaDoorDrawTT
import Derived.Test.YthncpnopplhlkaaDoorTexts
namespace Go.Proofs.YthncpnopplhlkaaDoor
open Go.RowKit
open Go.TextMath (tvB text)

/-- A drawn string. -/
def OfD (rb : Nat) (p : Int) (w : World) (e : Ending) (w' : World) : Prop := ∃ x : ByteArray, e = .returned (.string x) ∧ x.size ≤ 12 ∧ IsRd w' rb (p + 1) ∧ Only rb w w'

set_option maxHeartbeats 1000000 in
theorem ofR (rb b : Nat) (p : Int) (ss : List ByteArray) (w : World) (h : IsRd w rb p) (hp : p ≤ 1000000) (hr : RowS w (some ⟨b, 0, none⟩) b 0 ss) (hb : b ≠ rb) (h1 : 1 ≤ ss.length) (h2 : ss.length ≤ 20) (hs : ∀ i, i < ss.length → (ss.getD i ⟨#[]⟩).size ≤ 12) :
    Calls Tryd.prog 48 #[.pointer (some ⟨rb, 0, none⟩), .slice (some ⟨b, 0, none⟩) ss.length ss.length] w (OfD rb p w) := by
  have HR := Lib.hid h
  have HS := Lib.hid hr
  have HZ := Lib.hid hs
  clear h hr hs
  go_enter Tryd.func48, Tryd.ntmps48
  go_wp2_with fail
  refine (pick_any rb ss.length p w HR.out (by omega) (by omega)).mono ?_
  rintro e w2 ⟨y, rfl, hy0, hy1, hrd2, ho2⟩
  have hyl : y < (ss.length : Int) := by omega
  obtain ⟨k, rfl⟩ : ∃ k : Nat, y = k := ⟨y.toNat, by omega⟩
  have hkl : k < ss.length := by omega
  have hc := (Only.cell (b := b) (o := 0 + k) ho2 hb).trans (HS.out.2 k hkl)
  have hz := HZ.out k hkl
  rw [Nat.zero_add] at hc
  obtain ⟨x, hx⟩ : ∃ x, ss.getD k ⟨#[]⟩ = x := ⟨_, rfl⟩
  rw [hx] at hc hz
  have HRD := Lib.hid hrd2
  have HO := Lib.hid ho2
  clear hx hrd2 ho2 hy1 hy0
  go_wp2_with fail
  go_ret
  exact ⟨x, rfl, hz, HRD.out, HO.out⟩

/-- A drawn text. -/
def StrW (w : World) (e : Ending) (w' : World) : Prop := ∃ S : ByteArray, e = .returned (.string S) ∧ S.size ≤ 300 ∧ Below w.heap.size w w'
theorem tt_size_ (T : List (List Int)) : (tt T).size ≤ 164 := by
  cases hv : tvB T with
  | false => rw [tt_f hv]; exact Nat.zero_le _
  | true =>
    rw [tt_t hv]
    have h := text_short (M := []) (tv_fit hv) T.length (Nat.le_refl _)
    rw [List.take_length] at h
    have h4 := (tv_t.1 hv).2.1
    simp [ByteArray.size]
    omega
theorem rowS_lit (w : World) (ss : List ByteArray) (t : TypeId) : RowS (w.alloc (.cells (ss.map Value.string).toArray t)) (some ⟨w.heap.size, 0, none⟩) w.heap.size 0 ss := by
  refine ⟨fun _ => rfl, fun i hi => ?_⟩
  rw [Nat.zero_add, World.cell?_alloc_new]
  simp [List.getD_eq_getElem?_getD, List.getElem?_eq_getElem hi]

set_option maxHeartbeats 2000000 in
theorem drawTF (ao : Option Addr) (b off cap : Nat) (cs : List Int) (w : World) (hr : Row .u8 w ao b off cs) (hl : cs.length ≤ cap ∧ cap ≤ 9223372036854775807) (hw : ∀ i, i < cs.length → (Lit.int .u8 (cs.getD i 0)).wf = true) :
    Calls Tryd.prog 29 #[.slice ao cs.length cap] w (StrW w) := by
  have HO := Lib.hid (open_any ao b off cap cs w hr hl.1 hw hl.2)
  clear hr hw
  go_enter Tryd.func29, Tryd.ntmps29
  go_wp2_with fail
  refine (HO.out).mono ?_
  rintro e w1 ⟨rfl, hb1, hrd1, hs1⟩
  have HB1 := Lib.hid hb1
  have HR1 := Lib.hid hrd1
  have HS1 := Lib.hid hs1
  have hlt1 : w.heap.size < w1.heap.size := hrd1.lt
  clear hb1 hrd1 hs1
  go_wp2_with fail
  refine (tableD w.heap.size 30 0 w1 HR1.out (by omega) (by omega) (by omega)).mono ?_
  rintro e w2 ⟨ao2, b2, cap2, T, p2, rfl, hT, hc1, hc2, hT4, _, hrd2, hp2, hfr2⟩
  have HT := Lib.hid hT.int
  have HR2 := Lib.hid hrd2
  have HB2 := Lib.hid (HB1.out.trans (hfr2.toBelow (Nat.le_refl _) (by rw [HS1.out]; omega)))
  have hlt2 : w.heap.size < w2.heap.size := hrd2.lt
  clear hT hrd2 hfr2
  go_wp2_with fail
  refine (tableTextS ao2 b2 0 cap2 T w2 HT.out (by omega)).mono ?_
  rintro e w3 ⟨rfl, hb3⟩
  have hsz := tt_size_ T
  obtain ⟨S, hS⟩ : ∃ S, tt T = S := ⟨_, rfl⟩
  rw [hS] at hsz ⊢
  have HR3 := Lib.hid (HR2.out.keep hb3 hlt2)
  have HB3 := Lib.hid (HB2.out.trans (hb3.mono HB2.out.size))
  clear hb3 hS HT
  go_wp2_with fail
  refine (pick_any w.heap.size 8 p2 w3 HR3.out (by omega) (by omega)).mono ?_
  rintro e w4 ⟨y, rfl, hy0, hy1, hrd4, ho4⟩
  have HR4 := Lib.hid hrd4
  have hlt4 : w.heap.size < w4.heap.size := hrd4.lt
  have HB4 := Lib.hid (HB3.out.trans (show Below w.heap.size w3 w4 from ⟨ho4.1, ho4.2.1, ho4.2.2.1, Nat.le_of_eq ho4.2.2.2.1.symm, fun k hk => ho4.2.2.2.2 k (by omega)⟩))
  clear hrd4 ho4
  have ofB : ∀ (wa wb : World), Only w.heap.size wa wb → Below w.heap.size wa wb := fun wa wb h => ⟨h.1, h.2.1, h.2.2.1, Nat.le_of_eq h.2.2.2.1.symm, fun k hk => h.2.2.2.2 k (by omega)⟩
  have OFB := Lib.hid ofB
  clear ofB
  by_cases h0 : y = 0
  · subst h0
    have HW5 := Lib.hid (rowS_lit w4 [⟨#[]⟩, ⟨#[10]⟩, ⟨#[49]⟩, ⟨#[48, 49, 10]⟩, ⟨#[49, 32, 50, 10, 51, 10]⟩, ⟨#[49, 48, 48, 10]⟩, ⟨#[49, 32, 32, 50, 10]⟩, ⟨#[45, 49, 10]⟩, ⟨#[49, 32, 50, 32, 51, 32, 52, 32, 53, 10]⟩] 9)
    have HR5 := Lib.hid (HR4.out.keep ((Below.refl w4.heap.size w4).alloc (Nat.le_refl _) (.cells (([⟨#[]⟩, ⟨#[10]⟩, ⟨#[49]⟩, ⟨#[48, 49, 10]⟩, ⟨#[49, 32, 50, 10, 51, 10]⟩, ⟨#[49, 48, 48, 10]⟩, ⟨#[49, 32, 32, 50, 10]⟩, ⟨#[45, 49, 10]⟩, ⟨#[49, 32, 50, 32, 51, 32, 52, 32, 53, 10]⟩] : List ByteArray).map Value.string).toArray 9)) hlt4)
    have HB5 := Lib.hid (HB4.out.alloc (by omega) (.cells (([⟨#[]⟩, ⟨#[10]⟩, ⟨#[49]⟩, ⟨#[48, 49, 10]⟩, ⟨#[49, 32, 50, 10, 51, 10]⟩, ⟨#[49, 48, 48, 10]⟩, ⟨#[49, 32, 32, 50, 10]⟩, ⟨#[45, 49, 10]⟩, ⟨#[49, 32, 50, 32, 51, 32, 52, 32, 53, 10]⟩] : List ByteArray).map Value.string).toArray 9))
    go_wp2_with fail
    refine (ofR w.heap.size w4.heap.size (p2 + 1) [⟨#[]⟩, ⟨#[10]⟩, ⟨#[49]⟩, ⟨#[48, 49, 10]⟩, ⟨#[49, 32, 50, 10, 51, 10]⟩, ⟨#[49, 48, 48, 10]⟩, ⟨#[49, 32, 32, 50, 10]⟩, ⟨#[45, 49, 10]⟩, ⟨#[49, 32, 50, 32, 51, 32, 52, 32, 53, 10]⟩] _ HR5.out (by omega) HW5.out (by omega) (by decide) (by decide) (by decide)).mono ?_
    rintro e w6 ⟨x, rfl, hx, _, ho6⟩
    have HB6 := Lib.hid (HB5.out.trans (OFB.out _ _ ho6))
    clear ho6
    go_wp2_with fail
    go_ret
    exact ⟨x, rfl, by omega, HB6.out⟩
  · have hq0 : (y == 0) = false := by simpa using h0
    by_cases h1 : y = 1
    · subst h1
      have HW5 := Lib.hid (rowS_lit w4 [⟨#[49]⟩, ⟨#[10]⟩, ⟨#[120, 10]⟩] 9)
      have HR5 := Lib.hid (HR4.out.keep ((Below.refl w4.heap.size w4).alloc (Nat.le_refl _) (.cells (([⟨#[49]⟩, ⟨#[10]⟩, ⟨#[120, 10]⟩] : List ByteArray).map Value.string).toArray 9)) hlt4)
      have HB5 := Lib.hid (HB4.out.alloc (by omega) (.cells (([⟨#[49]⟩, ⟨#[10]⟩, ⟨#[120, 10]⟩] : List ByteArray).map Value.string).toArray 9))
      clear h0
      go_wp2_with fail
      refine (ofR w.heap.size w4.heap.size (p2 + 1) [⟨#[49]⟩, ⟨#[10]⟩, ⟨#[120, 10]⟩] _ HR5.out (by omega) HW5.out (by omega) (by decide) (by decide) (by decide)).mono ?_
      rintro e w6 ⟨x, rfl, hx, _, ho6⟩
      have HB6 := Lib.hid (HB5.out.trans (OFB.out _ _ ho6))
      clear ho6
      go_wp2_with fail
      go_ret
      exact ⟨S ++ x, rfl, by rw [ByteArray.size_append]; omega, HB6.out⟩
    · have hq1 : (y == 1) = false := by simpa using h1
      clear h0 h1
      go_wp2_with fail
      go_ret
      exact ⟨S, rfl, by omega, HB4.out⟩
end Go.Proofs.YthncpnopplhlkaaDoor
