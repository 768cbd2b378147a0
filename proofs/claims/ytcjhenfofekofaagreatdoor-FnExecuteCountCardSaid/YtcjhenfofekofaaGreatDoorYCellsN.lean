/-
  Contract: impl.cellsText without a mask, of numbers from -1 on: it returns some text.
-/
import Derived.Test.YtcjhenfofekofaaGreatDoorJ1
namespace Go.Proofs.YtcjhenfofekofaaGreatDoor
open Go.RowKit
open Go.TextMath (text word line rowW cellW)

def itw (n : Int) : ByteArray := ⟨(Lib.itoa n).toArray⟩
theorem itw_short {n : Int} (h0 : -1 ≤ n) (h1 : n ≤ 1000000) : (Lib.itoa n).length ≤ 7 := by
  by_cases h : n < 0
  · obtain rfl : n = -1 := by omega
    unfold Lib.itoa
    rw [if_pos (by decide), List.length_cons, Lib.decDigits_one (by decide)]
    decide
  · have e : Lib.itoa n = word n := by unfold Lib.itoa word; rw [if_neg h]
    rw [e]
    exact Go.TextMath.word_short (by omega) h1
theorem itoaZ (n : Int) (w : World) (h0 : -1 ≤ n) (h1 : n ≤ 1000000) (ht : PowTab w) :
    Calls Tryz.prog 45 #[.int .i64 n] w fun e w' => e = .returned (.string (itw n)) ∧ Below w.heap.size w w' := by
  refine (Tryz.strconv_Itoa n (by omega) (by omega) w ht).mono fun e w' ⟨he, k, os, hw⟩ => ⟨?_, ?_⟩
  · rw [he]; rfl
  · rw [hw]; exact Lib.below_grow _ _ (Nat.le_refl _) k os
def FitZ (T : List (List Int)) : Prop := T.length ≤ 1000 ∧ ∀ i, i < T.length → 1 ≤ (T.getD i []).length ∧ (T.getD i []).length ≤ 4 ∧ ∀ j, j < (T.getD i []).length → -1 ≤ (T.getD i []).getD j 0 ∧ (T.getD i []).getD j 0 ≤ 1000000
def wordsZ (r : List Int) (j i : Nat) : Value := if i < j then .string (itw (r.getD i 0)) else .string ⟨#[]⟩
theorem words_putZ {W : World} {B0 n j : Nat} {r : List Int} {v : ByteArray} (hW : W.rowIs B0 9 n (wordsZ r j)) (hv : v = itw (r.getD j 0)) :
    (W.setCell ⟨B0, j, none⟩ (.string v)).rowIs B0 9 n (wordsZ r (j + 1)) := by
  refine (hW.set j _).congr fun i _ => ?_
  by_cases e : i = j
  · subst e; rw [if_pos rfl, hv]; unfold wordsZ; rw [if_pos (by omega)]
  · rw [if_neg e]; unfold wordsZ
    by_cases hl : i < j
    · rw [if_pos hl, if_pos (by omega)]
    · rw [if_neg hl, if_neg (by omega)]
theorem joinZ {W : World} {B0 : Nat} {r : List Int} (hW : W.rowIs B0 9 r.length (wordsZ r r.length)) (hr : ∀ j, j < r.length → -1 ≤ r.getD j 0 ∧ r.getD j 0 ≤ 1000000) (h4 : r.length ≤ 4) :
    Calls Tryz.prog 75 #[.slice (some ⟨B0, 0, none⟩) r.length r.length, .string ⟨#[32]⟩] W fun e w' => ∃ J : ByteArray, e = .returned (.string J) ∧ J.size ≤ 40 ∧ Below W.heap.size W w' := by
  have hl : ((r.map itw).map (·.data.toList)) = r.map Lib.itoa := by rw [List.map_map]; rfl
  have hj : (Lib.join (r.map Lib.itoa) [32]).length ≤ 40 := by
    have h1 : ∀ x ∈ r.map Lib.itoa, x.length ≤ 7 := fun x hx => by
      obtain ⟨n, hn, rfl⟩ := List.mem_map.1 hx
      obtain ⟨i, hi, rfl⟩ := List.mem_iff_getElem.1 hn
      have := hr i hi
      rw [List.getD_eq_getElem?_getD, List.getElem?_eq_getElem hi, Option.getD_some] at this
      exact itw_short this.1 this.2
    have hl2 : (r.map Lib.itoa).length = r.length := List.length_map _
    have hs := lens_le _ h1
    cases hw : r.map Lib.itoa with
    | nil => simp [Lib.join_nil]
    | cons a q =>
      rw [hw] at hl2 hs
      rw [Lib.join_length]
      simp only [List.length_cons, List.length_nil] at hl2 hs ⊢
      omega
  have := Tryz.strings_Join B0 0 r.length (r.map itw) ⟨#[32]⟩ W (fun j x hx => by
    rw [List.getElem?_map, Option.map_eq_some_iff] at hx
    obtain ⟨n, hn, rfl⟩ := hx
    obtain ⟨hi, hn⟩ := List.getElem?_eq_some_iff.1 hn
    rw [Nat.zero_add, hW.cell hi]; unfold wordsZ; rw [if_pos hi, List.getD_eq_getElem?_getD, List.getElem?_eq_getElem hi, Option.getD_some, hn]) hW.lt (by rw [List.length_map]; omega) (by rw [List.length_map]; exact Nat.le_refl _) (by rw [hl]; show (Lib.join (r.map Lib.itoa) [32]).length ≤ _; omega)
  rw [List.length_map, hl] at this
  refine this.mono ?_
  rintro e w' ⟨rfl, hb⟩
  exact ⟨_, rfl, by show (Lib.join (r.map Lib.itoa) [32]).toArray.size ≤ 40; rw [List.size_toArray]; exact hj, hb⟩

set_option maxHeartbeats 2000000 in
theorem cellsZ (ao : Option Addr) (b off cap : Nat) (T : List (List Int)) (w : World) (hr : Tab .i64 w ao b off T) (hT : FitZ T) (ht : PowTab w) :
    Calls Tryz.prog 53 #[.slice ao T.length cap, .slice none 0 0] w fun e w' => (∃ s : ByteArray, e = .returned (.string s)) ∧ Below w.heap.size w w' := by
  have HR := Lib.hid hr
  have HP := Lib.hid ht
  have HT := Lib.hid hT
  have hT1 := hT.1
  clear hr ht hT
  go_enter Tryz.func53, Tryz.ntmps53
  go_wp2_with fail
  go_loopw [13] (fun t wr => ∃ k : Nat, k ≤ T.length ∧ t = .int .i64 k ∧ (∃ X : List UInt8, X.length ≤ 50 * k ∧ Lib.IsBuilder 63 5 w.heap.size w.heap.size (Lib.byteCells X) wr) ∧ Below w.heap.size w wr) (fun t _ => T.length - (intOf t).toNat)
  case atStart => exact ⟨0, Nat.zero_le _, rfl, ⟨[], Nat.zero_le _, Lib.fresh_isBuilder _ _ w⟩, (Below.refl _ _).alloc (Nat.le_refl _) _⟩
  case round =>
    obtain ⟨k, hk, rfl, ⟨X, hX, hib⟩, hbel⟩ := hrel
    have HIB := Lib.hid hib
    have HB := Lib.hid hbel
    clear hib hbel
    by_cases hlt : k < T.length
    · obtain ⟨hf1, hf4, hf⟩ := HT.out.2 k hlt
      have HR1 := Lib.hid (HR.out.keep HB.out (Nat.le_refl _))
      obtain rfl := HR.out.1 (by omega)
      obtain ⟨a', b', o', c', h1, h2, h3, h4⟩ := HR1.out.2 k hlt
      obtain ⟨r, hrr⟩ : ∃ r, T.getD k [] = r := ⟨_, rfl⟩
      rw [hrr] at h1 h2 h3 hf1 hf4 hf
      obtain rfl := h2.1 (by omega)
      have HRR := Lib.hid hrr
      have HR2 := Lib.hid h2
      have HF := Lib.hid hf
      have hmk : ∀ W : World, (Instr.makeSlice 64 (.int .i64 (r.length : Int)) (.int .i64 (r.length : Int))).run Tryz.prog W = .ok (.slice (some ⟨W.heap.size, 0, none⟩) r.length r.length) (W.alloc (.cells (madeCells #[.string ⟨#[]⟩] r.length) 9)) :=
        fun W => run_make_row' 64 9 _ 16 Tryz.underlying64 Tryz.info9 rfl .i64 .i64 r.length (by omega) (by omega) W
      clear hrr h2 hf
      go_wp2_with fail
      obtain ⟨B0, hB0⟩ : ∃ B0, wr.heap.size = B0 := ⟨_, rfl⟩
      obtain ⟨wo, hwo⟩ : ∃ wo : World, wo = wr := ⟨_, rfl⟩
      have hsz := HB.out.size
      have HW0 := Lib.hid (World.rowIs_made wr (.string ⟨#[]⟩) r.length 9)
      have HA0 := Lib.hid ((Below.refl wr.heap.size wr).alloc (Nat.le_refl _) (.cells (madeCells #[.string ⟨#[]⟩] r.length) 9))
      rw [← hwo] at hB0 HIB HB h1 HR1 HR2 hsz HW0 HA0 ⊢
      rw [hB0] at HW0 HA0 hsz ⊢
      have HB0 := Lib.hid hB0
      clear hB0 hwo
      go_loopw [23] (fun t wj => ∃ j : Nat, j ≤ r.length ∧ t = .int .i64 j ∧ wj.rowIs B0 9 r.length (wordsZ r j) ∧ Below B0 wo wj) (fun t _ => r.length - (intOf t).toNat)
      case atStart => exact ⟨0, Nat.zero_le _, rfl, HW0.out, HA0.out⟩
      case round =>
        clear HW0 HA0
        obtain ⟨j, hj, rfl, hw, hbj⟩ := hrel
        have HW := Lib.hid hw
        have HBJ := Lib.hid hbj
        clear hw hbj
        by_cases hjn : j < r.length
        · have hszj : B0 ≤ wr.heap.size := by have := HBJ.out.size; rw [HB0.out] at this; exact this
          have HBW := Lib.hid (HB.out.trans (HBJ.out.mono hsz))
          have hcx := HR2.out.keep HBJ.out (Nat.le_of_eq HB0.out)
          obtain ⟨x, hx⟩ : ∃ x, r.getD j 0 = x := ⟨_, rfl⟩
          have hcx1 := hcx.2 j hjn
          have hxf := HF.out j hjn
          rw [hx] at hcx1 hxf
          have HX := Lib.hid hx
          obtain ⟨hx0, hx1⟩ := hxf
          have HPJ := Lib.hid (HP.out.keep HBW.out (Nat.le_refl _))
          have hbw := HW.out.lt
          clear hcx hx
          go_wp2_with fail
          refine (itoaZ x _ hx0 hx1 HPJ.out).mono ?_
          rintro e w1 ⟨rfl, hb1⟩
          have HB1 := Lib.hid hb1
          have HW1 := Lib.hid (HW.out.of_block (hb1.block B0 hbw))
          have hc1 := HW1.out.cell hjn
          have hf1 := HW1.out.frozen j
          clear hb1
          go_wp2_with fail
          go_roundw
          case rel => exact ⟨j + 1, by omega, by go_num, words_putZ HW1.out (by rw [HX.out]), HBJ.out.trans ((HB1.out.mono hszj).setCell (Nat.le_refl _) _)⟩
          case measure => simp [intOf]; omega
        · obtain rfl : j = r.length := by omega
          have hszj : B0 ≤ wr.heap.size := by have := HBJ.out.size; rw [HB0.out] at this; exact this
          go_wp2_with fail
          refine (joinZ HW.out HF.out hf4).mono ?_
          rintro e w1 ⟨J, rfl, hjs, hb1⟩
          have HB1 := Lib.hid hb1
          clear hb1
          have HBO := Lib.hid (show Below wo.heap.size wo w1 from by rw [HB0.out]; exact HBJ.out.trans (HB1.out.mono hszj))
          have HW2 := Lib.hid (Tryz.Builder_WriteString _ _ _ (J ++ ⟨#[10]⟩) w1 (ib_keep HIB.out HBO.out) (by
            have h2 : (J ++ ⟨#[10]⟩ : ByteArray).size = J.size + 1 := by rw [ByteArray.size_append]; rfl
            rw [Lib.byteCells_length, h2]; omega) (Nat.le_trans HB.out.size HBO.out.size))
          go_wp2_with fail
          refine (HW2.out).mono ?_
          rintro e w2 ⟨rfl, hib2, hb2⟩
          have HIB2 := Lib.hid hib2
          have HB2 := Lib.hid hb2
          clear hib2 hb2
          go_wp2_with fail
          go_roundw
          case rel =>
            refine ⟨k + 1, by omega, by go_num, ⟨X ++ (J.data.toList ++ [10]), ?_, .inr ?_⟩, (HB.out.trans (HBO.out.mono HB.out.size)).trans HB2.out⟩
            · have h3 : J.data.toList.length = J.size := Array.length_toList
              rw [List.length_append, List.length_append, h3, List.length_singleton]
              omega
            · have h1 := HIB2.out
              rw [Lib.strCells_eq, ← Lib.byteCells_append] at h1
              have h2 : (J ++ ⟨#[10]⟩ : ByteArray).data.toList = J.data.toList ++ [10] := by simp
              rw [h2] at h1
              exact h1
          case measure => simp [intOf]; omega
    · obtain rfl : k = T.length := by omega
      have HIB2 := HIB
      go_wp2_with fail
      refine (Tryz.Builder_String_any _ _ _ _ HIB2.out HB.out.size).mono ?_
      rintro e w' ⟨rfl, hb2⟩
      have HB2 := Lib.hid hb2
      clear hb2
      go_wp2_with fail
      go_ret
      exact ⟨⟨_, rfl⟩, HB.out.trans HB2.out⟩
end Go.Proofs.YtcjhenfofekofaaGreatDoor
