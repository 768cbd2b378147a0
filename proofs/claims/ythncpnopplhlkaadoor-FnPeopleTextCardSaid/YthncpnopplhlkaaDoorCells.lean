/-
  Contract: impl.cellsText: the text of rows of numbers, under a mask or under none.
-/
import Derived.Test.YthncpnopplhlkaaDoorItoa
import Derived.Test.YthncpnopplhlkaaDoorTabB
namespace Go.Proofs.YthncpnopplhlkaaDoor
open Go.RowKit
open Go.TextMath (text line rowW cellW word word_short)

/-- A cell's word. -/
def cw (n : Int) (b : Bool) : ByteArray := ⟨(cellW n b).toArray⟩
theorem cw_f (n : Int) : cw n false = wd n := rfl
theorem cw_t (n : Int) : cw n true = ⟨#[120]⟩ := rfl
/-- The words of a row, as strings. -/
def ws (r : List Int) (h : List Bool) : List ByteArray := (rowW r h).map fun l => ⟨l.toArray⟩
theorem ws_len (r : List Int) (h : List Bool) : (ws r h).length = r.length := by simp [ws, Go.TextMath.rowW_length]
theorem ws_list (r : List Int) (h : List Bool) : (ws r h).map (·.data.toList) = rowW r h := by simp [ws, List.map_map, Function.comp_def]
theorem ws_at {r : List Int} {h : List Bool} {i : Nat} {x : ByteArray} (hx : (ws r h)[i]? = some x) : i < r.length ∧ x = cw (r.getD i 0) (h.getD i false) := by
  simp only [ws, rowW, List.getElem?_map, List.getElem?_mapIdx, Option.map_eq_some_iff] at hx
  obtain ⟨a, ⟨n, hn, rfl⟩, rfl⟩ := hx
  obtain ⟨hi, rfl⟩ := List.getElem?_eq_some_iff.1 hn
  exact ⟨hi, by rw [getD_at hi]; rfl⟩
/-- What a round's words hold when the first j are laid. -/
def wordsF (r : List Int) (h : List Bool) (j i : Nat) : Value := if i < j then .string (cw (r.getD i 0) (h.getD i false)) else .string ⟨#[]⟩
/-- A mask, or none. -/
def Mk (w : World) (mv : Value) (T : List (List Int)) (M : List (List Bool)) : Prop :=
  (mv = .slice none 0 0 ∧ M = []) ∨ ∃ bm om cm, mv = .slice (some ⟨bm, om, none⟩) T.length cm ∧ T.length ≤ cm ∧ cm ≤ 9223372036854775807 ∧ TabB w (some ⟨bm, om, none⟩) bm om M ∧ M.length = T.length ∧ ∀ i, i < T.length → (M.getD i []).length = (T.getD i []).length
theorem Mk.keep {w w' : World} {mv : Value} {T : List (List Int)} {M : List (List Bool)} {B : Nat} (h : Mk w mv T M) (hb : Below B w w') (hB : w.heap.size ≤ B) : Mk w' mv T M := by
  rcases h with h | ⟨bm, om, cm, h1, h2, h3, h4, h5⟩
  · exact .inl h
  · exact .inr ⟨bm, om, cm, h1, h2, h3, h4.keep hb hB, h5⟩
/-- Rows of at least one and at most four numbers, none negative or great. -/
def Fit (T : List (List Int)) : Prop := T.length ≤ 1000 ∧ ∀ i, i < T.length → 1 ≤ (T.getD i []).length ∧ (T.getD i []).length ≤ 4 ∧ ∀ j, j < (T.getD i []).length → 0 ≤ (T.getD i []).getD j 0 ∧ (T.getD i []).getD j 0 ≤ 1000000
theorem take_one {α : Type} {d : α} {l : List α} {k : Nat} (h : k < l.length) : l.take (k + 1) = l.take k ++ [l.getD k d] := by
  rw [List.take_succ_eq_append_getElem h]; simp [List.getD_eq_getElem?_getD, List.getElem?_eq_getElem h]
theorem cellW_short {n : Int} {b : Bool} (h0 : 0 ≤ n) (h1 : n ≤ 1000000) : (cellW n b).length ≤ 7 := by
  cases b
  · exact word_short h0 h1
  · simp [cellW]
theorem lens_le (l : List (List UInt8)) (h : ∀ x ∈ l, x.length ≤ 7) : Lib.lens l ≤ 7 * l.length := by
  induction l with
  | nil => simp [Lib.lens]
  | cons a r ih =>
    have h1 := h a (by simp)
    have h2 := ih fun x hx => h x (by simp [hx])
    simp only [Lib.lens, List.map_cons, List.sum_cons, List.length_cons] at h2 ⊢
    omega
theorem rowW_short {r : List Int} {h : List Bool} (hr : ∀ j, j < r.length → 0 ≤ r.getD j 0 ∧ r.getD j 0 ≤ 1000000) : ∀ x ∈ rowW r h, x.length ≤ 7 := by
  intro x hx
  obtain ⟨i, hi, rfl⟩ := List.mem_iff_getElem.1 hx
  simp only [rowW, List.getElem_mapIdx, List.length_mapIdx] at hi ⊢
  have := hr i hi
  rw [getD_at hi] at this
  exact cellW_short this.1 this.2
theorem join_short {r : List Int} {h : List Bool} (hr : ∀ j, j < r.length → 0 ≤ r.getD j 0 ∧ r.getD j 0 ≤ 1000000) (h4 : r.length ≤ 4) : (Lib.join (rowW r h) [32]).length ≤ 40 := by
  have hl := Go.TextMath.rowW_length r h
  have hs := lens_le _ (rowW_short (h := h) hr)
  cases hw : rowW r h with
  | nil => simp [Lib.join_nil]
  | cons a q =>
    rw [hw] at hl hs
    rw [Lib.join_length]
    simp only [List.length_cons, List.length_nil] at hl hs ⊢
    omega
theorem text_short {T : List (List Int)} {M : List (List Bool)} (hT : Fit T) : ∀ k, k ≤ T.length → (text (T.take k) M).length ≤ 41 * k := by
  intro k
  induction k with
  | zero => intro _; simp [text]
  | succ k ih =>
    intro hk
    have h1 := ih (by omega)
    obtain ⟨h2, h3, h4⟩ := hT.2 k (by omega)
    rw [take_one (d := []) (by omega), Go.TextMath.text_snoc, List.length_append]
    have := join_short (h := M.getD (T.take k).length []) h4 h3
    simp only [line, List.length_append, List.length_cons, List.length_nil] at this ⊢
    omega

theorem words_put {W : World} {B0 n j : Nat} {r : List Int} {h : List Bool} {v : ByteArray} (hW : W.rowIs B0 9 n (wordsF r h j)) (hv : v = cw (r.getD j 0) (h.getD j false)) :
    (W.setCell ⟨B0, j, none⟩ (.string v)).rowIs B0 9 n (wordsF r h (j + 1)) := by
  refine (hW.set j _).congr fun i _ => ?_
  by_cases e : i = j
  · subst e; rw [if_pos rfl, hv]; unfold wordsF; rw [if_pos (by omega)]
  · rw [if_neg e]; unfold wordsF
    by_cases hl : i < j
    · rw [if_pos hl, if_pos (by omega)]
    · rw [if_neg hl, if_neg (by omega)]

theorem words_put2 {W : World} {B0 n j : Nat} {r : List Int} {h : List Bool} {v : ByteArray} {u : Value} (hW : W.rowIs B0 9 n (wordsF r h j)) (hv : v = cw (r.getD j 0) (h.getD j false)) :
    ((W.setCell ⟨B0, j, none⟩ u).setCell ⟨B0, j, none⟩ (.string v)).rowIs B0 9 n (wordsF r h (j + 1)) := by
  refine ((hW.set j u).set j _).congr fun i _ => ?_
  by_cases e : i = j
  · subst e; rw [if_pos rfl, hv]; unfold wordsF; rw [if_pos (by omega)]
  · rw [if_neg e, if_neg e]; unfold wordsF
    by_cases hl : i < j
    · rw [if_pos hl, if_pos (by omega)]
    · rw [if_neg hl, if_neg (by omega)]
/-- A row's words with spaces between. -/
def jn (r : List Int) (h : List Bool) : ByteArray := ⟨(Lib.join (rowW r h) [32]).toArray⟩
theorem joinI {W : World} {B0 : Nat} {r : List Int} {h : List Bool} (hW : W.rowIs B0 9 r.length (wordsF r h r.length)) (hr : ∀ j, j < r.length → 0 ≤ r.getD j 0 ∧ r.getD j 0 ≤ 1000000) (h4 : r.length ≤ 4) :
    Calls Tryd.prog 53 #[.slice (some ⟨B0, 0, none⟩) r.length r.length, .string ⟨#[32]⟩] W fun e w' => e = .returned (.string (jn r h)) ∧ Below W.heap.size W w' := by
  have hj := join_short (h := h) hr h4
  have := Tryd.strings_Join B0 0 r.length (ws r h) ⟨#[32]⟩ W (fun j x hx => by
    obtain ⟨hi, rfl⟩ := ws_at hx
    rw [Nat.zero_add, hW.cell hi]; unfold wordsF; rw [if_pos hi]) hW.lt (by rw [ws_len]; omega) (by rw [ws_len]; exact Nat.le_refl _) (by rw [ws_list]; show (Lib.join (rowW r h) [32]).length ≤ _; omega)
  rw [ws_len, ws_list] at this
  exact this

theorem ib_keep {T e B b : Nat} {bs : List Value} {w w' : World} (h : Lib.IsBuilder T e B b bs w) (hb : Below w.heap.size w w') : Lib.IsBuilder T e B b bs w' := by
  have key : ∀ p, Lib.BuilderAt T e B b p bs w → Lib.BuilderAt T e B b p bs w' := fun p hp => by
    have hlt := Lib.BuilderAt.lt hp
    obtain ⟨h1, v, h2, h3, h4⟩ := hp
    refine ⟨h1, v, (hb.block b hlt).trans h2, World.ownsRow.kept (row := none) h3 ⟨hb.os, hb.tape, hb.output, hb.size, fun k hk _ => hb.block k hk⟩ ?_, h4⟩
    cases hv : v.ownBlock with
    | none => exact .inl rfl
    | some k => exact .inr (fun e => by cases e)
  rcases h with h | h
  · exact .inl (key _ h)
  · exact .inr (key _ h)
theorem line_cells (l : List UInt8) (r : List Int) (h : List Bool) : Lib.byteCells l ++ Lib.strCells (jn r h ++ ⟨#[10]⟩) = Lib.byteCells (l ++ line (rowW r h)) := by
  rw [Lib.byteCells_append, Lib.strCells_eq]
  congr 2
theorem jn_size (r : List Int) (h : List Bool) : (jn r h ++ ⟨#[10]⟩ : ByteArray).size = (Lib.join (rowW r h) [32]).length + 1 := by
  simp [jn, ByteArray.size]
theorem jn_le {r : List Int} {h : List Bool} (hr : ∀ j, j < r.length → 0 ≤ r.getD j 0 ∧ r.getD j 0 ≤ 1000000) (h4 : r.length ≤ 4) : (jn r h).size ≤ 40 := by
  have := join_short (h := h) hr h4
  simpa [jn, ByteArray.size] using this

theorem Tryd.info9 : (Tryd.prog.info? 9).map (fun i => (i.zero, i.size, i.bytes)) = some (some (.string ⟨#[]⟩), 1, 16) := by kernel_rfl

set_option maxHeartbeats 2000000 in
theorem cellsI (ao : Option Addr) (b off cap : Nat) (T : List (List Int)) (mv : Value) (M : List (List Bool)) (w : World) (hr : Tab .i64 w ao b off T) (hT : Fit T) (hm : Mk w mv T M) (ht : PowTab w) :
    Calls Tryd.prog 33 #[.slice ao T.length cap, mv] w fun e w' => e = .returned (.string ⟨(text T M).toArray⟩) ∧ Below w.heap.size w w' := by
  have HR := Lib.hid hr
  have HM := Lib.hid hm
  have HP := Lib.hid ht
  have HT := Lib.hid hT
  have hT1 := hT.1
  clear hr hm ht hT
  go_enter Tryd.func33, Tryd.ntmps33
  go_wp2_with fail
  go_loopw [13] (fun t wr => ∃ k : Nat, k ≤ T.length ∧ t = .int .i64 k ∧ Lib.IsBuilder 72 5 w.heap.size w.heap.size (Lib.byteCells (text (T.take k) M)) wr ∧ Below w.heap.size w wr) (fun t _ => T.length - (intOf t).toNat)
  case atStart => exact ⟨0, Nat.zero_le _, rfl, Lib.fresh_isBuilder _ _ w, (Below.refl _ _).alloc (Nat.le_refl _) _⟩
  case round =>
    obtain ⟨k, hk, rfl, hib, hbel⟩ := hrel
    have HIB := Lib.hid hib
    have HB := Lib.hid hbel
    clear hib hbel
    by_cases hlt : k < T.length
    · obtain ⟨hf1, hf4, hf⟩ := HT.out.2 k hlt
      have HR1 := Lib.hid (HR.out.keep HB.out (Nat.le_refl _))
      obtain rfl := HR.out.1 (by omega)
      obtain ⟨a', b', o', c', h1, h2, h3, h4⟩ := HR1.out.2 k hlt
      obtain ⟨r, hrr⟩ : ∃ r, T.getD k [] = r := ⟨_, rfl⟩
      rw [hrr] at h1 h2 h3 hf1 hf4 hf
      obtain rfl := h2.1 (by omega)
      have HRR := Lib.hid hrr
      have HR2 := Lib.hid h2
      have HF := Lib.hid hf
      have hmk : ∀ W : World, (Instr.makeSlice 64 (.int .i64 (r.length : Int)) (.int .i64 (r.length : Int))).run Tryd.prog W = .ok (.slice (some ⟨W.heap.size, 0, none⟩) r.length r.length) (W.alloc (.cells (madeCells #[.string ⟨#[]⟩] r.length) 9)) :=
        fun W => run_make_row' 64 9 _ 16 Tryd.underlying64 Tryd.info9 rfl .i64 .i64 r.length (by omega) (by omega) W
      clear hrr h2 hf
      go_wp2_with fail
      obtain ⟨B0, hB0⟩ : ∃ B0, wr.heap.size = B0 := ⟨_, rfl⟩
      obtain ⟨wo, hwo⟩ : ∃ wo : World, wo = wr := ⟨_, rfl⟩
      have hsz := HB.out.size
      have HW0 := Lib.hid (World.rowIs_made wr (.string ⟨#[]⟩) r.length 9)
      have HA0 := Lib.hid ((Below.refl wr.heap.size wr).alloc (Nat.le_refl _) (.cells (madeCells #[.string ⟨#[]⟩] r.length) 9))
      rw [← hwo] at hB0 HIB HB h1 HR1 HR2 hsz HW0 HA0 ⊢
      rw [hB0] at HW0 HA0 hsz ⊢
      have HB0 := Lib.hid hB0
      clear hB0 hwo
      obtain ⟨h, hh⟩ : ∃ h, M.getD k [] = h := ⟨_, rfl⟩
      have HH := Lib.hid hh
      clear hh
      go_loopw [23] (fun t wj => ∃ j : Nat, j ≤ r.length ∧ t = .int .i64 j ∧ wj.rowIs B0 9 r.length (wordsF r h j) ∧ Below B0 wo wj) (fun t _ => r.length - (intOf t).toNat)
      case atStart => exact ⟨0, Nat.zero_le _, rfl, HW0.out, HA0.out⟩
      case round =>
        clear HW0 HA0
        obtain ⟨j, hj, rfl, hw, hbj⟩ := hrel
        have HW := Lib.hid hw
        have HBJ := Lib.hid hbj
        clear hw hbj
        by_cases hjn : j < r.length
        · have hszj : B0 ≤ wr.heap.size := by have := HBJ.out.size; rw [HB0.out] at this; exact this
          have HBW := Lib.hid (HB.out.trans (HBJ.out.mono hsz))
          have hcx := HR2.out.keep HBJ.out (Nat.le_of_eq HB0.out)
          obtain ⟨x, hx⟩ : ∃ x, r.getD j 0 = x := ⟨_, rfl⟩
          have hcx1 := hcx.2 j hjn
          have hxf := HF.out j hjn
          rw [hx] at hcx1 hxf
          have HX := Lib.hid hx
          obtain ⟨hx0, hx1⟩ := hxf
          have HPJ := Lib.hid (HP.out.keep HBW.out (Nat.le_refl _))
          have hbw := HW.out.lt
          clear hcx hx
          rcases HM.out with hnil | hmask
          · have HN := Lib.hid hnil.2
            obtain rfl := hnil.1
            clear hnil
            have hh0 : Hid (h = []) := by have h1 := HN.out; subst h1; exact HH.out.symm.trans (by simp)
            go_wp2_with fail
            refine (itoaI x _ hx0 hx1 HPJ.out).mono ?_
            rintro e w1 ⟨rfl, hb1⟩
            have HB1 := Lib.hid hb1
            have HW1 := Lib.hid (HW.out.of_block (hb1.block B0 hbw))
            have hc1 := HW1.out.cell hjn
            have hf1 := HW1.out.frozen j
            clear hb1
            go_wp2_with fail
            go_roundw
            case rel => exact ⟨j + 1, by omega, by go_num, words_put HW1.out (by rw [hh0.out, HX.out]; exact (cw_f _).symm), HBJ.out.trans ((HB1.out.mono hszj).setCell (Nat.le_refl _) _)⟩
            case measure => simp [intOf]; omega
          · obtain ⟨bm, om, cm, rfl, hcm1, hcm2, hmt, hml, hmw⟩ := hmask
            obtain ⟨a3, b3, o3, c3, g1, g2, g3, g4⟩ := hmt.2 k (by omega)
            have hmw1 := hmw k hlt
            have hhe := HH.out
            rw [hhe] at g1 g2 g3 hmw1
            rw [HRR.out] at hmw1
            obtain rfl := g2.1 (by omega)
            obtain ⟨fl, hfl⟩ : ∃ fl, h.getD j false = fl := ⟨_, rfl⟩
            have g5 := g2.2 j (by omega)
            rw [hfl] at g5
            have HFL := Lib.hid hfl
            have hbm : bm < w.heap.size := World.block_lt_of_cell? _ _ g1
            have hb3 : b3 < w.heap.size := World.block_lt_of_cell? _ _ g5
            have hnj : j < h.length := by omega
            have hkc : k < cm := by omega
            have hn1 : bm ≠ B0 := by omega
            have hn2 : b3 ≠ B0 := by omega
            have HG1 := Lib.hid g1
            have HG5 := Lib.hid g5
            have HML := Lib.hid hml
            have HMW := Lib.hid hmw1
            clear hhe hfl g1 g2 g5 hml hmw1 hmw hmt
            go_wp2_with fail
            refine (itoaI x _ hx0 hx1 HPJ.out).mono ?_
            rintro e w1 ⟨rfl, hb1⟩
            have HB1 := Lib.hid hb1
            have HW1 := Lib.hid (HW.out.of_block (hb1.block B0 hbw))
            have hc1 := HW1.out.cell hjn
            have hf1 := HW1.out.frozen j
            have HBW1 := Lib.hid (HBW.out.trans (hb1.mono (by have := HBW.out.size; omega)))
            have k1 : w1.cell? ⟨bm, om + k, none⟩ = some (.slice (some ⟨b3, o3, none⟩) h.length c3) := (HBW1.out.cell (p := ⟨bm, om + k, none⟩) hbm).trans HG1.out
            have k5 : w1.cell? ⟨b3, o3 + j, none⟩ = some (.bool fl) := (HBW1.out.cell (p := ⟨b3, o3 + j, none⟩) hb3).trans HG5.out
            clear hb1
            cases fl with
            | false =>
              go_wp2_with fail
              go_roundw
              case rel => exact ⟨j + 1, by omega, by go_num, words_put HW1.out (by rw [HFL.out, HX.out]; exact (cw_f _).symm), HBJ.out.trans ((HB1.out.mono hszj).setCell (Nat.le_refl _) _)⟩
              case measure => simp [intOf]; omega
            | true =>
              go_wp2_with fail
              go_roundw
              case rel => exact ⟨j + 1, by omega, by go_num, words_put2 HW1.out (by rw [HFL.out]; rfl), HBJ.out.trans (((HB1.out.mono hszj).setCell (Nat.le_refl _) _).setCell (Nat.le_refl _) _)⟩
              case measure => simp [intOf]; omega
        · obtain rfl : j = r.length := by omega
          have hszj : B0 ≤ wr.heap.size := by have := HBJ.out.size; rw [HB0.out] at this; exact this
          go_wp2_with fail
          refine (joinI HW.out HF.out hf4).mono ?_
          rintro e w1 ⟨rfl, hb1⟩
          have HB1 := Lib.hid hb1
          clear hb1
          have hjs := jn_le (h := h) HF.out hf4
          have HBO := Lib.hid (show Below wo.heap.size wo w1 from by rw [HB0.out]; exact HBJ.out.trans (HB1.out.mono hszj))
          have HW2 := Lib.hid (Tryd.Builder_WriteString _ _ _ (jn r h ++ ⟨#[10]⟩) w1 (ib_keep HIB.out HBO.out) (by
            have h1 := text_short (M := M) HT.out k hk
            have h2 := join_short (h := h) HF.out hf4
            rw [Lib.byteCells_length, jn_size]; omega) (Nat.le_trans HB.out.size HBO.out.size))
          go_wp2_with fail
          refine (HW2.out).mono ?_
          rintro e w2 ⟨rfl, hib2, hb2⟩
          have HIB2 := Lib.hid hib2
          have HB2 := Lib.hid hb2
          clear hib2 hb2
          go_wp2_with fail
          go_roundw
          case rel =>
            refine ⟨k + 1, by omega, by go_num, .inr ?_, (HB.out.trans (HBO.out.mono HB.out.size)).trans HB2.out⟩
            have h1 := HIB2.out
            rw [line_cells] at h1
            rw [take_one (d := []) hlt, Go.TextMath.text_snoc, HRR.out, show (T.take k).length = k by rw [List.length_take]; omega, HH.out]
            exact h1
          case measure => simp [intOf]; omega
    · obtain rfl : k = T.length := by omega
      have HIB2 : Hid (Lib.IsBuilder 72 5 w.heap.size w.heap.size (Lib.byteCells (text T M)) wr) := by
        have := HIB.out
        rw [List.take_length] at this
        exact this
      go_wp2_with fail
      refine (Tryd.Builder_String_any _ _ _ _ HIB2.out HB.out.size).mono ?_
      rintro e w' ⟨rfl, hb2⟩
      have HB2 := Lib.hid hb2
      clear hb2
      go_wp2_with fail
      go_ret
      exact ⟨rfl, HB.out.trans HB2.out⟩
end Go.Proofs.YthncpnopplhlkaaDoor
