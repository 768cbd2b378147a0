/-
  Contracts: TableText of the program and of the reference.
-/
import Derived.Test.YthncpnopplhlkaaDoorCells
import Derived.Test.YthncpnopplhlkaaDoorTabS
import Derived.Test.YthncpnopplhlkaaDoorJoinS
namespace Go.Proofs.YthncpnopplhlkaaDoor
open Go.RowKit
open Go.TextMath (text line rowW cellW word tvB mvB)

/-- The text of a table; none if it is none. -/
def tt (T : List (List Int)) : ByteArray := ⟨(if tvB T then text T [] else []).toArray⟩
/-- The text of a table under a mask; none if these are none. -/
def mt (T : List (List Int)) (M : List (List Bool)) : ByteArray := ⟨(if mvB T M then text T M else []).toArray⟩
theorem tv_fit {T : List (List Int)} (h : tvB T = true) : Fit T := by
  obtain ⟨h1, h2, h3, h4, h5⟩ := tv_t.1 h
  refine ⟨by omega, fun i hi => ?_⟩
  obtain ⟨h6, h7⟩ := h5 i hi
  exact ⟨by omega, by omega, fun j hj => ⟨(h7 j hj).1, by have := (h7 j hj).2; omega⟩⟩
theorem tt_t {T : List (List Int)} (h : tvB T = true) : tt T = ⟨(text T []).toArray⟩ := by unfold tt; rw [if_pos h]
theorem tt_f {T : List (List Int)} (h : tvB T = false) : tt T = ⟨#[]⟩ := by unfold tt; rw [h]; rfl
theorem mt_t {T : List (List Int)} {M : List (List Bool)} (h : mvB T M = true) : mt T M = ⟨(text T M).toArray⟩ := by unfold mt; rw [if_pos h]
theorem mt_f {T : List (List Int)} {M : List (List Bool)} (h : mvB T M = false) : mt T M = ⟨#[]⟩ := by unfold mt; rw [h]; rfl
theorem mv_tv {T : List (List Int)} {M : List (List Bool)} (h : mvB T M = true) : tvB T = true := (mv_t.1 h).1

theorem tableTextI (ao : Option Addr) (b off cap : Nat) (T : List (List Int)) (w : World) (hr : Tab .i64 w ao b off T) (hl : T.length ≤ 9223372036854775807) (ht : PowTab w) :
    Calls Tryd.prog 15 #[.slice ao T.length cap] w fun e w' => e = .returned (.string (tt T)) ∧ Below w.heap.size w w' := by
  have HR := Lib.hid hr
  have HP := Lib.hid ht
  clear hr ht
  cases hv : tvB T with
  | false =>
    have HT := Lib.hid (tt_f hv)
    go_enter Tryd.func15, Tryd.ntmps15
    go_wp2_with fail
    refine (tableValidI ao b off cap T w HR.out hl).mono ?_
    rintro e w' ⟨rfl, rfl⟩
    go_wp2_with fail
    go_ret
    exact ⟨by rw [HT.out]; rfl, Below.refl _ _⟩
  | true =>
    have HT := Lib.hid (tt_t hv)
    have HF := Lib.hid (tv_fit hv)
    go_enter Tryd.func15, Tryd.ntmps15
    go_wp2_with fail
    refine (tableValidI ao b off cap T w HR.out hl).mono ?_
    rintro e w' ⟨rfl, rfl⟩
    go_wp2_with fail
    refine (cellsI ao b off cap T _ [] w HR.out HF.out (.inl ⟨rfl, rfl⟩) HP.out).mono ?_
    rintro e w1 ⟨rfl, hb⟩
    have HB := Lib.hid hb
    clear hb
    go_wp2_with fail
    go_ret
    exact ⟨by rw [HT.out]; rfl, HB.out⟩

theorem text_take (T : List (List Int)) (M : List (List Bool)) {k : Nat} (h : k < T.length) : text (T.take (k + 1)) M = text (T.take k) M ++ line (rowW (T.getD k []) (M.getD k [])) := by
  rw [take_one (d := []) h, Go.TextMath.text_snoc, show (T.take k).length = k by rw [List.length_take]; omega]
theorem str_add (a b : List UInt8) : (⟨a.toArray⟩ : ByteArray) ++ ⟨b.toArray⟩ = ⟨(a ++ b).toArray⟩ := by
  apply ByteArray.ext
  apply Array.toList_inj.1
  simp
/-- A list of bytes, as a string. -/
def bs (l : List UInt8) : ByteArray := ⟨l.toArray⟩
theorem bs_add (a b : List UInt8) : bs a ++ bs b = bs (a ++ b) := str_add a b
theorem bs_size (l : List UInt8) : (bs l).size = l.length := by simp [bs, ByteArray.size]
theorem line_short {r : List Int} {h : List Bool} (hr : ∀ j, j < r.length → 0 ≤ r.getD j 0 ∧ r.getD j 0 ≤ 1000000) (h4 : r.length ≤ 4) : (line (rowW r h)).length ≤ 41 := by
  have := join_short (h := h) hr h4
  simp only [line, List.length_append, List.length_cons, List.length_nil] at this ⊢
  omega

/-- A line of numbers. -/
def lnW (r : List Int) : ByteArray := bs (line (r.map word))
theorem lnW_size {r : List Int} (hr : ∀ j, j < r.length → 0 ≤ r.getD j 0 ∧ r.getD j 0 ≤ 1000000) (h4 : r.length ≤ 4) : (lnW r).size ≤ 41 := by
  have := line_short (h := []) hr h4
  rw [Go.TextMath.rowW_none] at this
  unfold lnW
  rw [bs_size]; exact this
theorem numbersW (ao : Option Addr) (b off cap : Nat) (xs : List Int) (w : World) (hr : Row .i64 w ao b off xs) (hl : xs.length ≤ 1000) (hx : ∀ i, i < xs.length → 0 ≤ xs.getD i 0 ∧ xs.getD i 0 ≤ 1000000) :
    Calls Tryd.prog 35 #[.slice ao xs.length cap] w fun e w' => e = .returned (.string (lnW xs)) ∧ Below w.heap.size w w' := numbersS ao b off cap xs w hr hl hx

set_option maxHeartbeats 1000000 in
theorem tableTextS (ao : Option Addr) (b off cap : Nat) (T : List (List Int)) (w : World) (hr : Tab .i64 w ao b off T) (hl : T.length ≤ 9223372036854775807) :
    Calls Tryd.prog 16 #[.slice ao T.length cap] w fun e w' => e = .returned (.string (tt T)) ∧ Below w.heap.size w w' := by
  have HR := Lib.hid hr
  clear hr
  cases hv : tvB T with
  | false =>
    have HV := Lib.hid hv
    have HT := Lib.hid (tt_f hv)
    clear hv
    go_enter Tryd.func16, Tryd.ntmps16
    go_wp2_with fail
    go_loopw [3, 4] (fun o i wr => i = .int .i64 0 ∧ o = .string ⟨#[]⟩ ∧ wr = w) (fun _ _ _ => 0)
    case atStart => exact ⟨rfl, rfl, rfl⟩
    case round =>
      obtain ⟨rfl, rfl, rfl⟩ := hrel
      by_cases h0 : 0 < T.length
      · go_wp2_with fail
        refine (tableValidS ao b off cap T _ HR.out hl).mono ?_
        rintro e w' ⟨rfl, q, rfl⟩
        rw [HV.out]
        go_wp2_with fail
        go_ret
        exact ⟨by rw [HT.out]; rfl, below_draws _ _⟩
      · go_wp2_with fail
        go_ret
        exact ⟨by rw [HT.out]; rfl, Below.refl _ _⟩
  | true =>
    have HV := Lib.hid hv
    have HT := Lib.hid (tt_t hv)
    have HF := Lib.hid (tv_fit hv)
    obtain ⟨t1, t2, _, _, _⟩ := tv_t.1 hv
    obtain rfl := HR.out.1 (by omega)
    clear hv
    go_enter Tryd.func16, Tryd.ntmps16
    go_wp2_with fail
    go_loopw [3, 4] (fun o i wr => ∃ k : Nat, k ≤ T.length ∧ i = .int .i64 k ∧ o = .string (bs (text (T.take k) [])) ∧ Below w.heap.size w wr) (fun _ i _ => T.length - (intOf i).toNat)
    case atStart => exact ⟨0, Nat.zero_le _, rfl, rfl, Below.refl _ _⟩
    case round =>
      obtain ⟨k, hk, rfl, rfl, hb⟩ := hrel
      have HB := Lib.hid hb
      clear hb
      have hts := text_short (M := []) HF.out k hk
      have hbz : (bs (text (T.take k) [])).size ≤ 164 := by rw [bs_size]; omega
      by_cases hlt : k < T.length
      · have HRW := Lib.hid (HR.out.keep HB.out (Nat.le_refl _))
        go_wp2_with fail
        refine (tableValidS _ b off cap T _ HRW.out hl).mono ?_
        rintro e w' ⟨rfl, q, rfl⟩
        rw [HV.out]
        obtain ⟨a', b', o', c', h1, h2, h3, h4⟩ := HRW.out.2 k hlt
        obtain ⟨hf1, hf4, hf⟩ := HF.out.2 k hlt
        obtain ⟨r, hrr⟩ : ∃ r, T.getD k [] = r := ⟨_, rfl⟩
        rw [hrr] at h1 h2 h3 hf1 hf4 hf
        obtain rfl := h2.1 (by omega)
        have HRR := Lib.hid hrr
        have HR2 := Lib.hid (show Row .i64 (wr.drewN q) _ b' o' r from h2)
        have HFF := Lib.hid hf
        have hls := lnW_size hf hf4
        clear hrr h2 hf
        go_wp2_with fail
        refine (numbersW _ b' o' c' r _ HR2.out (by omega) HFF.out).mono ?_
        rintro e w1 ⟨rfl, hb1⟩
        have HB1 := Lib.hid hb1
        clear hb1
        go_wp2_with fail
        go_roundw
        case rel =>
          refine ⟨k + 1, by omega, by go_num, ?_, HB.out.trans ((below_draws wr q).mono HB.out.size |>.trans (HB1.out.mono HB.out.size))⟩
          rw [text_take _ _ hlt, HRR.out]
          unfold lnW
          rw [bs_add]
          show _ = Value.string (bs (_ ++ line (rowW r [])))
          rw [Go.TextMath.rowW_none]
        case measure => simp [intOf]; omega
      · obtain rfl : k = T.length := by omega
        go_wp2_with fail
        go_ret
        exact ⟨by rw [HT.out, List.take_length]; rfl, HB.out⟩

/-- A line of words under flags. -/
def lnM (r : List Int) (h : List Bool) : ByteArray := bs (line (rowW r h))
theorem lnM_size {r : List Int} {h : List Bool} (hr : ∀ j, j < r.length → 0 ≤ r.getD j 0 ∧ r.getD j 0 ≤ 1000000) (h4 : r.length ≤ 4) : (lnM r h).size ≤ 41 := by
  unfold lnM
  rw [bs_size]; exact line_short hr h4
theorem ws_getD {r : List Int} {h : List Bool} {i : Nat} (hi : i < r.length) : (ws r h).getD i ⟨#[]⟩ = cw (r.getD i 0) (h.getD i false) := by
  have hl : i < (ws r h).length := by rw [ws_len]; exact hi
  rw [List.getD_eq_getElem?_getD, List.getElem?_eq_getElem hl]
  exact (ws_at (List.getElem?_eq_getElem hl)).2
theorem ws_take {r : List Int} {h : List Bool} {j : Nat} (hj : j < r.length) : (ws r h).take (j + 1) = (ws r h).take j ++ [cw (r.getD j 0) (h.getD j false)] := by
  rw [takeS _ (by rw [ws_len]; exact hj), ws_getD hj]
theorem cw_size {n : Int} {b : Bool} (h0 : 0 ≤ n) (h1 : n ≤ 1000000) : (cw n b).size ≤ 7 := by
  have := cellW_short (b := b) h0 h1
  simpa [cw, ByteArray.size] using this
theorem joinM (ao : Option Addr) (b off cap : Nat) (r : List Int) (h : List Bool) (w : World) (hr : RowS w ao b off (ws r h)) (hl : r.length ≤ 1000) (hx : ∀ j, j < r.length → 0 ≤ r.getD j 0 ∧ r.getD j 0 ≤ 1000000) :
    Calls Tryd.prog 57 #[.slice ao r.length cap] w fun e w' => e = .returned (.string (lnM r h)) ∧ w = w' := by
  have hj := joinS ao b off cap (ws r h) w hr (by rw [ws_len]; exact hl) (fun i hi => by
    rw [ws_len] at hi
    rw [ws_getD hi]
    exact cw_size (hx i hi).1 (hx i hi).2)
  rw [ws_len] at hj
  have e : lnS (ws r h) = lnM r h := by unfold lnS lnM bs; rw [ws_list]
  rw [e] at hj
  exact hj

end Go.Proofs.YthncpnopplhlkaaDoor
