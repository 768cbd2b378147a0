/-
  Joined: JoinS, Texts, PplText, Parse, ParseMore, PplParse, TextMore, Blank, TurnMath, TabO, Flow, CellsOf.
-/
import Derived.Test.YtlmlchkolcmhpaaGreatDoorJ1
import Derived.Lib.Join
import Derived.Lib.ItoaNum
import Derived.Lib.AtoiTie
import Derived.Lib.AtoiAllCases
import Derived.Lib.Atoi
import Derived.Lib.Strings
import Derived.RangeFuncNested
import Derived.RangeFuncBound
import Derived.RangeFuncCalls
import Derived.RangeFuncLeaves
import Derived.Shelf.Abstract
import Derived.Shelf.RegionOpen
import Derived.WalkKit
import Derived.OwnWalkIn
import Derived.TacticsInMore
import Derived.LoopNIn
import Derived.LoopIn

section
/-
  Contracts: spec.l41Join, spec.l41Numbers.
-/
namespace Go.Proofs.YtlmlchkolcmhpaaGreatDoor
open Go.RowKit
open Go.TextMath (word line)

/-- Words so far, with spaces between. -/
def jk (ss : List ByteArray) (k : Nat) : ByteArray := ⟨(Lib.join ((ss.take k).map (·.data.toList)) [32]).toArray⟩
/-- A line of words. -/
def lnS (ss : List ByteArray) : ByteArray := ⟨(line (ss.map (·.data.toList))).toArray⟩
theorem takeS (ss : List ByteArray) {k : Nat} (h : k < ss.length) : ss.take (k + 1) = ss.take k ++ [ss.getD k ⟨#[]⟩] := by
  rw [List.take_succ_eq_append_getElem h]; simp [List.getD_eq_getElem?_getD, List.getElem?_eq_getElem h]
theorem jk_first (ss : List ByteArray) (h : 0 < ss.length) : jk ss 0 ++ ss.getD 0 ⟨#[]⟩ = jk ss 1 := by
  unfold jk
  rw [takeS ss h]
  apply ByteArray.ext
  apply Array.toList_inj.1
  simp [Lib.join_nil, Lib.join_one]
theorem jk_more (ss : List ByteArray) {k : Nat} (h0 : 0 < k) (h : k < ss.length) : (jk ss k ++ ⟨#[32]⟩) ++ ss.getD k ⟨#[]⟩ = jk ss (k + 1) := by
  unfold jk
  rw [takeS ss h, List.map_append, List.map_singleton, Go.TextMath.join_snoc _ _ (by
    intro hh
    have h2 : ((ss.take k).map (·.data.toList)).length = k := by rw [List.length_map, List.length_take]; omega
    rw [hh] at h2
    simp at h2
    omega)]
  apply ByteArray.ext
  apply Array.toList_inj.1
  simp
theorem jk_end (ss : List ByteArray) : jk ss ss.length ++ ⟨#[10]⟩ = lnS ss := by
  unfold jk lnS line
  rw [List.take_length]
  apply ByteArray.ext
  apply Array.toList_inj.1
  simp
theorem jk_size (ss : List ByteArray) (hs : ∀ i, i < ss.length → (ss.getD i ⟨#[]⟩).size ≤ 7) : ∀ k, k ≤ ss.length → (jk ss k).size ≤ 8 * k := by
  intro k
  induction k with
  | zero => intro _; simp [jk, Lib.join_nil, ByteArray.size]
  | succ k ih =>
    intro hk
    have h1 := ih (by omega)
    have h2 := hs k (by omega)
    rcases Nat.eq_zero_or_pos k with h0 | h0
    · subst h0
      rw [Nat.zero_add, ← jk_first ss (by omega), ByteArray.size_append]; omega
    · have h3 : (⟨#[32]⟩ : ByteArray).size = 1 := rfl
      rw [← jk_more ss h0 (by omega), ByteArray.size_append, ByteArray.size_append]; omega

set_option maxHeartbeats 400000 in
theorem joinS (ao : Option Addr) (b off cap : Nat) (ss : List ByteArray) (w : World) (hr : RowS w ao b off ss) (hl : ss.length ≤ 1000) (hs : ∀ i, i < ss.length → (ss.getD i ⟨#[]⟩).size ≤ 7) :
    Calls Tryz.prog 91 #[.slice ao ss.length cap] w fun e w' => e = .returned (.string (lnS ss)) ∧ w = w' := by
  have HR := Lib.hid hr
  have HS := Lib.hid hs
  clear hr hs
  go_enter Tryz.func91, Tryz.ntmps91
  go_wp2_with fail
  go_loop [3, 4] (fun o i => ∃ k : Nat, k ≤ ss.length ∧ i = .int .i64 k ∧ o = .string (jk ss k)) (fun _ i => ss.length - (intOf i).toNat)
  case atStart => exact ⟨0, Nat.zero_le _, rfl, rfl⟩
  case round =>
    obtain ⟨k, hk, rfl, rfl⟩ := hrel
    have hz := jk_size ss HS.out k hk
    by_cases hlt : k < ss.length
    · obtain rfl := HR.out.1 (by omega)
      obtain ⟨s, hse⟩ : ∃ s, ss.getD k ⟨#[]⟩ = s := ⟨_, rfl⟩
      have hc := HR.out.2 k hlt
      have hsz := HS.out k hlt
      rw [hse] at hc hsz
      have HE := Lib.hid hse
      have hz3 : (jk ss k ++ ⟨#[32]⟩ : ByteArray).size ≤ 8 * k + 1 := by
        have h3 : (⟨#[32]⟩ : ByteArray).size = 1 := rfl
        rw [ByteArray.size_append]; omega
      clear hse
      by_cases h0 : 0 < k
      · go_wp2_with fail
        go_round
        case rel => exact ⟨k + 1, by omega, by go_num, by rw [← jk_more ss h0 hlt, HE.out]⟩
        case measure => simp [intOf]; omega
      · obtain rfl : k = 0 := by omega
        rw [Nat.add_zero] at hc
        go_wp2_with fail
        go_round
        case rel => exact ⟨1, by omega, rfl, by rw [← jk_first ss hlt, HE.out]⟩
        case measure => simp [intOf]; omega
    · obtain rfl : k = ss.length := by omega
      go_wp2_with fail
      go_ret
      exact ⟨by rw [← jk_end]; rfl, rfl⟩

theorem wd_size {n : Int} (h0 : 0 ≤ n) (h1 : n ≤ 1000000) : (wd n).size ≤ 7 := by
  have := Go.TextMath.word_short h0 h1
  simpa [wd, ByteArray.size] using this
theorem lnS_wd (xs : List Int) : lnS (xs.map wd) = ⟨(line (xs.map word)).toArray⟩ := by
  unfold lnS
  congr 3
  rw [List.map_map]
  exact List.map_congr_left fun n _ => wd_list n
theorem mapwd_at {xs : List Int} {i : Nat} (h : i < (xs.map wd).length) : (xs.map wd).getD i ⟨#[]⟩ = wd (xs.getD i 0) := by
  rw [List.length_map] at h
  simp [List.getD_eq_getElem?_getD, List.getElem?_eq_getElem h]

set_option maxHeartbeats 1000000 in
theorem numbersS (ao : Option Addr) (b off cap : Nat) (xs : List Int) (w : World) (hr : Row .i64 w ao b off xs) (hl : xs.length ≤ 1000) (hx : ∀ i, i < xs.length → 0 ≤ xs.getD i 0 ∧ xs.getD i 0 ≤ 1000000) :
    Calls Tryz.prog 55 #[.slice ao xs.length cap] w fun e w' => e = .returned (.string ⟨(line (xs.map word)).toArray⟩) ∧ Below w.heap.size w w' := by
  have HR := Lib.hid hr
  have HX := Lib.hid hx
  clear hr hx
  go_enter Tryz.func55, Tryz.ntmps55
  go_wp2_with fail
  go_loopw [3, 4] (fun v i wr => ∃ k : Nat, k ≤ xs.length ∧ i = .int .i64 k ∧ OwnS wr w.heap.size v ((xs.take k).map wd) ∧ Below w.heap.size w wr) (fun _ i _ => xs.length - (intOf i).toNat)
  case atStart =>
    refine ⟨0, Nat.zero_le _, rfl, ?_, (Below.refl _ _).alloc (Nat.le_refl _) _⟩
    have := World.ownsRow_lit (base := w.heap.size) (e := 9) (size := 1) w #[] 0 (Nat.le_refl _) (by unfold maxLen; omega) (by simp)
    simpa [OwnS] using this
  case round =>
    obtain ⟨k, hk, rfl, ho, hb⟩ := hrel
    have HO := Lib.hid ho
    have HB := Lib.hid hb
    have hsz := hb.size
    clear ho hb
    by_cases hlt : k < xs.length
    · have HC := Lib.hid (HR.out.keep HB.out (Nat.le_refl _))
      obtain rfl := HR.out.1 (by omega)
      obtain ⟨x, hxe⟩ : ∃ x, xs.getD k 0 = x := ⟨_, rfl⟩
      have hc := HC.out.2 k hlt
      have hxx := HX.out k hlt
      rw [hxe] at hc hxx
      have HE := Lib.hid hxe
      obtain ⟨hx0, hx1⟩ := hxx
      have htl : Hid (((xs.take k).map wd).length = k) := by show _ = _; simp; omega
      clear hxe
      go_wp2_with fail
      refine (decS (x.toNat + 1) x _ hx0 (by omega) hx1).mono ?_
      rintro e w1 ⟨rfl, hb1⟩
      have HB1 := Lib.hid hb1
      have HO1 := Lib.hid (HO.out.below hb1)
      have hs1 := hb1.size
      clear hb1
      go_wp2_with (at_builtin; refine wpList_app eltS rfl (.tmp 12) (.tmp 18) rfl w.heap.size _ _ _ rfl HO1.out [.string (wd x)] rfl (by intro u hu; simp at hu; subst hu; rfl) rfl rfl ?c1 ?c2 ?_)
      case c1 => rw [htl.out]; omega
      case c2 => omega
      intro v' w2 ho2 hb2 _
      have HO2 : Hid (OwnS w2 w.heap.size v' ((xs.take (k + 1)).map wd)) := by
        rw [List.take_succ_eq_append_getElem hlt, List.map_append, List.map_singleton, ← getD_at hlt, HE.out]
        have h1 : ((xs.take k).map wd ++ [wd x]).length = k + 1 := by rw [List.length_append, htl.out]; rfl
        show w2.ownsRow _ _ 1 v' _ _
        rw [h1, List.map_append]
        simpa using ho2
      have HB2 := Lib.hid hb2
      clear ho2 hb2
      go_wp2_with fail
      go_roundw
      case rel => exact ⟨k + 1, by omega, by go_num, HO2.out, (HB.out.trans (HB1.out.mono hsz)).trans HB2.out⟩
      case measure => simp [intOf]; omega
    · obtain rfl : k = xs.length := by omega
      have hoe := HO.out
      rw [List.take_length] at hoe
      obtain ⟨ao2, b2, c2, hv, hv1, hv2, hv3⟩ := hoe.row
      subst hv
      have hll : (xs.map wd).length = xs.length := List.length_map _
      have hj := joinS ao2 b2 0 c2 (xs.map wd) wr hv3 (by rw [hll]; exact hl) (fun i hi => by
        rw [mapwd_at hi]
        rw [List.length_map] at hi
        exact wd_size (HX.out i hi).1 (HX.out i hi).2)
      rw [hll] at hj hv1 ⊢
      rw [lnS_wd] at hj
      have HJ := Lib.hid hj
      clear hoe hv3 hll HO hj
      go_wp2_with fail
      refine (HJ.out).mono ?_
      rintro e w1 ⟨rfl, rfl⟩
      go_wp2_with fail
      go_ret
      exact ⟨rfl, HB.out⟩
end Go.Proofs.YtlmlchkolcmhpaaGreatDoor
end

section
/-
  Contracts: TableText of the program and of the reference.
-/
namespace Go.Proofs.YtlmlchkolcmhpaaGreatDoor
open Go.RowKit
open Go.TextMath (text line rowW cellW word tvB mvB)

/-- The text of a table; none if it is none. -/
def tt (T : List (List Int)) : ByteArray := ⟨(if tvB T then text T [] else []).toArray⟩
/-- The text of a table under a mask; none if these are none. -/
def mt (T : List (List Int)) (M : List (List Bool)) : ByteArray := ⟨(if mvB T M then text T M else []).toArray⟩
theorem tv_fit {T : List (List Int)} (h : tvB T = true) : Fit T := by
  obtain ⟨h1, h2, h3, h4, h5⟩ := tv_t.1 h
  refine ⟨by omega, fun i hi => ?_⟩
  obtain ⟨h6, h7⟩ := h5 i hi
  exact ⟨by omega, by omega, fun j hj => ⟨(h7 j hj).1, by have := (h7 j hj).2; omega⟩⟩
theorem tt_t {T : List (List Int)} (h : tvB T = true) : tt T = ⟨(text T []).toArray⟩ := by unfold tt; rw [if_pos h]
theorem tt_f {T : List (List Int)} (h : tvB T = false) : tt T = ⟨#[]⟩ := by unfold tt; rw [h]; rfl
theorem mt_t {T : List (List Int)} {M : List (List Bool)} (h : mvB T M = true) : mt T M = ⟨(text T M).toArray⟩ := by unfold mt; rw [if_pos h]
theorem mt_f {T : List (List Int)} {M : List (List Bool)} (h : mvB T M = false) : mt T M = ⟨#[]⟩ := by unfold mt; rw [h]; rfl
theorem mv_tv {T : List (List Int)} {M : List (List Bool)} (h : mvB T M = true) : tvB T = true := (mv_t.1 h).1

theorem tableTextI (ao : Option Addr) (b off cap : Nat) (T : List (List Int)) (w : World) (hr : Tab .i64 w ao b off T) (hl : T.length ≤ 9223372036854775807) (ht : PowTab w) :
    Calls Tryz.prog 43 #[.slice ao T.length cap] w fun e w' => e = .returned (.string (tt T)) ∧ Below w.heap.size w w' := by
  have HR := Lib.hid hr
  have HP := Lib.hid ht
  clear hr ht
  cases hv : tvB T with
  | false =>
    have HT := Lib.hid (tt_f hv)
    go_enter Tryz.func43, Tryz.ntmps43
    go_wp2_with fail
    refine (tableValidI ao b off cap T w HR.out hl).mono ?_
    rintro e w' ⟨rfl, rfl⟩
    go_wp2_with fail
    go_ret
    exact ⟨by rw [HT.out]; rfl, Below.refl _ _⟩
  | true =>
    have HT := Lib.hid (tt_t hv)
    have HF := Lib.hid (tv_fit hv)
    go_enter Tryz.func43, Tryz.ntmps43
    go_wp2_with fail
    refine (tableValidI ao b off cap T w HR.out hl).mono ?_
    rintro e w' ⟨rfl, rfl⟩
    go_wp2_with fail
    refine (cellsI ao b off cap T _ [] w HR.out HF.out (.inl ⟨rfl, rfl⟩) HP.out).mono ?_
    rintro e w1 ⟨rfl, hb⟩
    have HB := Lib.hid hb
    clear hb
    go_wp2_with fail
    go_ret
    exact ⟨by rw [HT.out]; rfl, HB.out⟩

theorem text_take (T : List (List Int)) (M : List (List Bool)) {k : Nat} (h : k < T.length) : text (T.take (k + 1)) M = text (T.take k) M ++ line (rowW (T.getD k []) (M.getD k [])) := by
  rw [take_one (d := []) h, Go.TextMath.text_snoc, show (T.take k).length = k by rw [List.length_take]; omega]
theorem str_add (a b : List UInt8) : (⟨a.toArray⟩ : ByteArray) ++ ⟨b.toArray⟩ = ⟨(a ++ b).toArray⟩ := by
  apply ByteArray.ext
  apply Array.toList_inj.1
  simp
/-- A list of bytes, as a string. -/
def bs (l : List UInt8) : ByteArray := ⟨l.toArray⟩
theorem bs_add (a b : List UInt8) : bs a ++ bs b = bs (a ++ b) := str_add a b
theorem bs_size (l : List UInt8) : (bs l).size = l.length := by simp [bs, ByteArray.size]
theorem line_short {r : List Int} {h : List Bool} (hr : ∀ j, j < r.length → 0 ≤ r.getD j 0 ∧ r.getD j 0 ≤ 1000000) (h4 : r.length ≤ 4) : (line (rowW r h)).length ≤ 41 := by
  have := join_short (h := h) hr h4
  simp only [line, List.length_append, List.length_cons, List.length_nil] at this ⊢
  omega

/-- A line of numbers. -/
def lnW (r : List Int) : ByteArray := bs (line (r.map word))
theorem lnW_size {r : List Int} (hr : ∀ j, j < r.length → 0 ≤ r.getD j 0 ∧ r.getD j 0 ≤ 1000000) (h4 : r.length ≤ 4) : (lnW r).size ≤ 41 := by
  have := line_short (h := []) hr h4
  rw [Go.TextMath.rowW_none] at this
  unfold lnW
  rw [bs_size]; exact this
theorem numbersW (ao : Option Addr) (b off cap : Nat) (xs : List Int) (w : World) (hr : Row .i64 w ao b off xs) (hl : xs.length ≤ 1000) (hx : ∀ i, i < xs.length → 0 ≤ xs.getD i 0 ∧ xs.getD i 0 ≤ 1000000) :
    Calls Tryz.prog 55 #[.slice ao xs.length cap] w fun e w' => e = .returned (.string (lnW xs)) ∧ Below w.heap.size w w' := numbersS ao b off cap xs w hr hl hx

set_option maxHeartbeats 1000000 in
theorem tableTextS (ao : Option Addr) (b off cap : Nat) (T : List (List Int)) (w : World) (hr : Tab .i64 w ao b off T) (hl : T.length ≤ 9223372036854775807) :
    Calls Tryz.prog 62 #[.slice ao T.length cap] w fun e w' => e = .returned (.string (tt T)) ∧ Below w.heap.size w w' := by
  have HR := Lib.hid hr
  clear hr
  cases hv : tvB T with
  | false =>
    have HV := Lib.hid hv
    have HT := Lib.hid (tt_f hv)
    clear hv
    go_enter Tryz.func62, Tryz.ntmps62
    go_wp2_with fail
    go_loopw [3, 4] (fun o i wr => i = .int .i64 0 ∧ o = .string ⟨#[]⟩ ∧ wr = w) (fun _ _ _ => 0)
    case atStart => exact ⟨rfl, rfl, rfl⟩
    case round =>
      obtain ⟨rfl, rfl, rfl⟩ := hrel
      by_cases h0 : 0 < T.length
      · go_wp2_with fail
        refine (tableValidS ao b off cap T _ HR.out hl).mono ?_
        rintro e w' ⟨rfl, q, rfl⟩
        rw [HV.out]
        go_wp2_with fail
        go_ret
        exact ⟨by rw [HT.out]; rfl, below_draws _ _⟩
      · go_wp2_with fail
        go_ret
        exact ⟨by rw [HT.out]; rfl, Below.refl _ _⟩
  | true =>
    have HV := Lib.hid hv
    have HT := Lib.hid (tt_t hv)
    have HF := Lib.hid (tv_fit hv)
    obtain ⟨t1, t2, _, _, _⟩ := tv_t.1 hv
    obtain rfl := HR.out.1 (by omega)
    clear hv
    go_enter Tryz.func62, Tryz.ntmps62
    go_wp2_with fail
    go_loopw [3, 4] (fun o i wr => ∃ k : Nat, k ≤ T.length ∧ i = .int .i64 k ∧ o = .string (bs (text (T.take k) [])) ∧ Below w.heap.size w wr) (fun _ i _ => T.length - (intOf i).toNat)
    case atStart => exact ⟨0, Nat.zero_le _, rfl, rfl, Below.refl _ _⟩
    case round =>
      obtain ⟨k, hk, rfl, rfl, hb⟩ := hrel
      have HB := Lib.hid hb
      clear hb
      have hts := text_short (M := []) HF.out k hk
      have hbz : (bs (text (T.take k) [])).size ≤ 164 := by rw [bs_size]; omega
      by_cases hlt : k < T.length
      · have HRW := Lib.hid (HR.out.keep HB.out (Nat.le_refl _))
        go_wp2_with fail
        refine (tableValidS _ b off cap T _ HRW.out hl).mono ?_
        rintro e w' ⟨rfl, q, rfl⟩
        rw [HV.out]
        obtain ⟨a', b', o', c', h1, h2, h3, h4⟩ := HRW.out.2 k hlt
        obtain ⟨hf1, hf4, hf⟩ := HF.out.2 k hlt
        obtain ⟨r, hrr⟩ : ∃ r, T.getD k [] = r := ⟨_, rfl⟩
        rw [hrr] at h1 h2 h3 hf1 hf4 hf
        obtain rfl := h2.1 (by omega)
        have HRR := Lib.hid hrr
        have HR2 := Lib.hid (show Row .i64 (wr.drewN q) _ b' o' r from h2)
        have HFF := Lib.hid hf
        have hls := lnW_size hf hf4
        clear hrr h2 hf
        go_wp2_with fail
        refine (numbersW _ b' o' c' r _ HR2.out (by omega) HFF.out).mono ?_
        rintro e w1 ⟨rfl, hb1⟩
        have HB1 := Lib.hid hb1
        clear hb1
        go_wp2_with fail
        go_roundw
        case rel =>
          refine ⟨k + 1, by omega, by go_num, ?_, HB.out.trans ((below_draws wr q).mono HB.out.size |>.trans (HB1.out.mono HB.out.size))⟩
          rw [text_take _ _ hlt, HRR.out]
          unfold lnW
          rw [bs_add]
          show _ = Value.string (bs (_ ++ line (rowW r [])))
          rw [Go.TextMath.rowW_none]
        case measure => simp [intOf]; omega
      · obtain rfl : k = T.length := by omega
        go_wp2_with fail
        go_ret
        exact ⟨by rw [HT.out, List.take_length]; rfl, HB.out⟩

/-- A line of words under flags. -/
def lnM (r : List Int) (h : List Bool) : ByteArray := bs (line (rowW r h))
theorem lnM_size {r : List Int} {h : List Bool} (hr : ∀ j, j < r.length → 0 ≤ r.getD j 0 ∧ r.getD j 0 ≤ 1000000) (h4 : r.length ≤ 4) : (lnM r h).size ≤ 41 := by
  unfold lnM
  rw [bs_size]; exact line_short hr h4
theorem ws_getD {r : List Int} {h : List Bool} {i : Nat} (hi : i < r.length) : (ws r h).getD i ⟨#[]⟩ = cw (r.getD i 0) (h.getD i false) := by
  have hl : i < (ws r h).length := by rw [ws_len]; exact hi
  rw [List.getD_eq_getElem?_getD, List.getElem?_eq_getElem hl]
  exact (ws_at (List.getElem?_eq_getElem hl)).2
theorem ws_take {r : List Int} {h : List Bool} {j : Nat} (hj : j < r.length) : (ws r h).take (j + 1) = (ws r h).take j ++ [cw (r.getD j 0) (h.getD j false)] := by
  rw [takeS _ (by rw [ws_len]; exact hj), ws_getD hj]
theorem cw_size {n : Int} {b : Bool} (h0 : 0 ≤ n) (h1 : n ≤ 1000000) : (cw n b).size ≤ 7 := by
  have := cellW_short (b := b) h0 h1
  simpa [cw, ByteArray.size] using this
theorem joinM (ao : Option Addr) (b off cap : Nat) (r : List Int) (h : List Bool) (w : World) (hr : RowS w ao b off (ws r h)) (hl : r.length ≤ 1000) (hx : ∀ j, j < r.length → 0 ≤ r.getD j 0 ∧ r.getD j 0 ≤ 1000000) :
    Calls Tryz.prog 91 #[.slice ao r.length cap] w fun e w' => e = .returned (.string (lnM r h)) ∧ w = w' := by
  have hj := joinS ao b off cap (ws r h) w hr (by rw [ws_len]; exact hl) (fun i hi => by
    rw [ws_len] at hi
    rw [ws_getD hi]
    exact cw_size (hx i hi).1 (hx i hi).2)
  rw [ws_len] at hj
  have e : lnS (ws r h) = lnM r h := by unfold lnS lnM bs; rw [ws_list]
  rw [e] at hj
  exact hj

end Go.Proofs.YtlmlchkolcmhpaaGreatDoor
end

section
/-
  Contracts: PeopleText of the program and of the reference.
-/
namespace Go.Proofs.YtlmlchkolcmhpaaGreatDoor
open Go.RowKit
open Go.TextMath (text line rowW cellW word)

def rowOf (p : Per) : List Int := [p.area, p.job, p.sex, p.pay]
def rowsOf (L : List Per) : List (List Int) := L.map rowOf
theorem rowsOf_len (L : List Per) : (rowsOf L).length = L.length := List.length_map _
theorem rowsOf_at {L : List Per} {i : Nat} (h : i < L.length) : (rowsOf L).getD i [] = rowOf (L.getD i per0) := by
  simp [rowsOf, List.getD_eq_getElem?_getD, List.getElem?_eq_getElem h]
theorem rowsOf_take {L : List Per} {k : Nat} (h : k < L.length) : rowsOf (L.take (k + 1)) = rowsOf (L.take k) ++ [rowOf (L.getD k per0)] := by
  unfold rowsOf
  rw [List.take_succ_eq_append_getElem h, List.map_append]
  simp [List.getD_eq_getElem?_getD, List.getElem?_eq_getElem h]
theorem rowsOf_tk (L : List Per) (k : Nat) : rowsOf (L.take k) = (rowsOf L).take k := by unfold rowsOf; rw [List.map_take]
/-- The text of people; none if they are none. -/
def tp (L : List Per) : ByteArray := ⟨(if pplB L then text (rowsOf L) [] else []).toArray⟩
theorem tp_t {L : List Per} (h : pplB L = true) : tp L = ⟨(text (rowsOf L) []).toArray⟩ := by unfold tp; rw [if_pos h]
theorem tp_f {L : List Per} (h : pplB L = false) : tp L = ⟨#[]⟩ := by unfold tp; rw [h]; rfl
theorem rowOf_ok {p : Per} (h : PerOk p) : ∀ j, j < (rowOf p).length → 0 ≤ (rowOf p).getD j 0 ∧ (rowOf p).getD j 0 ≤ 1000000 := by
  obtain ⟨h1, h2, h3, h4⟩ := h
  intro j hj
  have : j = 0 ∨ j = 1 ∨ j = 2 ∨ j = 3 := by simp [rowOf] at hj; omega
  rcases this with rfl | rfl | rfl | rfl <;> simp [rowOf] <;> omega
theorem ppl_fit {L : List Per} (h : pplB L = true) : Fit (rowsOf L) := by
  obtain ⟨h1, h2⟩ := ppl_t.1 h
  refine ⟨by rw [rowsOf_len]; omega, fun i hi => ?_⟩
  rw [rowsOf_len] at hi
  rw [rowsOf_at hi]
  exact ⟨by simp [rowOf], by simp [rowOf], rowOf_ok (h2 i hi)⟩

set_option maxHeartbeats 2000000 in
set_option maxRecDepth 100000 in
theorem peopleTextS (ao : Option Addr) (b off cap : Nat) (L : List Per) (w : World) (hr : Ppl w ao b off L) (hl : L.length ≤ 9223372036854775807) :
    Calls Tryz.prog 25 #[.slice ao L.length cap] w fun e w' => e = .returned (.string (tp L)) ∧ Below w.heap.size w w' := by
  have HR := Lib.hid hr
  clear hr
  cases hv : pplB L with
  | false =>
    have HV := Lib.hid hv
    have HT := Lib.hid (tp_f hv)
    clear hv
    go_enter Tryz.func25, Tryz.ntmps25
    go_wp2_with fail
    go_loopw [3, 4] (fun o i wr => i = .int .i64 0 ∧ o = .string ⟨#[]⟩ ∧ wr = w) (fun _ _ _ => 0)
    case atStart => exact ⟨rfl, rfl, rfl⟩
    case round =>
      obtain ⟨rfl, rfl, rfl⟩ := hrel
      by_cases h0 : 0 < L.length
      · go_wp2_with fail
        refine (peopleS ao b off cap L _ HR.out hl).mono ?_
        rintro e w' ⟨rfl, hb⟩
        rw [HV.out]
        have HB := Lib.hid hb
        clear hb
        go_wp2_with fail
        go_ret
        exact ⟨by rw [HT.out]; rfl, HB.out⟩
      · go_wp2_with fail
        go_ret
        exact ⟨by rw [HT.out]; rfl, Below.refl _ _⟩
  | true =>
    have HV := Lib.hid hv
    have HT := Lib.hid (tp_t hv)
    have HF := Lib.hid (ppl_fit hv)
    have h40 := (ppl_t.1 hv).1
    clear hv
    go_enter Tryz.func25, Tryz.ntmps25
    go_wp2_with fail
    go_loopw [3, 4] (fun o i wr => ∃ k : Nat, k ≤ L.length ∧ i = .int .i64 k ∧ o = .string (bs (text (rowsOf (L.take k)) [])) ∧ Below w.heap.size w wr) (fun _ i _ => L.length - (intOf i).toNat)
    case atStart => exact ⟨0, Nat.zero_le _, rfl, rfl, Below.refl _ _⟩
    case round =>
      obtain ⟨k, hk, rfl, rfl, hb⟩ := hrel
      have HB := Lib.hid hb
      have hsz := hb.size
      clear hb
      have hts := text_short (M := []) HF.out k (by rw [rowsOf_len]; exact hk)
      rw [← rowsOf_tk] at hts
      have hbz : (bs (text (rowsOf (L.take k)) [])).size ≤ 1640 := by rw [bs_size]; omega
      by_cases hlt : k < L.length
      · have HRW := Lib.hid (HR.out.keep HB.out (Nat.le_refl _))
        go_wp2_with fail
        refine (peopleS ao b off cap L _ HRW.out hl).mono ?_
        rintro e w1 ⟨rfl, hb1⟩
        rw [HV.out]
        have h2 := (HRW.out.keep hb1 (Nat.le_refl _)).2 k hlt
        have HB1 := Lib.hid (HB.out.trans (hb1.mono hsz))
        have hs1 : w.heap.size ≤ w1.heap.size := HB1.out.size
        clear hb1
        obtain rfl := HR.out.1 (by omega)
        obtain ⟨hf1, hf4, hf⟩ := HF.out.2 k (by rw [rowsOf_len]; exact hlt)
        rw [rowsOf_at hlt] at hf1 hf4 hf
        obtain ⟨p, hp⟩ : ∃ p, L.getD k per0 = p := ⟨_, rfl⟩
        rw [hp] at h2 hf1 hf4 hf
        have HPE := Lib.hid hp
        clear hp
        obtain ⟨a, j, s, y⟩ := p
        obtain ⟨c0, c1, c2, c3⟩ := h2
        simp only at c0 c1 c2 c3
        have hrow : Row .i64 ((w1.alloc (.cells #[.int .i64 a, .int .i64 j, .int .i64 s, .int .i64 y] 69)).alloc (.cells #[.int .i64 a, .int .i64 j, .int .i64 s, .int .i64 y] 3)) (some ⟨w1.heap.size + 1, 0, none⟩) (w1.heap.size + 1) 0 (rowOf ⟨a, j, s, y⟩) := by
          have := World.rowIs_alloc (w1.alloc (.cells #[.int .i64 a, .int .i64 j, .int .i64 s, .int .i64 y] 69)) #[.int .i64 a, .int .i64 j, .int .i64 s, .int .i64 y] 3 (fun i => .int .i64 ((rowOf ⟨a, j, s, y⟩).getD i 0)) (fun i hi => by
            have : i = 0 ∨ i = 1 ∨ i = 2 ∨ i = 3 := by simp at hi; omega
            rcases this with rfl | rfl | rfl | rfl <;> rfl)
          have h3 := Row.of_rowIs (xs := rowOf ⟨a, j, s, y⟩) this
          simpa using h3
        have hls := lnW_size hf hf4
        have hnum := numbersW (some ⟨w1.heap.size + 1, 0, none⟩) (w1.heap.size + 1) 0 4 (rowOf ⟨a, j, s, y⟩) _ hrow (by omega) hf
        rw [show (rowOf ⟨a, j, s, y⟩).length = 4 from rfl] at hnum
        obtain ⟨ln, hln⟩ : ∃ ln, lnW (rowOf ⟨a, j, s, y⟩) = ln := ⟨_, rfl⟩
        rw [hln] at hls hnum
        have HLN := Lib.hid hln
        have HN := Lib.hid hnum
        clear hrow hf hln hnum
        go_wp2_with fail
        refine (HN.out).mono ?_
        rintro e w2 ⟨rfl, hb2⟩
        have HB2 := Lib.hid (((HB1.out.alloc hs1 (.cells #[.int .i64 a, .int .i64 j, .int .i64 s, .int .i64 y] 69)).alloc (by simp; omega) (.cells #[.int .i64 a, .int .i64 j, .int .i64 s, .int .i64 y] 3)).trans (hb2.mono (by simp; omega)))
        clear hb2
        go_wp2_with fail
        go_roundw
        case rel =>
          refine ⟨k + 1, by omega, by go_num, ?_, HB2.out⟩
          rw [rowsOf_take hlt, Go.TextMath.text_snoc, HPE.out, ← HLN.out]
          unfold lnW
          rw [bs_add]
          rw [List.getD_nil, Go.TextMath.rowW_none]
        case measure => simp [intOf]; omega
      · obtain rfl : k = L.length := by omega
        go_wp2_with fail
        go_ret
        exact ⟨by rw [HT.out, List.take_length]; rfl, HB.out⟩
end Go.Proofs.YtlmlchkolcmhpaaGreatDoor
end

section
/-
  Plain mathematics of reading texts: what lies between a byte; numbers of words; tables and people out of their texts.
-/
namespace Go.ParseMath
open Go.Lib (join joinTail decDigits)
open Go.TextMath

/-- What lies between a byte. -/
def cutL (c : UInt8) : List UInt8 → List (List UInt8)
  | [] => [[]]
  | x :: r => if x = c then [] :: cutL c r else match cutL c r with
    | [] => [[x]]
    | w :: ws => (x :: w) :: ws

theorem cutL_cons (c x : UInt8) (r : List UInt8) : cutL c (x :: r) = if x = c then [] :: cutL c r else match cutL c r with
    | [] => [[x]]
    | w :: ws => (x :: w) :: ws := rfl

theorem cutL_ne (c : UInt8) (s : List UInt8) : cutL c s ≠ [] := by
  cases s with
  | nil => simp [cutL]
  | cons x r =>
    unfold cutL
    split
    · simp
    · split <;> simp

theorem cutL_none {c : UInt8} {u : List UInt8} (h : c ∉ u) : cutL c u = [u] := by
  induction u with
  | nil => rfl
  | cons x r ih =>
    rw [List.mem_cons, not_or] at h
    unfold cutL
    rw [if_neg (fun e => h.1 e.symm), ih h.2]

theorem cutL_at {c : UInt8} {u : List UInt8} (h : c ∉ u) (r : List UInt8) : cutL c (u ++ c :: r) = u :: cutL c r := by
  induction u with
  | nil => simp [cutL]
  | cons x u ih =>
    rw [List.mem_cons, not_or] at h
    rw [List.cons_append, cutL_cons, if_neg (fun e => h.1 e.symm), ih h.2]

/-- Lines, each with its end. -/
theorem cutL_lines {c : UInt8} (ls : List (List UInt8)) (h : ∀ l ∈ ls, c ∉ l) : cutL c ((ls.map fun l => l ++ [c]).flatten) = ls ++ [[]] := by
  induction ls with
  | nil => rfl
  | cons l ls ih =>
    rw [List.map_cons, List.flatten_cons, List.append_assoc, List.singleton_append, cutL_at (h l (by simp)), ih fun x hx => h x (by simp [hx])]
    rfl

theorem cutL_length (c : UInt8) (s : List UInt8) : (cutL c s).length = s.count c + 1 := by
  induction s with
  | nil => rfl
  | cons x r ih =>
    unfold cutL
    by_cases h : x = c
    · rw [if_pos h, List.length_cons, ih]; subst h; simp
    · rw [if_neg h, List.count_cons]
      have hb : (x == c) = false := by simpa using h
      rw [hb]
      have := cutL_ne c r
      cases hc : cutL c r with
      | nil => exact absurd hc this
      | cons w ws => rw [hc] at ih; simpa using ih

/-- No piece holds the byte. -/
theorem cutL_mem {c : UInt8} {s l : List UInt8} (h : l ∈ cutL c s) : c ∉ l ∧ l.length ≤ s.length := by
  induction s generalizing l with
  | nil =>
    simp [cutL] at h
    subst h
    exact ⟨by simp, Nat.le_refl _⟩
  | cons x r ih =>
    unfold cutL at h
    by_cases hx : x = c
    · rw [if_pos hx, List.mem_cons] at h
      rcases h with rfl | h
      · exact ⟨by simp, by simp⟩
      · have := ih h
        exact ⟨this.1, by simp; omega⟩
    · rw [if_neg hx] at h
      cases hc : cutL c r with
      | nil => exact absurd hc (cutL_ne c r)
      | cons w ws =>
        rw [hc] at h
        simp only [List.mem_cons] at h
        rcases h with rfl | h
        · have := ih (l := w) (by rw [hc]; simp)
          refine ⟨?_, by simp; omega⟩
          rw [List.mem_cons, not_or]
          exact ⟨fun e => hx e.symm, this.1⟩
        · have := ih (l := l) (by rw [hc]; simp [h])
          exact ⟨this.1, by simp; omega⟩

/-- The number of digits, one behind the other. -/
def digS : Int → List UInt8 → Int
  | n, [] => n
  | n, b :: r => if b.toNat < 48 ∨ 57 < b.toNat then -1 else digS (10 * n + ((b.toNat : Int) - 48)) r
/-- The number of one to four digits, or -1. -/
def numS (l : List UInt8) : Int := if 1 ≤ l.length ∧ l.length ≤ 4 then digS 0 l else -1
/-- The rows of a text; what lies behind the last line's end is not read. -/
def rowsS (s : List UInt8) : List (List Int) := (cutL 10 s).dropLast.map fun l => (cutL 32 l).map numS

theorem digS_cons (n : Int) (b : UInt8) (r : List UInt8) : digS n (b :: r) = if b.toNat < 48 ∨ 57 < b.toNat then -1 else digS (10 * n + ((b.toNat : Int) - 48)) r := rfl

theorem dec_range (u : Nat) : ∀ x ∈ decDigits u, 48 ≤ x.toNat ∧ x.toNat ≤ 57 := by
  induction u using Nat.strongRecOn with
  | _ u ih =>
    intro x hx
    by_cases h : u < 10
    · rw [Lib.decDigits_one h] at hx
      simp only [List.mem_singleton] at hx
      subst hx
      rw [UInt8.toNat_ofNat']
      omega
    · rw [Lib.decDigits, dif_neg h, List.mem_append] at hx
      rcases hx with hx | hx
      · exact ih (u / 10) (by omega) x hx
      · simp only [List.mem_singleton] at hx
        subst hx
        rw [UInt8.toNat_ofNat']
        omega

/-- The number that Atoi finds, or 0; whether it finds one. -/
def valI (l : List UInt8) : Int := match Lib.atoiAll l with
  | .ok v => v
  | _ => 0
def okI (l : List UInt8) : Bool := match Lib.atoiAll l with
  | .ok _ => true
  | _ => false

theorem digitVal_dec {x : UInt8} (h : 48 ≤ x.toNat ∧ x.toNat ≤ 57) : Lib.digitVal x = some (x.toNat - 48) := by
  unfold Lib.digitVal
  simp [h.1, h.2]

theorem decFrom_digS (l : List UInt8) (h : ∀ x ∈ l, 48 ≤ x.toNat ∧ x.toNat ≤ 57) (n : Nat) : ∃ m : Nat, Lib.decFrom n l = some m ∧ digS n l = m := by
  induction l generalizing n with
  | nil => exact ⟨n, rfl, rfl⟩
  | cons x r ih =>
    have hx := h x (by simp)
    obtain ⟨m, h1, h2⟩ := ih (fun y hy => h y (by simp [hy])) (n * 10 + (x.toNat - 48))
    refine ⟨m, ?_, ?_⟩
    · unfold Lib.decFrom
      rw [digitVal_dec hx]
      exact h1
    · unfold digS
      rw [if_neg (by omega), ← h2]
      congr 1
      omega

/-- The numbers of a line; whether there are at most so many, each a number. -/
def lineV (l : List UInt8) : List Int := (cutL 32 l).map valI
def lineOk (most : Nat) (l : List UInt8) : Bool := decide ((cutL 32 l).length ≤ most) && (cutL 32 l).all okI
/-- A text without a last line's end. -/
def trim (s : List UInt8) : List UInt8 := Lib.trimSuffix s [10]
/-- The rows that are read; whether there are at most so many, each read. -/
def readV (s : List UInt8) : List (List Int) := (cutL 10 (trim s)).map lineV
def readOk (most : Nat) (s : List UInt8) : Bool := decide ((cutL 10 (trim s)).length ≤ most) && (cutL 10 (trim s)).all (lineOk 4)

/-- Rows that can be read back. -/
def OkT (T : List (List Int)) : Prop := ∀ r ∈ T, 1 ≤ r.length ∧ ∀ n ∈ r, 0 ≤ n ∧ n < 10000
theorem OkT.tail {r : List Int} {T : List (List Int)} (h : OkT (r :: T)) : OkT T := fun x hx => h x (by simp [hx])

def lineOf (r : List Int) : List UInt8 := join (r.map word) [32]

/-- A table's text as a list of bytes; none if it is none. -/
def ttL (T : List (List Int)) : List UInt8 := if tvB T then text T [] else []
/-- What both find. -/
def tfB (s : List UInt8) : Bool := decide (s ≠ []) && decide (ttL (rowsS s) = s)
end Go.ParseMath
end

section
/-
  Plain mathematics of reading texts, more: a text without its last byte, or with one more, is no table's.
-/
namespace Go.ParseMath
open Go.Lib (join joinTail decDigits)
open Go.TextMath

end Go.ParseMath
end

section
/-
  Plain mathematics: what reading people's texts finds.
-/
namespace Go.Proofs.YtlmlchkolcmhpaaGreatDoor
open Go.TextMath (text)
open Go.ParseMath

/-- A row of four numbers as a person. -/
def perR (r : List Int) : Per := ⟨r.getD 0 0, r.getD 1 0, r.getD 2 0, r.getD 3 0⟩
/-- The text of people. -/
def tpL (L : List Per) : List UInt8 := if pplB L then text (rowsOf L) [] else []
def all4 (T : List (List Int)) : Bool := T.all fun r => r.length == 4
/-- What both find. -/
def pfB (s : List UInt8) : Bool := all4 (rowsS s) && decide (tpL ((rowsS s).map perR) = s)
def pfL (s : List UInt8) : List Per := if pfB s then (rowsS s).map perR else []
end Go.Proofs.YtlmlchkolcmhpaaGreatDoor
end

section
/-
  Plain mathematics of texts, more: how often a byte occurs, how long a text is, texts in two parts, texts under other masks.
-/
namespace Go.TextMath
open Go.Lib (join joinTail decDigits lens)

/-- A sum over the first n numbers. -/
def sumN : Nat → (Nat → Nat) → Nat
  | 0, _ => 0
  | n + 1, f => sumN n f + f n
theorem sumN_congr {n : Nat} {f g : Nat → Nat} (h : ∀ i, i < n → f i = g i) : sumN n f = sumN n g := by
  induction n with
  | zero => rfl
  | succ n ih => rw [sumN, sumN, ih fun i hi => h i (by omega), h n (by omega)]
theorem sumN_const (n a : Nat) : sumN n (fun _ => a) = n * a := by
  induction n with
  | zero => simp [sumN]
  | succ n ih => rw [sumN, ih, Nat.succ_mul]
theorem sumN_add (n : Nat) (f g : Nat → Nat) : sumN n (fun i => f i + g i) = sumN n f + sumN n g := by
  induction n with
  | zero => rfl
  | succ n ih => simp only [sumN]; omega
theorem sumN_swap (m n : Nat) (f : Nat → Nat → Nat) : sumN m (fun i => sumN n (fun j => f i j)) = sumN n (fun j => sumN m (fun i => f i j)) := by
  induction m with
  | zero => simp only [sumN]; rw [sumN_const]; simp
  | succ m ih => simp only [sumN]; rw [ih, ← sumN_add]
theorem sum_take {α : Type} (l : List α) (f : α → Nat) (d : α) : ∀ k, k ≤ l.length → ((l.take k).map f).sum = sumN k (fun i => f (l.getD i d)) := by
  intro k
  induction k with
  | zero => intro _; simp [sumN]
  | succ k ih =>
    intro hk
    rw [List.take_succ_eq_append_getElem (by omega), List.map_append, List.sum_append, ih (by omega), sumN]
    congr 1
    simp [List.getD_eq_getElem?_getD, List.getElem?_eq_getElem (show k < l.length by omega)]
theorem sum_all {α : Type} (l : List α) (f : α → Nat) (d : α) : (l.map f).sum = sumN l.length (fun i => f (l.getD i d)) := by
  rw [← sum_take l f d l.length (Nat.le_refl _), List.take_length]

/-- What holds of each line holds of a text. -/
theorem text_sum (f : List UInt8 → Nat) (f0 : f [] = 0) (fa : ∀ a b, f (a ++ b) = f a + f b) (T : List (List Int)) (M : List (List Bool)) :
    f (text T M) = sumN T.length (fun i => f (line (rowW (T.getD i []) (M.getD i [])))) := by
  have key : ∀ k, k ≤ T.length → f (text (T.take k) M) = sumN k (fun i => f (line (rowW (T.getD i []) (M.getD i [])))) := by
    intro k
    induction k with
    | zero => intro _; simp [text, sumN, f0]
    | succ k ih =>
      intro hk
      rw [List.take_succ_eq_append_getElem (show k < T.length by omega), text_snoc, fa, ih (by omega), sumN]
      congr 1
      rw [show (T.take k).length = k by rw [List.length_take]; omega]
      simp [List.getD_eq_getElem?_getD, List.getElem?_eq_getElem (show k < T.length by omega)]
  have := key T.length (Nat.le_refl _)
  rwa [List.take_length] at this
/-- How many flags of a mask are set. -/
def flags (M : List (List Bool)) : Nat := sumN M.length (fun i => sumN (M.getD i []).length (fun j => if (M.getD i []).getD j false then 1 else 0))
theorem lens_sum (l : List (List UInt8)) : lens l = (l.map List.length).sum := by
  induction l with
  | nil => rfl
  | cons a r ih => simp [lens]
/-- How long a text is. -/
theorem text_len (T : List (List Int)) (h : ∀ i, i < T.length → 1 ≤ (T.getD i []).length) : (text T []).length = sumN T.length (fun i => sumN (T.getD i []).length (fun j => (word ((T.getD i []).getD j 0)).length + 1)) := by
  rw [text_sum List.length (by simp) (by intro a b; exact List.length_append)]
  apply sumN_congr
  intro i hi
  rw [sumN_add, sumN_const, Nat.mul_one]
  have hn := rowW_none (T.getD i [])
  have h1 := h i hi
  rw [List.getD_nil, hn]
  generalize T.getD i [] = r at h1
  have e2 : sumN r.length (fun j => (word (r.getD j 0)).length) = ((r.map word).map List.length).sum := by
    rw [List.map_map, sum_all r _ 0]
    rfl
  rw [e2, ← lens_sum]
  have h2 : (r.map word).length = r.length := List.length_map _
  cases hw : r.map word with
  | nil => rw [hw] at h2; simp at h2; omega
  | cons x q =>
    unfold line
    rw [hw] at h2
    rw [List.length_append, Lib.join_length]
    simp only [List.length_cons, List.length_nil] at h2 ⊢
    omega

end Go.TextMath
end

section
/-
  Contract: spec.l11Blank.
-/
namespace Go.Proofs.YtlmlchkolcmhpaaGreatDoor
open Go.RowKit

/-- Rows of zeros. -/
def blank (h n : Nat) : List (List Int) := List.replicate h (List.replicate n 0)
theorem blank_len (h n : Nat) : (blank h n).length = h := List.length_replicate
theorem blank_row {h n i : Nat} (hi : i < h) : ((blank h n).getD i []).length = n := by
  simp [blank, List.getD_eq_getElem?_getD, List.getElem?_replicate, hi]
theorem blank_succ (k n : Nat) : blank (k + 1) n = blank k n ++ [List.replicate n 0] := by
  unfold blank
  rw [List.replicate_succ']

set_option maxHeartbeats 1000000 in
theorem blankS (h n : Nat) (w : World) (hh : h ≤ 100) (hn : n ≤ 100) :
    Calls Tryz.prog 96 #[.int .i64 h, .int .i64 n] w fun e w' => ∃ v g, e = .returned v ∧ MtI w' w.heap.size v (blank h n) g ∧ Below w.heap.size w w' := by
  have hmk : ∀ W : World, (Instr.makeSlice 53 (.int .i64 (n : Int)) (.int .i64 (n : Int))).run Tryz.prog W = .ok (.slice (some ⟨W.heap.size, 0, none⟩) n n) (W.alloc (.cells (madeCells #[.int .i64 0] n) 3)) :=
    fun W => run_make_row' 53 3 _ 8 Tryz.underlying53 eltI.info rfl .i64 .i64 n (by omega) (by omega) W
  go_enter Tryz.func96, Tryz.ntmps96
  go_wp2_with fail
  go_loopw [5, 6] (fun v i wr => ∃ (k : Nat) (g : Nat → Nat), k ≤ h ∧ i = .int .i64 k ∧ MtI wr w.heap.size v (blank k n) g ∧ Below w.heap.size w wr) (fun _ i _ => h - (intOf i).toNat)
  case atStart => exact ⟨0, fun _ => 0, Nat.zero_le _, rfl, MtG.lit _ _ _ (Nat.le_refl _) rfl, (Below.refl _ _).alloc (Nat.le_refl _) _⟩
  case round =>
    obtain ⟨k, g, hk, rfl, hm, hb⟩ := hrel
    have HM := Lib.hid hm
    have HB := Lib.hid hb
    have hsz := hb.size
    clear hm hb
    by_cases hlt : k < h
    · obtain ⟨W0, hW0⟩ : ∃ W0, wr.alloc (.cells (madeCells #[.int .i64 0] n) 3) = W0 := ⟨_, rfl⟩
      have hb0 : Below wr.heap.size wr W0 := by rw [← hW0]; exact (Below.refl _ _).alloc (Nat.le_refl _) _
      have hrow : W0.rowIs wr.heap.size 3 n (fun _ => .int .i64 0) := by rw [← hW0]; exact World.rowIs_made wr _ _ _
      have hm0 := HM.out.below hb0
      obtain ⟨cs, hown, hcs⟩ := hm0.top
      have hL : Hid ((blank k n).length = k) := blank_len k n
      have HOWN := Lib.hid hown
      have hsw : w.heap.size ≤ W0.heap.size := Nat.le_trans hsz hb0.size
      have HSN := Lib.hid (fun (v' : Value) (w2 : World) => hm0.snoc (v' := v') (w2 := w2) (by decide) hown hcs (r := List.replicate n 0) (c := n) (fun i hi => by have := HM.out.lt hi; omega) hsz hrow (fun j x hx => by
        have := List.getElem?_eq_some_iff.1 hx
        obtain ⟨h1, h2⟩ := this
        simp at h2
        rw [← h2]) (by simp) (by omega))
      have HBW := Lib.hid (HB.out.trans (hb0.mono hsz))
      have hlr : (List.replicate n (0 : Int)).length = n := List.length_replicate
      rw [hlr] at HSN
      clear hown hcs hrow hb0 hm0 hlr
      rw [← hW0] at HOWN HSN HBW hsw
      clear hW0
      have HSW := Lib.hid hsw
      clear hsw
      go_wp2_with (at_builtin; refine wpList_appH eltR rfl (.tmp 13) (.tmp 16) rfl w.heap.size _ _ _ rfl HOWN.out [.slice (some ⟨wr.heap.size, 0, none⟩) n n] rfl (by intro u hu; simp at hu; subst hu; rfl) rfl (wr.heap.size + 1) (by simp) rfl ?c1 HSW.out ?_)
      case c1 => rw [hL.out]; omega
      intro v' w2 ho2 hb2 hg2
      have HM2 := Lib.hid (HSN.out v' w2 ho2 hg2)
      have HB2 := Lib.hid (HBW.out.trans hb2)
      clear ho2 hb2 hg2
      go_wp2_with fail
      go_roundw
      case rel =>
        have hm2 := HM2.out
        rw [← blank_succ] at hm2
        exact ⟨k + 1, _, by omega, by go_num, hm2, HB2.out⟩
      case measure => simp [intOf]; omega
    · obtain rfl : k = h := by omega
      go_wp2_with fail
      go_ret
      exact ⟨_, g, rfl, HM.out, HB.out⟩
end Go.Proofs.YtlmlchkolcmhpaaGreatDoor
end

section
/-
  Plain mathematics of turned tables: a cell changed, all cells written one by one, how long the text is.
-/
namespace Go.Proofs.YtlmlchkolcmhpaaGreatDoor
open Go.RowKit
open Go.TextMath (tvB text word sumN sumN_swap sumN_congr text_len)

theorem snoc_ind {α : Type} {P : List α → Prop} (h0 : P []) (hs : ∀ l a, P l → P (l ++ [a])) (l : List α) : P l := by
  have key : ∀ r : List α, P r.reverse := fun r => by
    induction r with
    | nil => exact h0
    | cons a r ih => rw [List.reverse_cons]; exact hs _ _ ih
  have := key l.reverse
  rwa [List.reverse_reverse] at this

def cellT (T : List (List Int)) (i j : Nat) : Int := (T.getD i []).getD j 0
/-- A cell changed. -/
def putC {α : Type} (U : List (List α)) (a b : Nat) (x : α) : List (List α) := U.set a ((U.getD a []).set b x)
theorem putC_len {α : Type} (U : List (List α)) (a b : Nat) (x : α) : (putC U a b x).length = U.length := by simp [putC]
theorem putC_row {α : Type} (U : List (List α)) (a b k : Nat) (x : α) (ha : a < U.length) : ((putC U a b x).getD k []).length = (U.getD k []).length := by
  unfold putC
  rw [getD_set U a k _ _ ha]
  by_cases e : k = a
  · rw [if_pos e, List.length_set, e]
  · rw [if_neg e]
theorem putC_at {α : Type} (U : List (List α)) {a b : Nat} (k l : Nat) (x d : α) (ha : a < U.length) (hb : b < (U.getD a []).length) : ((putC U a b x).getD k []).getD l d = if k = a ∧ l = b then x else (U.getD k []).getD l d := by
  unfold putC
  rw [getD_set U a k _ _ ha]
  by_cases e : k = a
  · rw [if_pos e, getD_set _ b l _ _ hb]
    by_cases e2 : l = b
    · rw [if_pos e2, if_pos ⟨e, e2⟩]
    · rw [if_neg e2, if_neg (fun h => e2 h.2), e]
  · rw [if_neg e, if_neg (fun h => e h.1)]

/-- The turned table when some cells have been written. -/
def turnS (T : List (List Int)) (h w : Nat) (pre : List (Nat × Nat)) : List (List Int) := pre.foldl (fun U x => putC U x.2 x.1 (cellT T x.1 x.2)) (blank w h)
theorem blank_cell (h w : Nat) {k l : Nat} (hk : k < w) : ((blank w h).getD k []).getD l 0 = 0 := by
  have : (blank w h).getD k [] = List.replicate h 0 := by simp [blank, List.getD_eq_getElem?_getD, List.getElem?_replicate, hk]
  rw [this]
  simp only [List.getD_eq_getElem?_getD, List.getElem?_replicate]
  by_cases hl : l < h
  · rw [if_pos hl]; rfl
  · rw [if_neg hl]; rfl
end Go.Proofs.YtlmlchkolcmhpaaGreatDoor
end

section
/-
  Plain mathematics: the table of people, small cells' mask, people without one, people chosen, groups, rounded tables.
-/
namespace Go.Proofs.YtlmlchkolcmhpaaGreatDoor
open Go.RowKit
open Go.TextMath (tvB mvB text word)

/-- One more in a cell. -/
def incC (T : List (List Int)) (a b : Nat) : List (List Int) := putC T a b (cellT T a b + 1)
/-- The table of people. -/
def tabO (L : List Per) : List (List Int) := L.foldl (fun T p => incC T p.area.toNat p.job.toNat) (blank 4 4)
theorem tabO_nil : tabO [] = blank 4 4 := rfl
theorem tabO_snoc (L : List Per) (p : Per) : tabO (L ++ [p]) = incC (tabO L) p.area.toNat p.job.toNat := by
  unfold tabO
  rw [List.foldl_append]
  rfl
theorem tabO_len (L : List Per) : (tabO L).length = 4 := by
  induction L using snoc_ind with
  | h0 => exact blank_len 4 4
  | hs l a ih => rw [tabO_snoc]; unfold incC; rw [putC_len]; exact ih
theorem tabO_row (L : List Per) (hL : ∀ p ∈ L, PerOk p) : ∀ k, k < 4 → ((tabO L).getD k []).length = 4 := by
  induction L using snoc_ind with
  | h0 => exact fun k hk => blank_row hk
  | hs l a ih =>
    intro k hk
    have ha := hL a (by simp)
    unfold PerOk at ha
    rw [tabO_snoc]
    unfold incC
    rw [putC_row _ _ _ _ _ (by rw [tabO_len]; omega)]
    exact ih (fun x hx => hL x (by simp [hx])) k hk
theorem tabO_cell (L : List Per) (hL : ∀ p ∈ L, PerOk p) : ∀ k l, k < 4 → l < 4 → 0 ≤ cellT (tabO L) k l ∧ cellT (tabO L) k l ≤ L.length := by
  induction L using snoc_ind with
  | h0 =>
    intro k l hk hl
    have : cellT (tabO []) k l = 0 := by rw [tabO_nil]; exact blank_cell 4 4 hk
    rw [this]
    exact ⟨by omega, by omega⟩
  | hs l a ih =>
    intro k l' hk hl
    have ih' := ih (fun x hx => hL x (by simp [hx])) 
    have ha := hL a (by simp)
    unfold PerOk at ha
    have e : cellT (tabO (l ++ [a])) k l' = if k = a.area.toNat ∧ l' = a.job.toNat then cellT (tabO l) a.area.toNat a.job.toNat + 1 else cellT (tabO l) k l' := by
      rw [tabO_snoc]
      unfold incC
      show ((putC _ _ _ _).getD k []).getD l' 0 = _
      rw [putC_at (tabO l) k l' _ 0 (by rw [tabO_len]; omega) (by rw [tabO_row l (fun x hx => hL x (by simp [hx])) _ (by omega)]; omega)]
      rfl
    rw [e, List.length_append, List.length_singleton]
    split
    · have := ih' a.area.toNat a.job.toNat (by omega) (by omega)
      omega
    · have := ih' k l' hk hl
      omega
theorem ppl_all {L : List Per} (h : pplB L = true) : ∀ p ∈ L, PerOk p := fun p hp => by
  obtain ⟨i, hi, rfl⟩ := List.mem_iff_getElem.1 hp
  have := (ppl_t.1 h).2 i hi
  rwa [List.getD_eq_getElem?_getD, List.getElem?_eq_getElem hi, Option.getD_some] at this
theorem tabO_tv {L : List Per} (h : pplB L = true) : tvB (tabO L) = true := by
  have h40 := (ppl_t.1 h).1
  have hr := tabO_row L (ppl_all h)
  refine tv_t.2 ⟨by rw [tabO_len]; omega, by rw [tabO_len]; omega, by rw [hr 0 (by omega)]; omega, by rw [hr 0 (by omega)]; omega, fun i hi => ?_⟩
  rw [tabO_len] at hi
  rw [hr 0 (by omega)]
  refine ⟨hr i hi, fun j hj => ?_⟩
  rw [hr i hi] at hj
  have := tabO_cell L (ppl_all h) i j hi hj
  unfold cellT at this
  exact ⟨this.1, by omega⟩

/-- The mask of small cells. -/
def smallR (r : List Int) (k : Int) : List Bool := r.map fun n => decide (0 < n ∧ n < k)
def maskS (T : List (List Int)) (k : Int) : List (List Bool) := T.map fun r => smallR r k
theorem maskS_len (T : List (List Int)) (k : Int) : (maskS T k).length = T.length := List.length_map _
theorem maskS_at {T : List (List Int)} {k : Int} {i : Nat} (hi : i < T.length) : (maskS T k).getD i [] = smallR (T.getD i []) k := by
  simp [maskS, List.getD_eq_getElem?_getD, List.getElem?_eq_getElem hi]
theorem smallR_len (r : List Int) (k : Int) : (smallR r k).length = r.length := List.length_map _
theorem maskS_mv {T : List (List Int)} (k : Int) (h : tvB T = true) : mvB T (maskS T k) = true := by
  refine mv_t.2 ⟨h, maskS_len T k, fun i hi => ?_⟩
  rw [maskS_len] at hi
  rw [maskS_at hi, smallR_len, ((tv_t.1 h).2.2.2.2 i hi).1]

/-- People without one. -/
def without (L : List Per) (k : Nat) : List Per := L.take k ++ L.drop (k + 1)
theorem without_len {L : List Per} {k : Nat} (h : k < L.length) : (without L k).length + 1 = L.length := by
  simp [without]
  omega
theorem without_mem {L : List Per} {k : Nat} {p : Per} (h : p ∈ without L k) : p ∈ L := by
  unfold without at h
  rcases List.mem_append.1 h with h | h
  · exact List.mem_of_mem_take h
  · exact List.mem_of_mem_drop h
theorem ppl_of {L : List Per} (h1 : L.length ≤ 40) (h2 : ∀ p ∈ L, PerOk p) : pplB L = true := ppl_t.2 ⟨h1, fun i hi => by
  rw [List.getD_eq_getElem?_getD, List.getElem?_eq_getElem hi, Option.getD_some]
  exact h2 _ (List.getElem_mem hi)⟩
theorem without_ok {L : List Per} {k : Nat} (h : pplB L = true) (hk : k < L.length) : pplB (without L k) = true :=
  ppl_of (by have := without_len hk; have := (ppl_t.1 h).1; omega) fun p hp => ppl_all h p (without_mem hp)

/-- People chosen by codes; -1 stands for any. -/
def askB (a j s : Int) : Bool := decide ((a = -1 ∨ (0 ≤ a ∧ a ≤ 3)) ∧ (j = -1 ∨ (0 ≤ j ∧ j ≤ 3)) ∧ (s = -1 ∨ (0 ≤ s ∧ s ≤ 1)))
def isP (a j s : Int) (p : Per) : Bool := decide ((a = -1 ∨ p.area = a) ∧ (j = -1 ∨ p.job = j) ∧ (s = -1 ∨ p.sex = s))
def pays (L : List Per) : Int := L.foldl (fun x p => x + p.pay) 0
theorem pays_snoc (L : List Per) (p : Per) : pays (L ++ [p]) = pays L + p.pay := by
  unfold pays
  rw [List.foldl_append]
  rfl
theorem pays_le (L : List Per) (h : ∀ p ∈ L, PerOk p) : 0 ≤ pays L ∧ pays L ≤ 999 * L.length := by
  induction L using snoc_ind with
  | h0 => exact ⟨by decide, by decide⟩
  | hs l a ih =>
    have := ih fun x hx => h x (by simp [hx])
    have ha := h a (by simp)
    unfold PerOk at ha
    rw [pays_snoc, List.length_append, List.length_singleton]
    omega
def manyP (L : List Per) (a j s : Int) : Int := if pplB L && askB a j s then (L.filter (isP a j s)).length else -1
def payP (L : List Per) (a j s : Int) : Int := if pplB L && askB a j s then pays (L.filter (isP a j s)) else -1

/-- Rounded numbers. -/
def baseB (b : Int) : Bool := decide (2 ≤ b ∧ b ≤ 20)
def near (x b : Int) : Int := if b ≤ 2 * (x % b) then x - x % b + b else x - x % b
def nearT (T : List (List Int)) (b : Int) : List (List Int) := T.map fun r => r.map fun x => near x b
theorem nearT_len (T : List (List Int)) (b : Int) : (nearT T b).length = T.length := List.length_map _
theorem nearT_row {T : List (List Int)} {b : Int} {i : Nat} (hi : i < T.length) : (nearT T b).getD i [] = (T.getD i []).map fun x => near x b := by
  simp [nearT, List.getD_eq_getElem?_getD, List.getElem?_eq_getElem hi]
theorem near_le {x b : Int} (h0 : 0 ≤ x) (hb : 2 ≤ b) : 0 ≤ near x b ∧ near x b ≤ x + b := by
  have h1 := Int.emod_nonneg x (b := b) (by omega)
  have h2 := Int.emod_lt_of_pos x (b := b) (by omega)
  have h3 : x % b ≤ x := by
    have := Int.emod_add_mul_ediv x b
    have h4 : 0 ≤ b * (x / b) := Int.mul_nonneg (by omega) (Int.ediv_nonneg h0 (by omega))
    omega
  unfold near
  split <;> omega

/-- Groups: people alike but for the pay. -/
def sameG (p q : Per) : Bool := decide (p.area = q.area ∧ p.job = q.job ∧ p.sex = q.sex)
def sizeG (L : List Per) (p : Per) : Nat := L.countP (sameG p)
def leastG (L : List Per) : Int := L.foldl (fun (x : Int) p => min x (sizeG L p)) L.length
/-- How many groups: people of whose group nobody stood before. -/
def manyG (L : List Per) : Nat := (List.range L.length).countP fun k => !((L.take k).any (sameG (L.getD k per0)))
def aloneG (L : List Per) : Nat := L.countP fun p => sizeG L p == 1
theorem manyG_snoc (L : List Per) (p : Per) : manyG (L ++ [p]) = manyG L + if L.any (sameG p) then 0 else 1 := by
  unfold manyG
  rw [List.length_append, List.length_singleton, List.range_succ, List.countP_append]
  congr 1
  · apply List.countP_congr
    intro k hk
    have hk := List.mem_range.1 hk
    have e1 : (L ++ [p]).take k = L.take k := by rw [List.take_append_of_le_length (by omega)]
    have e2 : (L ++ [p]).getD k per0 = L.getD k per0 := by simp only [List.getD_eq_getElem?_getD]; rw [List.getElem?_append_left hk]
    rw [e1, e2]
  · have e1 : (L ++ [p]).take L.length = L := by simp
    have e2 : (L ++ [p]).getD L.length per0 = p := by simp [List.getD_eq_getElem?_getD]
    rw [List.countP_singleton, e1, e2]
    cases L.any (sameG p) <;> rfl
theorem fold_min {α : Type} (f : α → Int) : ∀ (l : List α) (a : Int), (l.foldl (fun x p => min x (f p)) a ≤ a ∧ ∀ p ∈ l, l.foldl (fun x p => min x (f p)) a ≤ f p) ∧ (l.foldl (fun x p => min x (f p)) a = a ∨ ∃ p ∈ l, l.foldl (fun x p => min x (f p)) a = f p)
  | [], a => ⟨⟨Int.le_refl _, fun p hp => by simp at hp⟩, .inl rfl⟩
  | q :: l, a => by
    obtain ⟨⟨h1, h2⟩, h3⟩ := fold_min f l (min a (f q))
    rw [List.foldl_cons]
    refine ⟨⟨by omega, fun p hp => ?_⟩, ?_⟩
    · rcases List.mem_cons.1 hp with rfl | hp
      · omega
      · exact h2 p hp
    · rcases h3 with h3 | ⟨p, hp, h3⟩
      · rw [h3]
        rcases Int.le_total a (f q) with h | h
        · left; omega
        · right; exact ⟨q, by simp, by omega⟩
      · right; exact ⟨p, by simp [hp], h3⟩
theorem leastG_of {L : List Per} {v : Int} (h1 : v ≤ L.length) (h2 : ∀ p ∈ L, v ≤ sizeG L p) (h3 : v = L.length ∨ ∃ p ∈ L, v = sizeG L p) : leastG L = v := by
  obtain ⟨⟨k1, k2⟩, k3⟩ := fold_min (fun p => (sizeG L p : Int)) L L.length
  show L.foldl _ _ = v
  rcases k3 with k3 | ⟨p, hp, k3⟩
  · rw [k3]
    rcases h3 with h3 | ⟨p, hp, h3⟩
    · exact h3.symm
    · have := k2 p hp; rw [k3] at this; omega
  · rw [k3]
    have := h2 p hp
    rcases h3 with h3 | ⟨q, hq, h3⟩
    · omega
    · have := k2 q hq; rw [k3] at this; omega
theorem sameG_refl (p : Per) : sameG p p = true := by simp [sameG]
theorem sizeG_pos {L : List Per} {p : Per} (h : p ∈ L) : 1 ≤ sizeG L p := List.countP_pos_iff.2 ⟨p, h, sameG_refl p⟩
theorem sizeG_le (L : List Per) (p : Per) : sizeG L p ≤ L.length := List.countP_le_length
theorem sizeG_snoc (L : List Per) (q p : Per) : sizeG (L ++ [q]) p = sizeG L p + if sameG p q then 1 else 0 := by
  unfold sizeG
  rw [List.countP_append, List.countP_singleton]
theorem kept_alone (L : List Per) : ((L.filter fun p => decide (2 ≤ sizeG L p)).length : Int) + (aloneG L : Int) = L.length := by
  unfold aloneG
  have key : ∀ M : List Per, (∀ p ∈ M, p ∈ L) → (M.filter fun p => decide (2 ≤ sizeG L p)).length + M.countP (fun p => sizeG L p == 1) = M.length := by
    intro M
    induction M with
    | nil => intro _; rfl
    | cons q M ih =>
      intro h
      have := ih fun p hp => h p (by simp [hp])
      have hq := sizeG_pos (h q (by simp))
      rw [List.filter_cons, List.countP_cons, List.length_cons]
      by_cases e : sizeG L q = 1
      · simp [e]; omega
      · have e2 : 2 ≤ sizeG L q := by omega
        simp [e, e2]; omega
  have := key L fun p hp => hp
  omega
end Go.Proofs.YtlmlchkolcmhpaaGreatDoor
end

section

/-
  Plain mathematics of hidden cells: tables with the same sums, paths of steps between rows and columns, and why no path means an extreme cell.
-/
namespace Go.FlowMath

/-- A sum of n numbers. -/
def sumI : Nat → (Nat → Int) → Int
  | 0, _ => 0
  | n + 1, f => sumI n f + f n

theorem sumI_congr {n : Nat} {f g : Nat → Int} (h : ∀ k, k < n → f k = g k) : sumI n f = sumI n g := by
  induction n with
  | zero => rfl
  | succ n ih => unfold sumI; rw [ih fun k hk => h k (by omega), h n (by omega)]
theorem sumI_add (n : Nat) (f g : Nat → Int) : sumI n (fun k => f k + g k) = sumI n f + sumI n g := by
  induction n with
  | zero => rfl
  | succ n ih => unfold sumI; rw [ih]; show _ + (f n + g n) = _; omega
theorem sumI_sub (n : Nat) (f g : Nat → Int) : sumI n (fun k => f k - g k) = sumI n f - sumI n g := by
  induction n with
  | zero => rfl
  | succ n ih => unfold sumI; rw [ih]; show _ + (f n - g n) = _; omega
theorem sumI_mul (n : Nat) (a : Int) (f : Nat → Int) : sumI n (fun k => a * f k) = a * sumI n f := by
  induction n with
  | zero => simp [sumI]
  | succ n ih => unfold sumI; rw [ih, Int.mul_add]
theorem sumI_zero (n : Nat) : sumI n (fun _ => 0) = 0 := by
  induction n with
  | zero => rfl
  | succ n ih => unfold sumI; rw [ih]; rfl
theorem sumI_swap (m n : Nat) (f : Nat → Nat → Int) : sumI m (fun k => sumI n (fun l => f k l)) = sumI n (fun l => sumI m (fun k => f k l)) := by
  induction m with
  | zero => simp [sumI, sumI_zero]
  | succ m ih =>
    show sumI m _ + sumI n (fun l => f m l) = _
    rw [ih, ← sumI_add]
    rfl
theorem sumI_le {n : Nat} {f : Nat → Int} (h : ∀ k, k < n → f k ≤ 0) : sumI n f ≤ 0 := by
  induction n with
  | zero => exact Int.le_refl _
  | succ n ih => unfold sumI; have := ih fun k hk => h k (by omega); have := h n (by omega); omega
theorem sumI_nonneg {n : Nat} {f : Nat → Int} (h : ∀ k, k < n → 0 ≤ f k) : 0 ≤ sumI n f := by
  induction n with
  | zero => exact Int.le_refl _
  | succ n ih => unfold sumI; have := ih fun k hk => h k (by omega); have := h n (by omega); omega
theorem sumI_mono {n : Nat} {f g : Nat → Int} (h : ∀ k, k < n → f k ≤ g k) : sumI n f ≤ sumI n g := by
  induction n with
  | zero => exact Int.le_refl _
  | succ n ih => unfold sumI; have := ih fun k hk => h k (by omega); have := h n (by omega); omega
theorem sumI_const (n : Nat) (a : Int) : sumI n (fun _ => a) = n * a := by
  induction n with
  | zero => simp [sumI]
  | succ n ih => unfold sumI; rw [ih, Int.natCast_succ, Int.add_mul, Int.one_mul]
/-- One number alone is not negative .. -/
theorem sumI_one {n : Nat} {f : Nat → Int} {a : Nat} (ha : a < n) (h : ∀ k, k < n → k ≠ a → f k ≤ 0) : sumI n f ≤ f a := by
  induction n with
  | zero => omega
  | succ n ih =>
    unfold sumI
    by_cases e : a = n
    · subst e
      have := sumI_le (n := a) (f := f) fun k hk => h k (by omega) (by omega)
      omega
    · have := ih (by omega) fun k hk hne => h k (by omega) hne
      have := h n (by omega) (fun e' => e e'.symm)
      omega
/-- .. one number is at most the sum. -/
theorem sumI_ge {n : Nat} {f : Nat → Int} {a : Nat} (ha : a < n) (h : ∀ k, k < n → k ≠ a → 0 ≤ f k) : f a ≤ sumI n f := by
  induction n with
  | zero => omega
  | succ n ih =>
    unfold sumI
    by_cases e : a = n
    · subst e
      have := sumI_nonneg (n := a) (f := f) fun k hk => h k (by omega) (by omega)
      omega
    · have := ih (by omega) fun k hk hne => h k (by omega) hne
      have := h n (by omega) (fun e' => e e'.symm)
      omega
theorem sumI_upd (n : Nat) (f : Nat → Int) (a : Nat) (d : Int) : sumI n (fun k => if k = a then f k + d else f k) = sumI n f + if a < n then d else 0 := by
  induction n with
  | zero => simp [sumI]
  | succ n ih =>
    show sumI n _ + (if n = a then f n + d else f n) = sumI n f + f n + _
    rw [ih]
    by_cases e : a = n
    · subst e
      rw [if_neg (Nat.lt_irrefl _), if_pos rfl, if_pos (Nat.lt_succ_self _)]
      omega
    · have : ¬ n = a := fun h => e h.symm
      by_cases h : a < n
      · rw [if_pos h, if_neg this, if_pos (by omega)]; omega
      · rw [if_neg h, if_neg this, if_neg (by omega)]; omega

/-- A cell changed. -/
def upd (x : Nat → Nat → Int) (a b : Nat) (d : Int) : Nat → Nat → Int := fun k l => if k = a ∧ l = b then x k l + d else x k l
theorem upd_same (x : Nat → Nat → Int) (a b : Nat) (d : Int) : upd x a b d a b = x a b + d := by unfold upd; rw [if_pos ⟨rfl, rfl⟩]
theorem upd_other {x : Nat → Nat → Int} {a b k l : Nat} {d : Int} (h : ¬ (k = a ∧ l = b)) : upd x a b d k l = x k l := by unfold upd; rw [if_neg h]
def rowS (w : Nat) (x : Nat → Nat → Int) (k : Nat) : Int := sumI w (fun l => x k l)
def colS (h : Nat) (x : Nat → Nat → Int) (l : Nat) : Int := sumI h (fun k => x k l)
theorem rowS_upd {w : Nat} {x : Nat → Nat → Int} {a b : Nat} {d : Int} (hb : b < w) (k : Nat) : rowS w (upd x a b d) k = rowS w x k + if k = a then d else 0 := by
  unfold rowS
  by_cases e : k = a
  · subst e
    rw [if_pos rfl]
    have := sumI_upd w (fun l => x k l) b d
    rw [if_pos hb] at this
    rw [← this]
    refine sumI_congr fun l _ => ?_
    unfold upd
    by_cases e : l = b
    · rw [if_pos ⟨rfl, e⟩, if_pos e]
    · rw [if_neg (fun h => e h.2), if_neg e]
  · rw [if_neg e, Int.add_zero]
    exact sumI_congr fun l _ => upd_other fun h => e h.1
theorem colS_upd {h : Nat} {x : Nat → Nat → Int} {a b : Nat} {d : Int} (ha : a < h) (l : Nat) : colS h (upd x a b d) l = colS h x l + if l = b then d else 0 := by
  unfold colS
  by_cases e : l = b
  · subst e
    rw [if_pos rfl]
    have := sumI_upd h (fun k => x k l) a d
    rw [if_pos ha] at this
    rw [← this]
    refine sumI_congr fun k _ => ?_
    unfold upd
    by_cases e : k = a
    · rw [if_pos ⟨e, rfl⟩, if_pos e]
    · rw [if_neg (fun h => e h.1), if_neg e]
  · rw [if_neg e, Int.add_zero]
    exact sumI_congr fun k _ => upd_other fun h => e h.2

/-- The sign of a raise. -/
def sg (raise : Bool) : Int := if raise then 1 else -1

section
variable (h w i j : Nat) (m : Nat → Nat → Bool) (t : Nat → Nat → Int)

/-- A table with the same sums, alike where nothing is hidden; the cell (i, j) itself may be negative. -/
structure Legal (x : Nat → Nat → Int) : Prop where
  off : ∀ k, k < h → ∀ l, l < w → m k l = false → x k l = t k l
  nn : ∀ k, k < h → ∀ l, l < w → ¬ (k = i ∧ l = j) → 0 ≤ x k l
  row : ∀ k, k < h → rowS w x k = rowS w t k
  col : ∀ l, l < w → colS h x l = colS h t l

/-- A step between two places: a row k is the place k, a column l is the place h + l. -/
def Edge (raise : Bool) (x : Nat → Nat → Int) (u v : Nat) : Prop :=
  (u < h ∧ h ≤ v ∧ v < h + w ∧ ¬ (u = i ∧ v = h + j) ∧ m u (v - h) = true ∧ (raise = true → 0 < x u (v - h))) ∨
  (h ≤ u ∧ u < h + w ∧ v < h ∧ ¬ (v = i ∧ u = h + j) ∧ m v (u - h) = true ∧ (raise = false → 0 < x v (u - h)))

variable {h w i j m t}

/-- Places from which no step leads out, without the cell's own: the cell is extreme. -/
theorem cut {raise : Bool} {x : Nat → Nat → Int} (hx : Legal h w i j m t x) (hi : i < h) (hj : j < w) (S : Nat → Bool) (h1 : S i = true) (h2 : S (h + j) = false)
    (hc : ∀ u v, u < h + w → v < h + w → S u = true → S v = false → ¬ Edge h w i j m raise x u v) {y : Nat → Nat → Int} (hy : Legal h w i j m t y) : sg raise * y i j ≤ sg raise * x i j := by
  let a : Nat → Int := fun k => if S k then 1 else 0
  let f : Nat → Nat → Int := fun k l => sg raise * ((a k - a (h + l)) * (x k l - y k l))
  have e1 : sumI h (fun k => sumI w (fun l => a k * (x k l - y k l))) = 0 := by
    have : ∀ k, k < h → sumI w (fun l => a k * (x k l - y k l)) = 0 := fun k hk => by
      rw [sumI_mul, sumI_sub]
      have r1 := hx.row k hk
      have r2 := hy.row k hk
      unfold rowS at r1 r2
      rw [r1, r2, Int.sub_self, Int.mul_zero]
    rw [sumI_congr this, sumI_zero]
  have e2 : sumI h (fun k => sumI w (fun l => a (h + l) * (x k l - y k l))) = 0 := by
    rw [sumI_swap]
    have : ∀ l, l < w → sumI h (fun k => a (h + l) * (x k l - y k l)) = 0 := fun l hl => by
      rw [sumI_mul, sumI_sub]
      have r1 := hx.col l hl
      have r2 := hy.col l hl
      unfold colS at r1 r2
      rw [r1, r2, Int.sub_self, Int.mul_zero]
    rw [sumI_congr this, sumI_zero]
  have e3 : sumI h (fun k => sumI w (fun l => f k l)) = 0 := by
    have : ∀ k, k < h → sumI w (fun l => f k l) = sg raise * (sumI w (fun l => a k * (x k l - y k l)) - sumI w (fun l => a (h + l) * (x k l - y k l))) := fun k _ => by
      rw [← sumI_sub, ← sumI_mul]
      refine sumI_congr fun l _ => ?_
      show sg raise * ((a k - a (h + l)) * (x k l - y k l)) = _
      rw [Int.sub_mul]
    rw [sumI_congr this, sumI_mul, sumI_sub, e1, e2]
    simp
  have e4 : ∀ k, k < h → ∀ l, l < w → ¬ (k = i ∧ l = j) → f k l ≤ 0 := by
    intro k hk l hl hne
    show sg raise * ((a k - a (h + l)) * (x k l - y k l)) ≤ 0
    have hx0 := hx.nn k hk l hl hne
    have hy0 := hy.nn k hk l hl hne
    have ho : m k l = false → x k l = y k l := fun hm => by rw [hx.off k hk l hl hm, hy.off k hk l hl hm]
    have hkr : h + l - h = l := by omega
    cases s1 : S k <;> cases s2 : S (h + l)
    · simp [a, s1, s2]
    · have he := hc (h + l) k (by omega) (by omega) s2 s1
      have ea : a k - a (h + l) = -1 := by simp [a, s1, s2]
      rw [ea]
      cases hm : m k l with
      | false => rw [ho hm]; simp
      | true =>
        cases raise with
        | true =>
          exact absurd (.inr ⟨by omega, by omega, hk, fun e => hne ⟨e.1, by omega⟩, by rw [hkr]; exact hm, fun e => by cases e⟩) he
        | false =>
          have : ¬ 0 < x k l := fun hp => he (.inr ⟨by omega, by omega, hk, fun e => hne ⟨e.1, by omega⟩, by rw [hkr]; exact hm, fun _ => by rw [hkr]; exact hp⟩)
          simp [sg]
          omega
    · have he := hc k (h + l) (by omega) (by omega) s1 s2
      have ea : a k - a (h + l) = 1 := by simp [a, s1, s2]
      rw [ea]
      cases hm : m k l with
      | false => rw [ho hm]; simp
      | true =>
        cases raise with
        | false =>
          exact absurd (.inl ⟨hk, by omega, by omega, fun e => hne ⟨e.1, by omega⟩, by rw [hkr]; exact hm, fun e => by cases e⟩) he
        | true =>
          have : ¬ 0 < x k l := fun hp => he (.inl ⟨hk, by omega, by omega, fun e => hne ⟨e.1, by omega⟩, by rw [hkr]; exact hm, fun _ => by rw [hkr]; exact hp⟩)
          simp [sg]
          omega
    · simp [a, s1, s2]
  have e5 : f i j = sg raise * (x i j - y i j) := by
    show sg raise * ((a i - a (h + j)) * (x i j - y i j)) = _
    simp [a, h1, h2]
  have e6 : sumI h (fun k => sumI w (fun l => f k l)) ≤ sumI w (fun l => f i l) :=
    sumI_one hi fun k hk hne => sumI_le fun l hl => e4 k hk l hl fun e => hne e.1
  have e7 : sumI w (fun l => f i l) ≤ f i j := sumI_one (f := fun l => f i l) hj fun l hl hne => e4 i hi l hl fun e => hne e.2
  rw [Int.mul_sub] at e5
  omega

/-- Half-way through a path of steps, back from the column j: the sums' faults. -/
structure Half (raise : Bool) (d : Int) (x0 : Nat → Nat → Int) (rank : Nat → Nat) (at_ : Nat) (x : Nat → Nat → Int) : Prop where
  off : ∀ k, k < h → ∀ l, l < w → m k l = false → x k l = t k l
  nn : ∀ k, k < h → ∀ l, l < w → ¬ (k = i ∧ l = j) → 0 ≤ x k l
  row : ∀ k, k < h → rowS w x k = rowS w t k + (if k = i then sg raise * d else 0) - (if k = at_ then sg raise * d else 0)
  col : ∀ l, l < w → colS h x l = colS h t l + (if h + l = at_ then sg raise * d else 0)
  own : x i j = x0 i j + sg raise * d
  old : ∀ k, k < h → ∀ l, l < w → ¬ (k = i ∧ l = j) → rank k ≤ rank at_ → rank (h + l) ≤ rank at_ → x k l = x0 k l

theorem Half.start {raise : Bool} {d : Int} {x0 : Nat → Nat → Int} {rank : Nat → Nat} (hx : Legal h w i j m t x0) (hi : i < h) (hj : j < w) (hm : m i j = true) :
    Half (h := h) (w := w) (i := i) (j := j) (m := m) (t := t) raise d x0 rank (h + j) (upd x0 i j (sg raise * d)) where
  off := fun k hk l hl hf => by
    rw [upd_other (fun e => by rw [e.1, e.2, hm] at hf; cases hf)]
    exact hx.off k hk l hl hf
  nn := fun k hk l hl hne => by rw [upd_other hne]; exact hx.nn k hk l hl hne
  row := fun k hk => by
    rw [rowS_upd hj, hx.row k hk, if_neg (show ¬ k = h + j by omega)]
    omega
  col := fun l hl => by
    rw [colS_upd hi, hx.col l hl]
    by_cases e : l = j
    · rw [if_pos e, if_pos (by omega)]
    · rw [if_neg e, if_neg (by omega)]
  own := upd_same _ _ _ _
  old := fun k hk l hl hne _ _ => upd_other hne

/-- A step from a row p to the column at_. -/
theorem Half.row_step {raise : Bool} {d : Int} {x0 x : Nat → Nat → Int} {rank : Nat → Nat} {p l : Nat} (hx : Half (h := h) (w := w) (i := i) (j := j) (m := m) (t := t) raise d x0 rank (h + l) x)
    (hd : 0 ≤ d) (hp : p < h) (hl : l < w) (hr : rank p < rank (h + l)) (hm : m p l = true) (hne : ¬ (p = i ∧ l = j)) (hroom : raise = true → d ≤ x0 p l) :
    Half (h := h) (w := w) (i := i) (j := j) (m := m) (t := t) raise d x0 rank p (upd x p l (-(sg raise * d))) where
  off := fun k hk b hb hf => by
    rw [upd_other (fun e => by rw [e.1, e.2, hm] at hf; cases hf)]
    exact hx.off k hk b hb hf
  nn := fun k hk b hb hn => by
    by_cases e : k = p ∧ b = l
    · obtain ⟨rfl, rfl⟩ := e
      rw [upd_same, hx.old k hk b hb hn (by omega) (Nat.le_refl _)]
      have h0 : 0 ≤ x0 k b := by rw [← hx.old k hk b hb hn (by omega) (Nat.le_refl _)]; exact hx.nn k hk b hb hn
      cases raise with
      | true => have := hroom rfl; simp [sg]; omega
      | false => simp [sg]; omega
    · rw [upd_other e]; exact hx.nn k hk b hb hn
  row := fun k hk => by
    rw [rowS_upd hl, hx.row k hk, if_neg (show ¬ k = h + l by omega)]
    by_cases e : k = p
    · rw [if_pos e, if_pos e]; omega
    · rw [if_neg e, if_neg e]; omega
  col := fun b hb => by
    rw [colS_upd hp, hx.col b hb, if_neg (show ¬ h + b = p by omega)]
    by_cases e : b = l
    · rw [if_pos e, if_pos (by omega)]; omega
    · rw [if_neg e, if_neg (by omega)]
      omega
  own := by
    rw [upd_other (fun e => hne ⟨e.1.symm, e.2.symm⟩)]
    exact hx.own
  old := fun k hk b hb hn h1 h2 => by
    rw [upd_other (fun e => by rw [e.2] at h2; omega)]
    exact hx.old k hk b hb hn (by omega) (by omega)

/-- A step from a column p to the row at_. -/
theorem Half.col_step {raise : Bool} {d : Int} {x0 x : Nat → Nat → Int} {rank : Nat → Nat} {k0 l : Nat} (hx : Half (h := h) (w := w) (i := i) (j := j) (m := m) (t := t) raise d x0 rank k0 x)
    (hd : 0 ≤ d) (hk0 : k0 < h) (hl : l < w) (hr : rank (h + l) < rank k0) (hm : m k0 l = true) (hne : ¬ (k0 = i ∧ l = j)) (hroom : raise = false → d ≤ x0 k0 l) :
    Half (h := h) (w := w) (i := i) (j := j) (m := m) (t := t) raise d x0 rank (h + l) (upd x k0 l (sg raise * d)) where
  off := fun k hk b hb hf => by
    rw [upd_other (fun e => by rw [e.1, e.2, hm] at hf; cases hf)]
    exact hx.off k hk b hb hf
  nn := fun k hk b hb hn => by
    by_cases e : k = k0 ∧ b = l
    · obtain ⟨rfl, rfl⟩ := e
      rw [upd_same, hx.old k hk b hb hn (Nat.le_refl _) (by omega)]
      have h0 : 0 ≤ x0 k b := by rw [← hx.old k hk b hb hn (Nat.le_refl _) (by omega)]; exact hx.nn k hk b hb hn
      cases raise with
      | true => simp [sg]; omega
      | false => have := hroom rfl; simp [sg]; omega
    · rw [upd_other e]; exact hx.nn k hk b hb hn
  row := fun k hk => by
    rw [rowS_upd hl, hx.row k hk, if_neg (show ¬ k = h + l by omega)]
    by_cases e : k = k0
    · rw [if_pos e]; omega
    · rw [if_neg e]; omega
  col := fun b hb => by
    rw [colS_upd hk0, hx.col b hb, if_neg (show ¬ h + b = k0 by omega)]
    by_cases e : b = l
    · rw [if_pos e, if_pos (by omega)]
      omega
    · rw [if_neg e, if_neg (by omega)]
      omega
  own := by
    rw [upd_other (fun e => hne ⟨e.1.symm, e.2.symm⟩)]
    exact hx.own
  old := fun k hk b hb hn h1 h2 => by
    rw [upd_other (fun e => by rw [e.1] at h1; omega)]
    exact hx.old k hk b hb hn (by omega) (by omega)

/-- A whole path. -/
theorem Half.done {raise : Bool} {d : Int} {x0 x : Nat → Nat → Int} {rank : Nat → Nat} (hx : Half (h := h) (w := w) (i := i) (j := j) (m := m) (t := t) raise d x0 rank i x) (hi : i < h) :
    Legal h w i j m t x ∧ x i j = x0 i j + sg raise * d := by
  refine ⟨⟨hx.off, hx.nn, fun k hk => ?_, fun l hl => ?_⟩, hx.own⟩
  · have := hx.row k hk
    omega
  · have := hx.col l hl
    rw [if_neg (by omega)] at this
    omega

theorem Legal.self (ht : ∀ k, k < h → ∀ l, l < w → 0 ≤ t k l) : Legal h w i j m t t := ⟨fun _ _ _ _ _ => rfl, fun k hk l hl _ => ht k hk l hl, fun _ _ => rfl, fun _ _ => rfl⟩

/-- The cell (i, j) is at most its row's sum; another cell is at most its row's sum, or its column's. -/
theorem Legal.le_row {x : Nat → Nat → Int} (hx : Legal h w i j m t x) (hi : i < h) (hj : j < w) : x i j ≤ rowS w t i := by
  rw [← hx.row i hi]
  exact sumI_ge (f := fun l => x i l) hj fun l hl hne => hx.nn i hi l hl fun e => hne e.2
theorem Legal.le_other {x : Nat → Nat → Int} (hx : Legal h w i j m t x) {k l : Nat} (hk : k < h) (hl : l < w) (hne : ¬ (k = i ∧ l = j)) : x k l ≤ rowS w t k ∨ x k l ≤ colS h t l := by
  by_cases e : k = i
  · right
    rw [← hx.col l hl]
    exact sumI_ge (f := fun k => x k l) hk fun k' hk' _ => hx.nn k' hk' l hl fun e' => hne ⟨e, e'.2⟩
  · left
    rw [← hx.row k hk]
    exact sumI_ge (f := fun l => x k l) hl fun l' hl' _ => hx.nn k hk l' hl' fun e' => e e'.1
theorem rowS_le {c : Int} (hc : ∀ k, k < h → ∀ l, l < w → t k l ≤ c) {k : Nat} (hk : k < h) : rowS w t k ≤ w * c := by
  rw [← sumI_const]
  exact sumI_mono fun l hl => hc k hk l hl
theorem colS_le {c : Int} (hc : ∀ k, k < h → ∀ l, l < w → t k l ≤ c) {l : Nat} (hl : l < w) : colS h t l ≤ h * c := by
  rw [← sumI_const]
  exact sumI_mono fun k hk => hc k hk l hl
theorem rowS_ge (ht : ∀ k, k < h → ∀ l, l < w → 0 ≤ t k l) {k : Nat} (hk : k < h) : 0 ≤ rowS w t k := sumI_nonneg fun l hl => ht k hk l hl
/-- The cell (i, j) is not very negative. -/
theorem Legal.ge_cell {x : Nat → Nat → Int} (hx : Legal h w i j m t x) (hi : i < h) (hj : j < w) {c : Int} (h0 : ∀ k, k < h → ∀ l, l < w → 0 ≤ t k l) (hc : ∀ k, k < h → ∀ l, l < w → t k l ≤ c) : -(w * (h * c)) ≤ x i j := by
  have h1 : rowS w t i ≤ x i j + w * (h * c) := by
    rw [← hx.row i hi, ← sumI_const]
    have e : rowS w x i - x i j ≤ sumI w (fun _ => (h : Int) * c) := by
      have hs : sumI w (fun l => if l = j then x i l + -(x i j) else x i l) = rowS w x i - x i j := by
        have := sumI_upd w (fun l => x i l) j (-(x i j))
        rw [if_pos hj] at this
        rw [this]
        rfl
      rw [← hs]
      refine sumI_mono fun l hl => ?_
      have hcl := colS_le (t := t) hc hl
      have h0c : 0 ≤ colS h t l := sumI_nonneg fun k hk => h0 k hk l hl
      by_cases e : l = j
      · rw [if_pos e, e]; rw [e] at hcl h0c; omega
      · rw [if_neg e]
        have : x i l ≤ colS h t l := by
          rw [← hx.col l hl]
          exact sumI_ge (f := fun k => x k l) hi fun k' hk' _ => hx.nn k' hk' l hl fun e' => e e'.2
        omega
    omega
  have := rowS_ge h0 hi
  omega

theorem int_max (P : Int → Prop) (B : Int) : ∀ (n : Nat) (v : Int), P v → (B - v).toNat ≤ n → (∀ u, P u → u ≤ B) → ∃ v, P v ∧ ∀ u, P u → u ≤ v := by
  intro n
  induction n with
  | zero => intro v hv hn hb; exact ⟨v, hv, fun u hu => by have := hb u hu; have := hb v hv; omega⟩
  | succ n ih =>
    intro v hv hn hb
    by_cases hm : ∃ u, P u ∧ v < u
    · obtain ⟨u, hu, hlt⟩ := hm
      exact ih u hu (by have := hb u hu; omega) hb
    · exact ⟨v, hv, fun u hu => by
        by_cases h : v < u
        · exact absurd ⟨u, hu, h⟩ hm
        · omega⟩

variable (h w i j m t) in
/-- The cell's extreme value. -/
def IsExt (raise : Bool) (v : Int) : Prop := (∃ x, Legal h w i j m t x ∧ x i j = v) ∧ ∀ y, Legal h w i j m t y → sg raise * y i j ≤ sg raise * v
theorem IsExt.unique {raise : Bool} {u v : Int} (h1 : IsExt h w i j m t raise u) (h2 : IsExt h w i j m t raise v) : u = v := by
  obtain ⟨x, hx, rfl⟩ := h1.1
  obtain ⟨y, hy, rfl⟩ := h2.1
  have e1 := h1.2 y hy
  have e2 := h2.2 x hx
  cases raise <;> simp [sg] at e1 e2 <;> omega
theorem exists_ext (raise : Bool) (hi : i < h) (hj : j < w) {c : Int} (h0 : ∀ k, k < h → ∀ l, l < w → 0 ≤ t k l) (hc : ∀ k, k < h → ∀ l, l < w → t k l ≤ c) : ∃ v, IsExt h w i j m t raise v := by
  have hB : ∀ u, (∃ x, Legal h w i j m t x ∧ sg raise * x i j = u) → u ≤ max (rowS w t i) (w * (h * c)) := by
    rintro u ⟨x, hx, rfl⟩
    have h1 := hx.le_row hi hj
    have h2 := hx.ge_cell hi hj h0 hc
    cases raise <;> simp [sg] <;> omega
  obtain ⟨v, ⟨x, hx, rfl⟩, hv⟩ := int_max (fun u => ∃ x, Legal h w i j m t x ∧ sg raise * x i j = u) _ _ _ ⟨t, Legal.self h0, rfl⟩ (Nat.le_refl _) hB
  exact ⟨x i j, ⟨x, hx, rfl⟩, fun y hy => hv _ ⟨y, hy, rfl⟩⟩

variable (h w i j m t) in
open Classical in
/-- .. as a number. -/
noncomputable def ext (raise : Bool) : Int := if h : ∃ v, IsExt h w i j m t raise v then Classical.choose h else 0
theorem ext_eq {raise : Bool} {v : Int} (h1 : IsExt h w i j m t raise v) : ext h w i j m t raise = v := by
  unfold ext
  rw [dif_pos ⟨v, h1⟩]
  exact IsExt.unique (Classical.choose_spec ⟨v, h1⟩) h1
theorem ext_is (raise : Bool) (hi : i < h) (hj : j < w) {c : Int} (h0 : ∀ k, k < h → ∀ l, l < w → 0 ≤ t k l) (hc : ∀ k, k < h → ∀ l, l < w → t k l ≤ c) : IsExt h w i j m t raise (ext h w i j m t raise) := by
  obtain ⟨v, hv⟩ := exists_ext (m := m) raise hi hj h0 hc
  rw [ext_eq hv]
  exact hv

/-- What a search for places gives: for each place the one from which it is first reached, or -1. -/
structure Reach (E : Nat → Nat → Prop) (N s : Nat) (rank : Nat → Nat) (P : List Int) : Prop where
  len : P.length = N
  start : P.getD s 0 = s
  none_ : ∀ v, v < N → P.getD v 0 < 0 → P.getD v 0 = -1
  from_ : ∀ v, v < N → 0 ≤ P.getD v 0 → v ≠ s → ∃ p : Nat, P.getD v 0 = p ∧ p < N ∧ 0 ≤ P.getD p 0 ∧ rank p < rank v ∧ E p v
  closed : ∀ u v, u < N → v < N → 0 ≤ P.getD u 0 → E u v → 0 ≤ P.getD v 0

theorem Reach.extreme {raise : Bool} {x : Nat → Nat → Int} {rank : Nat → Nat} {P : List Int} (hP : Reach (Edge h w i j m raise x) (h + w) i rank P) (hx : Legal h w i j m t x) (hi : i < h) (hj : j < w)
    (hno : P.getD (h + j) 0 < 0) : IsExt h w i j m t raise (x i j) := by
  refine ⟨⟨x, hx, rfl⟩, fun y hy => cut hx hi hj (fun v => decide (0 ≤ P.getD v 0)) ?_ ?_ ?_ hy⟩
  · simp only [decide_eq_true_eq]
    rw [hP.start]
    omega
  · simp only [decide_eq_false_iff_not]
    omega
  · intro u v hu hv h1 h2 he
    simp only [decide_eq_true_eq] at h1
    simp only [decide_eq_false_iff_not] at h2
    exact h2 (hP.closed u v hu hv h1 he)

/-- One step back on a path: the cell that changes, and by how much. -/
theorem Half.step {raise : Bool} {d : Int} {x0 x : Nat → Nat → Int} {rank : Nat → Nat} {p v : Nat} (hx : Half (h := h) (w := w) (i := i) (j := j) (m := m) (t := t) raise d x0 rank v x) (hd : 0 ≤ d)
    (hr : rank p < rank v) (he : Edge h w i j m raise x0 p v) (hroom : (p < h → raise = true → d ≤ x0 p (v - h)) ∧ (h ≤ p → raise = false → d ≤ x0 v (p - h))) :
    (p < h ∧ h ≤ v ∧ v < h + w ∧ Half (h := h) (w := w) (i := i) (j := j) (m := m) (t := t) raise d x0 rank p (upd x p (v - h) (-(sg raise * d)))) ∨
    (h ≤ p ∧ p < h + w ∧ v < h ∧ Half (h := h) (w := w) (i := i) (j := j) (m := m) (t := t) raise d x0 rank p (upd x v (p - h) (sg raise * d))) := by
  rcases he with ⟨h1, h2, h3, h4, h5, h6⟩ | ⟨h1, h2, h3, h4, h5, h6⟩
  · left
    obtain ⟨l, rfl⟩ : ∃ l, v = h + l := ⟨v - h, by omega⟩
    rw [Nat.add_sub_cancel_left] at h5 h6 hroom ⊢
    exact ⟨h1, h2, h3, hx.row_step hd h1 (by omega) hr h5 (fun e => h4 ⟨e.1, by omega⟩) (fun e => hroom.1 h1 e)⟩
  · right
    obtain ⟨l, rfl⟩ : ∃ l, p = h + l := ⟨p - h, by omega⟩
    rw [Nat.add_sub_cancel_left] at h5 h6 hroom ⊢
    exact ⟨h1, h2, h3, hx.col_step hd h3 (by omega) hr h5 (fun e => h4 ⟨e.1, by omega⟩) (fun e => hroom.2 h1 e)⟩

end
end Go.FlowMath
end

section
/-
  Contract: impl.cellsOf at whole numbers: the iterator over the places of all cells, row by row.
-/
namespace Go.Proofs.YtlmlchkolcmhpaaGreatDoor
open Go.RowKit Go.Shelf
attribute [local go_sem] Oper.semAt_some

/-- The places of rows of these lengths, row by row. -/
def poss (ls : List Nat) : List (Nat × Nat) := (List.range ls.length).flatMap fun i => (List.range (ls.getD i 0)).map fun j => (i, j)
/-- .. those before a place. -/
def upto (ls : List Nat) (i j : Nat) : List (Nat × Nat) := ((List.range i).flatMap fun i => (List.range (ls.getD i 0)).map fun j => (i, j)) ++ (List.range j).map fun j => (i, j)
theorem upto_next (ls : List Nat) (i j : Nat) : upto ls i (j + 1) = upto ls i j ++ [(i, j)] := by
  unfold upto
  rw [List.range_succ, List.map_append, List.append_assoc]
  rfl
theorem upto_row (ls : List Nat) (i : Nat) : upto ls i (ls.getD i 0) = upto ls (i + 1) 0 := by
  unfold upto
  rw [List.range_succ, List.flatMap_append]
  simp
theorem upto_all (ls : List Nat) : upto ls ls.length 0 = poss ls := by
  unfold upto poss
  simp
theorem upto_prefix_row (ls : List Nat) (k : Nat) : ∀ i, upto ls i 0 <+: upto ls (i + k) 0 := by
  induction k with
  | zero => intro i; exact List.prefix_refl _
  | succ k ih =>
    intro i
    refine List.IsPrefix.trans (ih i) ?_
    rw [show i + (k + 1) = i + k + 1 by omega, ← upto_row]
    unfold upto
    simp
theorem upto_prefix (ls : List Nat) {i j : Nat} (hi : i < ls.length) (hj : j ≤ ls.getD i 0) : upto ls i j <+: poss ls := by
  have h1 : upto ls i j <+: upto ls (i + 1) 0 := by
    rw [← upto_row]
    unfold upto
    rw [List.prefix_append_right_inj]
    obtain ⟨d, hd⟩ : ∃ d, ls.getD i 0 = j + d := ⟨ls.getD i 0 - j, by omega⟩
    rw [hd, List.range_add, List.map_append]
    exact List.prefix_append _ _
  have h2 := upto_prefix_row ls (ls.length - (i + 1)) (i + 1)
  rw [show i + 1 + (ls.length - (i + 1)) = ls.length by omega, upto_all] at h2
  exact h1.trans h2
theorem upto_lt (ls : List Nat) {i j : Nat} (hi : i < ls.length) (hj : j < ls.getD i 0) : (upto ls i j).length < (poss ls).length := by
  have := (upto_prefix ls hi (show j + 1 ≤ _ from hj)).length_le
  rw [upto_next] at this
  simp at this
  omega
theorem mem_poss {ls : List Nat} {x : Nat × Nat} (h : x ∈ poss ls) : x.1 < ls.length ∧ x.2 < ls.getD x.1 0 := by
  unfold poss at h
  rw [List.mem_flatMap] at h
  obtain ⟨i, hi, h⟩ := h
  obtain ⟨j, hj, rfl⟩ := List.mem_map.1 h
  exact ⟨List.mem_range.1 hi, List.mem_range.1 hj⟩

/-- A slice whose cells hold slices of these lengths. -/
def Heads (w : World) (ao : Option Addr) (b off : Nat) (ls : List Nat) : Prop :=
  (0 < ls.length → ao = some ⟨b, off, none⟩) ∧ ∀ i, i < ls.length → (∃ a c, w.cell? ⟨b, off + i, none⟩ = some (.slice a (ls.getD i 0) c)) ∧ ls.getD i 0 ≤ 9223372036854775807

set_option maxRecDepth 100000 in
set_option maxHeartbeats 2000000 in
/-- The iterator's closure, for every loop body that keeps the rows' heads. -/
theorem cells1_in (F : Fence) (n : Nat) (hf : F.fn 118) (hro : F.round = none) (hn : 1 ≤ n) (l Bs : Nat) (ao : Option Addr) (b off cap : Nat) (ls : List Nat) (hls : ls.length ≤ 9223372036854775807) (Kp : World → World → Prop)
    (hKp : ∀ A B, Kp A B → ∀ o, o < off + ls.length → B.cell? ⟨b, o, none⟩ = A.cell? ⟨b, o, none⟩) (hKr : ∀ A, Kp A A) (hKt : ∀ A B C, Kp A B → Kp B C → Kp A C) (J Jx : List (Nat × Nat) → World → Prop)
    (hY : ∀ pre x W, J pre W → x.1 < ls.length → x.2 < ls.getD x.1 0 → pre.length < (poss ls).length → YieldAt F (n - 1) Tryz.prog l #[.int .i64 (x.1 : Int), .int .i64 (x.2 : Int)] W fun e W' =>
      (e = .returned (.bool true) ∧ J (pre ++ [x]) W' ∧ Kp W W') ∨ (e = .returned (.bool false) ∧ Jx (pre ++ [x]) W'))
    (W : World) (hBs : W.cell? ⟨Bs, 0, none⟩ = some (.slice ao ls.length cap)) (hH : Heads W ao b off ls) (h0 : J [] W) :
    CallsIn F n Tryz.prog 118 #[.func (.yield l) #[] #[], .pointer (some ⟨Bs, 0, none⟩)] W fun e W' => (∃ v, e = .returned v) ∧
      ((∃ ys, ys = poss ls ∧ J ys W') ∨ (∃ pre, pre <+: poss ls ∧ Jx pre W')) := by
  have HH := Lib.hid hH
  clear hH
  refine callsIn_of_wp Tryz.func118 rfl hf ?_ hro
  simp only [Tryz.ntmps118, List.size_toArray, List.length_cons, List.length_nil, Nat.reduceAdd, Nat.reduceSub, Array.replicate_succ, Array.replicate_zero, List.push_toArray, List.append_toArray, List.nil_append, List.cons_append]
  gi_wp2
  gi_loopw [8] (fun i wr => ∃ k : Nat, k ≤ ls.length ∧ i = .int .i64 k ∧ J (upto ls k 0) wr ∧ Kp W wr)
    (fun i _ => ls.length - (intOf i).toNat)
  case atStart => exact ⟨0, Nat.zero_le _, rfl, h0, hKr _⟩
  case round =>
    obtain ⟨k, hk, rfl, hJs, hnx⟩ := hrel
    have HN := Lib.hid hnx
    clear hnx
    by_cases hlt : k < ls.length
    · obtain rfl := HH.out.1 (by omega)
      obtain ⟨⟨ra, rc, hcell⟩, hrl⟩ := HH.out.2 k hlt
      have hcx : wr.cell? ⟨b, off + k, none⟩ = some (.slice ra (ls.getD k 0) rc) := (hKp _ _ HN.out (off + k) (by omega)).trans hcell
      have HUR := Lib.hid (upto_row ls k)
      have HUP := Lib.hid (fun j (hj : j ≤ ls.getD k 0) => upto_prefix ls hlt hj)
      have HUL := Lib.hid (fun j (hj : j < ls.getD k 0) => upto_lt ls hlt hj)
      have HYK := Lib.hid (fun j (hj : j < ls.getD k 0) (pre : List (Nat × Nat)) (W : World) (h1 : J pre W) (h2 : pre.length < (poss ls).length) => hY pre (k, j) W h1 hlt hj h2)
      obtain ⟨m, hm⟩ : ∃ m, ls.getD k 0 = m := ⟨_, rfl⟩
      rw [hm] at hcx hrl HUR HUP HUL HYK
      clear hcell hm
      gi_wp2
      gi_loopw [15] (fun j wq => ∃ q : Nat, q ≤ m ∧ j = .int .i64 q ∧ J (upto ls k q) wq ∧ Kp W wq)
        (fun j _ => m - (intOf j).toNat)
      case atStart => exact ⟨0, Nat.zero_le _, rfl, hJs, HN.out⟩
      case round =>
        obtain ⟨q, hq, rfl, hJq, hnq⟩ := hrel
        have HNQ := Lib.hid hnq
        clear hnq
        by_cases hqt : q < m
        · obtain ⟨fn, tmps, assign, body, hy, hR⟩ := HYK.out q hqt _ wr hJq (HUL.out q hqt)
          gi_wp2
          refine hR.mono ?_
          rintro e W3 (⟨rfl, hJ3, hk3⟩ | ⟨rfl, hJx3⟩)
          · gi_wp2
            go_roundw
            case rel => exact ⟨q + 1, by omega, by simp, by rw [upto_next]; exact hJ3, hKt _ _ _ HNQ.out hk3⟩
            case measure => simp [intOf]; omega
          · gi_wp2
            refine bodyPost_ret (results_none rfl _ _ _) rfl ?_
            exact ⟨⟨_, rfl⟩, .inr ⟨_, by rw [← upto_next]; exact HUP.out (q + 1) (by omega), hJx3⟩⟩
        · obtain rfl : q = m := by omega
          gi_wp2
          go_roundw
          case rel => exact ⟨k + 1, by omega, by simp, by rw [← HUR.out]; exact hJq, HNQ.out⟩
          case measure => simp [intOf]; omega
    · obtain rfl : k = ls.length := by omega
      gi_wp2
      go_end0
      exact ⟨⟨_, rfl⟩, .inl ⟨_, upto_all ls, hJs⟩⟩

set_option maxHeartbeats 1000000 in
/-- cellsOf: the slice is boxed; the function value captures the box. -/
theorem cells_in (F : Fence) (n : Nat) (hf : F.fn 83) (hro : F.round = none) (a : Option Addr) (len cap : Nat) (w : World) :
    CallsIn F n Tryz.prog 83 #[.slice a len cap] w fun e w' => e = .returned (.func (.func 118) #[] #[.pointer (some ⟨w.heap.size, 0, none⟩)]) ∧ w' = w.alloc (.cells #[.slice a len cap] 64) := by
  refine callsIn_of_wp Tryz.func83 rfl hf ?_ hro
  simp only [Tryz.ntmps83, List.size_toArray, List.length_cons, List.length_nil, Nat.reduceAdd, Nat.reduceSub, Array.replicate_succ, Array.replicate_zero, List.push_toArray, List.append_toArray, List.nil_append, List.cons_append]
  gi_wp2
  go_ret
  exact ⟨rfl, rfl⟩

/-- A place. -/
abbrev Pos (ls : List Nat) : Type := { x : Nat × Nat // x.1 < ls.length ∧ x.2 < ls.getD x.1 0 }
def Pos.vals {ls : List Nat} (xs : List (Pos ls)) : List (Nat × Nat) := xs.map Subtype.val
theorem Pos.vals_snoc {ls : List Nat} (xs : List (Pos ls)) (x : Pos ls) : Pos.vals (xs ++ [x]) = Pos.vals xs ++ [x.1] := by
  unfold Pos.vals
  rw [List.map_append]
  rfl

/-- cellsOf hands back an iterator over all places, in order. -/
theorem cells_stops (F : Fence) (n : Nat) (hf : F.fn 118) (hro : F.round = none) (hn : 1 ≤ n) (Bs : Nat) (ao : Option Addr) (b off cap : Nat) (ls : List Nat) (hls : ls.length ≤ 9223372036854775807) (Kp : World → World → Prop)
    (hKp : ∀ A B, Kp A B → ∀ o, o < off + ls.length → B.cell? ⟨b, o, none⟩ = A.cell? ⟨b, o, none⟩) (hKr : ∀ A, Kp A A) (hKt : ∀ A B C, Kp A B → Kp B C → Kp A C) (w : World) (hBs : Bs < w.heap.size) (hb : 0 < ls.length → b < w.heap.size)
    (hc : w.cell? ⟨Bs, 0, none⟩ = some (.slice ao ls.length cap)) (hH : Heads w ao b off ls) :
    SeqStopsK F n Tryz.prog 118 #[.pointer (some ⟨Bs, 0, none⟩)] (fun x : Pos ls => #[Value.int .i64 (x.1.1 : Int), Value.int .i64 (x.1.2 : Int)]) Kp (fun ys => Pos.vals ys = poss ls) (fun pre => Pos.vals pre <+: poss ls) (poss ls).length w :=
  fun l J Jx W hW _ _ hY h0 => by
    refine (cells1_in F n hf hro hn l Bs ao b off cap ls hls Kp hKp hKr hKt (fun pre W => ∃ p, Pos.vals p = pre ∧ J p W) (fun pre W => ∃ p, Pos.vals p = pre ∧ Jx p W) ?_ W ((hW.cell (p := ⟨Bs, 0, none⟩) hBs).trans hc)
      ⟨hH.1, fun i hi => by
        obtain ⟨⟨a, c, h1⟩, h2⟩ := hH.2 i hi
        exact ⟨⟨a, c, (hW.cell (p := ⟨b, off + i, none⟩) (hb (by omega))).trans h1⟩, h2⟩⟩ ⟨[], rfl, h0⟩).mono ?_
    · rintro pre x W1 ⟨p, rfl, hj⟩ h1 h2 h3
      obtain ⟨fn, tmps, assign, body, hy, hR⟩ := hY p ⟨x, h1, h2⟩ W1 hj (by unfold Pos.vals at h3; rw [List.length_map] at h3; exact h3)
      refine ⟨fn, tmps, assign, body, hy, hR.mono ?_⟩
      rintro e W' (⟨he, hj', hk⟩ | ⟨he, hj'⟩)
      · exact .inl ⟨he, ⟨_, Pos.vals_snoc _ _, hj'⟩, hk⟩
      · exact .inr ⟨he, ⟨_, Pos.vals_snoc _ _, hj'⟩⟩
    · rintro e W' ⟨hv, ⟨ys, rfl, p, hp, hj⟩ | ⟨pre, hpre, p, hp, hj⟩⟩
      · exact ⟨hv, .inl ⟨p, hp, hj⟩⟩
      · exact ⟨hv, .inr ⟨p, by show Pos.vals p <+: _; rw [hp]; exact hpre, hj⟩⟩
end Go.Proofs.YtlmlchkolcmhpaaGreatDoor
end
