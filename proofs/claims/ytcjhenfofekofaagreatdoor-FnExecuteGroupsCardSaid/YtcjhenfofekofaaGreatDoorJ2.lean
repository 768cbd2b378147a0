/-
  Joined: Texts, PplText, Parse, ParseMore, PplParse, TextMore, Blank, TurnMath, TabO, Flow, CellsOf, GrowM.
-/
import Derived.Test.YtcjhenfofekofaaGreatDoorJ1
import Derived.Lib.Join
import Derived.Lib.ItoaNum
import Derived.Lib.AtoiTie
import Derived.Lib.AtoiAllCases
import Derived.Lib.Atoi
import Derived.Lib.Strings
import Derived.RangeFuncNested
import Derived.RangeFuncBound
import Derived.RangeFuncCalls
import Derived.RangeFuncLeaves
import Derived.Shelf.Abstract
import Derived.Shelf.RegionOpen
import Derived.WalkKit
import Derived.OwnWalkIn
import Derived.TacticsInMore
import Derived.LoopNIn
import Derived.LoopIn

section
/-
  Contracts: TableText of the program and of the reference.
-/
namespace Go.Proofs.YtcjhenfofekofaaGreatDoor
open Go.RowKit
open Go.TextMath (text line rowW cellW word tvB mvB)

/-- The text of a table; none if it is none. -/
def tt (T : List (List Int)) : ByteArray := ⟨(if tvB T then text T [] else []).toArray⟩
/-- The text of a table under a mask; none if these are none. -/
def mt (T : List (List Int)) (M : List (List Bool)) : ByteArray := ⟨(if mvB T M then text T M else []).toArray⟩
theorem tv_fit {T : List (List Int)} (h : tvB T = true) : Fit T := by
  obtain ⟨h1, h2, h3, h4, h5⟩ := tv_t.1 h
  refine ⟨by omega, fun i hi => ?_⟩
  obtain ⟨h6, h7⟩ := h5 i hi
  exact ⟨by omega, by omega, fun j hj => ⟨(h7 j hj).1, by have := (h7 j hj).2; omega⟩⟩
theorem tt_t {T : List (List Int)} (h : tvB T = true) : tt T = ⟨(text T []).toArray⟩ := by unfold tt; rw [if_pos h]
theorem tt_f {T : List (List Int)} (h : tvB T = false) : tt T = ⟨#[]⟩ := by unfold tt; rw [h]; rfl
theorem mt_t {T : List (List Int)} {M : List (List Bool)} (h : mvB T M = true) : mt T M = ⟨(text T M).toArray⟩ := by unfold mt; rw [if_pos h]
theorem mt_f {T : List (List Int)} {M : List (List Bool)} (h : mvB T M = false) : mt T M = ⟨#[]⟩ := by unfold mt; rw [h]; rfl
theorem mv_tv {T : List (List Int)} {M : List (List Bool)} (h : mvB T M = true) : tvB T = true := (mv_t.1 h).1

theorem tableTextI (ao : Option Addr) (b off cap : Nat) (T : List (List Int)) (w : World) (hr : Tab .i64 w ao b off T) (hl : T.length ≤ 9223372036854775807) (ht : PowTab w) :
    Calls Tryz.prog 24 #[.slice ao T.length cap] w fun e w' => e = .returned (.string (tt T)) ∧ Below w.heap.size w w' := by
  have HR := Lib.hid hr
  have HP := Lib.hid ht
  clear hr ht
  cases hv : tvB T with
  | false =>
    have HT := Lib.hid (tt_f hv)
    go_enter Tryz.func24, Tryz.ntmps24
    go_wp2_with fail
    refine (tableValidI ao b off cap T w HR.out hl).mono ?_
    rintro e w' ⟨rfl, rfl⟩
    go_wp2_with fail
    go_ret
    exact ⟨by rw [HT.out]; rfl, Below.refl _ _⟩
  | true =>
    have HT := Lib.hid (tt_t hv)
    have HF := Lib.hid (tv_fit hv)
    go_enter Tryz.func24, Tryz.ntmps24
    go_wp2_with fail
    refine (tableValidI ao b off cap T w HR.out hl).mono ?_
    rintro e w' ⟨rfl, rfl⟩
    go_wp2_with fail
    refine (cellsI ao b off cap T _ [] w HR.out HF.out (.inl ⟨rfl, rfl⟩) HP.out).mono ?_
    rintro e w1 ⟨rfl, hb⟩
    have HB := Lib.hid hb
    clear hb
    go_wp2_with fail
    go_ret
    exact ⟨by rw [HT.out]; rfl, HB.out⟩

theorem text_take (T : List (List Int)) (M : List (List Bool)) {k : Nat} (h : k < T.length) : text (T.take (k + 1)) M = text (T.take k) M ++ line (rowW (T.getD k []) (M.getD k [])) := by
  rw [take_one (d := []) h, Go.TextMath.text_snoc, show (T.take k).length = k by rw [List.length_take]; omega]
theorem str_add (a b : List UInt8) : (⟨a.toArray⟩ : ByteArray) ++ ⟨b.toArray⟩ = ⟨(a ++ b).toArray⟩ := by
  apply ByteArray.ext
  apply Array.toList_inj.1
  simp
/-- A list of bytes, as a string. -/
def bs (l : List UInt8) : ByteArray := ⟨l.toArray⟩
theorem bs_add (a b : List UInt8) : bs a ++ bs b = bs (a ++ b) := str_add a b
theorem bs_size (l : List UInt8) : (bs l).size = l.length := by simp [bs, ByteArray.size]
theorem line_short {r : List Int} {h : List Bool} (hr : ∀ j, j < r.length → 0 ≤ r.getD j 0 ∧ r.getD j 0 ≤ 1000000) (h4 : r.length ≤ 4) : (line (rowW r h)).length ≤ 41 := by
  have := join_short (h := h) hr h4
  simp only [line, List.length_append, List.length_cons, List.length_nil] at this ⊢
  omega

/-- A line of numbers. -/
def lnW (r : List Int) : ByteArray := bs (line (r.map word))
theorem lnW_size {r : List Int} (hr : ∀ j, j < r.length → 0 ≤ r.getD j 0 ∧ r.getD j 0 ≤ 1000000) (h4 : r.length ≤ 4) : (lnW r).size ≤ 41 := by
  have := line_short (h := []) hr h4
  rw [Go.TextMath.rowW_none] at this
  unfold lnW
  rw [bs_size]; exact this
/-- A line of words under flags. -/
def lnM (r : List Int) (h : List Bool) : ByteArray := bs (line (rowW r h))
theorem lnM_size {r : List Int} {h : List Bool} (hr : ∀ j, j < r.length → 0 ≤ r.getD j 0 ∧ r.getD j 0 ≤ 1000000) (h4 : r.length ≤ 4) : (lnM r h).size ≤ 41 := by
  unfold lnM
  rw [bs_size]; exact line_short hr h4
theorem ws_getD {r : List Int} {h : List Bool} {i : Nat} (hi : i < r.length) : (ws r h).getD i ⟨#[]⟩ = cw (r.getD i 0) (h.getD i false) := by
  have hl : i < (ws r h).length := by rw [ws_len]; exact hi
  rw [List.getD_eq_getElem?_getD, List.getElem?_eq_getElem hl]
  exact (ws_at (List.getElem?_eq_getElem hl)).2
theorem ws_take {r : List Int} {h : List Bool} {j : Nat} (hj : j < r.length) : (ws r h).take (j + 1) = (ws r h).take j ++ [cw (r.getD j 0) (h.getD j false)] := by
  rw [takeS _ (by rw [ws_len]; exact hj), ws_getD hj]
theorem cw_size {n : Int} {b : Bool} (h0 : 0 ≤ n) (h1 : n ≤ 1000000) : (cw n b).size ≤ 7 := by
  have := cellW_short (b := b) h0 h1
  simpa [cw, ByteArray.size] using this
end Go.Proofs.YtcjhenfofekofaaGreatDoor
end

section
/-
  Contracts: PeopleText of the program and of the reference.
-/
namespace Go.Proofs.YtcjhenfofekofaaGreatDoor
open Go.RowKit
open Go.TextMath (text line rowW cellW word)

def rowOf (p : Per) : List Int := [p.area, p.job, p.sex, p.pay]
def rowsOf (L : List Per) : List (List Int) := L.map rowOf
theorem rowsOf_len (L : List Per) : (rowsOf L).length = L.length := List.length_map _
theorem rowsOf_at {L : List Per} {i : Nat} (h : i < L.length) : (rowsOf L).getD i [] = rowOf (L.getD i per0) := by
  simp [rowsOf, List.getD_eq_getElem?_getD, List.getElem?_eq_getElem h]
theorem rowsOf_take {L : List Per} {k : Nat} (h : k < L.length) : rowsOf (L.take (k + 1)) = rowsOf (L.take k) ++ [rowOf (L.getD k per0)] := by
  unfold rowsOf
  rw [List.take_succ_eq_append_getElem h, List.map_append]
  simp [List.getD_eq_getElem?_getD, List.getElem?_eq_getElem h]
theorem rowsOf_tk (L : List Per) (k : Nat) : rowsOf (L.take k) = (rowsOf L).take k := by unfold rowsOf; rw [List.map_take]
/-- The text of people; none if they are none. -/
def tp (L : List Per) : ByteArray := ⟨(if pplB L then text (rowsOf L) [] else []).toArray⟩
theorem tp_t {L : List Per} (h : pplB L = true) : tp L = ⟨(text (rowsOf L) []).toArray⟩ := by unfold tp; rw [if_pos h]
theorem tp_f {L : List Per} (h : pplB L = false) : tp L = ⟨#[]⟩ := by unfold tp; rw [h]; rfl
theorem rowOf_ok {p : Per} (h : PerOk p) : ∀ j, j < (rowOf p).length → 0 ≤ (rowOf p).getD j 0 ∧ (rowOf p).getD j 0 ≤ 1000000 := by
  obtain ⟨h1, h2, h3, h4⟩ := h
  intro j hj
  have : j = 0 ∨ j = 1 ∨ j = 2 ∨ j = 3 := by simp [rowOf] at hj; omega
  rcases this with rfl | rfl | rfl | rfl <;> simp [rowOf] <;> omega
theorem ppl_fit {L : List Per} (h : pplB L = true) : Fit (rowsOf L) := by
  obtain ⟨h1, h2⟩ := ppl_t.1 h
  refine ⟨by rw [rowsOf_len]; omega, fun i hi => ?_⟩
  rw [rowsOf_len] at hi
  rw [rowsOf_at hi]
  exact ⟨by simp [rowOf], by simp [rowOf], rowOf_ok (h2 i hi)⟩

set_option maxHeartbeats 2000000 in
set_option maxRecDepth 100000 in
theorem peopleTextI (ao : Option Addr) (b off cap : Nat) (L : List Per) (w : World) (hr : Ppl w ao b off L) (hl : L.length ≤ 9223372036854775807) (ht : PowTab w) :
    Calls Tryz.prog 41 #[.slice ao L.length cap] w fun e w' => e = .returned (.string (tp L)) ∧ Below w.heap.size w w' := by
  have HR := Lib.hid hr
  have HP := Lib.hid ht
  clear hr ht
  cases hv : pplB L with
  | false =>
    have HV := Lib.hid hv
    have HT := Lib.hid (tp_f hv)
    clear hv
    go_enter Tryz.func41, Tryz.ntmps41
    go_wp2_with fail
    refine (peopleI ao b off cap L w HR.out hl).mono ?_
    rintro e w' ⟨rfl, hb⟩
    rw [HV.out]
    have HB := Lib.hid hb
    clear hb
    go_wp2_with fail
    go_ret
    exact ⟨by rw [HT.out]; rfl, HB.out⟩
  | true =>
    have HV := Lib.hid hv
    have HT := Lib.hid (tp_t hv)
    have HF := Lib.hid (ppl_fit hv)
    have h40 := (ppl_t.1 hv).1
    clear hv
    go_enter Tryz.func41, Tryz.ntmps41
    go_wp2_with fail
    refine (peopleI ao b off cap L w HR.out hl).mono ?_
    rintro e w0 ⟨rfl, hb⟩
    rw [HV.out]
    have HB0 := Lib.hid hb
    clear hb
    go_wp2_with fail
    go_loopw [3, 11] (fun v i wr => ∃ (k : Nat) (g : Nat → Nat), k ≤ L.length ∧ i = .int .i64 k ∧ MtI wr w.heap.size v (rowsOf (L.take k)) g ∧ Below w.heap.size w wr) (fun _ i _ => L.length - (intOf i).toNat)
    case atStart => exact ⟨0, fun _ => 0, Nat.zero_le _, rfl, MtG.nil _ _ _, HB0.out⟩
    case round =>
      obtain ⟨k, g, hk, rfl, hm, hb⟩ := hrel
      have HM := Lib.hid hm
      have HB := Lib.hid hb
      have hsz := hb.size
      clear hm hb
      by_cases hlt : k < L.length
      · have h2 := (HR.out.keep HB.out (Nat.le_refl _)).2 k hlt
        obtain rfl := HR.out.1 (by omega)
        obtain ⟨p, hp⟩ : ∃ p, L.getD k per0 = p := ⟨_, rfl⟩
        rw [hp] at h2
        have HPE := Lib.hid hp
        clear hp
        obtain ⟨a, j, s, y⟩ := p
        obtain ⟨c0, c1, c2, c3⟩ := h2
        simp only at c0 c1 c2 c3
        obtain ⟨W0, hW0⟩ : ∃ W0, (wr.alloc (.cells #[.int .i64 a, .int .i64 j, .int .i64 s, .int .i64 y] 57)).alloc (.cells #[.int .i64 a, .int .i64 j, .int .i64 s, .int .i64 y] 3) = W0 := ⟨_, rfl⟩
        have hb0 : Below wr.heap.size wr W0 := by rw [← hW0]; exact ((Below.refl _ _).alloc (Nat.le_refl _) _).alloc (by simp) _
        have hrow : W0.rowIs (wr.heap.size + 1) 3 4 (fun i => (rowOf ⟨a, j, s, y⟩).map (Value.int .i64) |>.getD i undef) := by
          rw [← hW0]
          have := World.rowIs_alloc (wr.alloc (.cells #[.int .i64 a, .int .i64 j, .int .i64 s, .int .i64 y] 57)) #[.int .i64 a, .int .i64 j, .int .i64 s, .int .i64 y] 3 (fun i => (rowOf ⟨a, j, s, y⟩).map (Value.int .i64) |>.getD i undef) (fun i hi => by
            have : i = 0 ∨ i = 1 ∨ i = 2 ∨ i = 3 := by simp at hi; omega
            rcases this with rfl | rfl | rfl | rfl <;> rfl)
          simpa using this
        have hL : Hid ((rowsOf (L.take k)).length = k) := by show _ = _; rw [rowsOf_len, List.length_take]; omega
        have hm0 := HM.out.below hb0
        obtain ⟨cs, hown, hcs⟩ := hm0.top
        have HOWN := Lib.hid hown
        have hsw : w.heap.size ≤ W0.heap.size := Nat.le_trans hsz hb0.size
        have HSN := Lib.hid (fun (v' : Value) (w2 : World) => hm0.snoc (v' := v') (w2 := w2) (by decide) hown hcs (r := rowOf ⟨a, j, s, y⟩) (c := 4) (fun i hi => by have := HM.out.lt hi; omega) (by omega) hrow (fun j' x hx => by
          have hj := (List.getElem?_eq_some_iff.1 hx).1
          simp [List.getD_eq_getElem?_getD, hx]) (by simp [rowOf]) (by omega))
        have HBW := Lib.hid (HB.out.trans (hb0.mono hsz))
        clear hown hcs hrow hb0 hm0
        rw [← hW0] at HOWN HSN HBW hsw
        clear hW0
        have HSW := Lib.hid hsw
        clear hsw
        go_wp2_with (at_builtin; refine wpList_appH eltR rfl (.tmp 15) (.tmp 25) rfl w.heap.size _ _ _ rfl HOWN.out [.slice (some ⟨wr.heap.size + 1, 0, none⟩) 4 4] rfl (by intro u hu; simp at hu; subst hu; rfl) rfl (wr.heap.size + 1 + 1) (by simp) rfl ?c1 HSW.out ?_)
        case c1 => rw [hL.out]; omega
        intro v' w2 ho2 hb2 hg2
        have HM2 := Lib.hid (HSN.out v' w2 ho2 hg2)
        have HB2 := Lib.hid (HBW.out.trans hb2)
        clear ho2 hb2 hg2
        go_wp2_with fail
        go_roundw
        case rel =>
          have hm2 := HM2.out
          rw [← HPE.out, ← rowsOf_take hlt] at hm2
          exact ⟨k + 1, _, by omega, by go_num, hm2, HB2.out⟩
        case measure => simp [intOf]; omega
      · obtain rfl : k = L.length := by omega
        have hme := HM.out
        rw [List.take_length] at hme
        obtain ⟨ao2, b2, c2, hv, hv1, hv2, hv3⟩ := hme.tab
        subst hv
        have HV3 := Lib.hid hv3
        have HPW := Lib.hid (HP.out.keep HB.out (Nat.le_refl _))
        clear hme hv3 HM
        go_wp2_with fail
        refine (cellsI ao2 b2 0 c2 (rowsOf L) _ [] wr HV3.out HF.out (.inl ⟨rfl, rfl⟩) HPW.out).mono ?_
        rintro e w1 ⟨rfl, hb1⟩
        have HB1 := Lib.hid hb1
        clear hb1
        go_wp2_with fail
        go_ret
        exact ⟨by rw [HT.out]; rfl, HB.out.trans (HB1.out.mono hsz)⟩

end Go.Proofs.YtcjhenfofekofaaGreatDoor
end

section
/-
  Plain mathematics of reading texts: what lies between a byte; numbers of words; tables and people out of their texts.
-/
namespace Go.ParseMath
open Go.Lib (join joinTail decDigits)
open Go.TextMath

/-- What lies between a byte. -/
def cutL (c : UInt8) : List UInt8 → List (List UInt8)
  | [] => [[]]
  | x :: r => if x = c then [] :: cutL c r else match cutL c r with
    | [] => [[x]]
    | w :: ws => (x :: w) :: ws

theorem cutL_cons (c x : UInt8) (r : List UInt8) : cutL c (x :: r) = if x = c then [] :: cutL c r else match cutL c r with
    | [] => [[x]]
    | w :: ws => (x :: w) :: ws := rfl

theorem cutL_ne (c : UInt8) (s : List UInt8) : cutL c s ≠ [] := by
  cases s with
  | nil => simp [cutL]
  | cons x r =>
    unfold cutL
    split
    · simp
    · split <;> simp

theorem cutL_none {c : UInt8} {u : List UInt8} (h : c ∉ u) : cutL c u = [u] := by
  induction u with
  | nil => rfl
  | cons x r ih =>
    rw [List.mem_cons, not_or] at h
    unfold cutL
    rw [if_neg (fun e => h.1 e.symm), ih h.2]

theorem cutL_at {c : UInt8} {u : List UInt8} (h : c ∉ u) (r : List UInt8) : cutL c (u ++ c :: r) = u :: cutL c r := by
  induction u with
  | nil => simp [cutL]
  | cons x u ih =>
    rw [List.mem_cons, not_or] at h
    rw [List.cons_append, cutL_cons, if_neg (fun e => h.1 e.symm), ih h.2]

/-- A last byte more. -/
theorem cutL_snoc (c : UInt8) (s : List UInt8) : cutL c (s ++ [c]) = cutL c s ++ [[]] := by
  induction s with
  | nil => simp [cutL]
  | cons x r ih =>
    rw [List.cons_append]
    unfold cutL
    rw [ih]
    by_cases h : x = c
    · rw [if_pos h, if_pos h]; rfl
    · rw [if_neg h, if_neg h]
      have := cutL_ne c r
      cases hc : cutL c r with
      | nil => exact absurd hc this
      | cons w ws => rfl

/-- Lines, each with its end. -/
theorem cutL_lines {c : UInt8} (ls : List (List UInt8)) (h : ∀ l ∈ ls, c ∉ l) : cutL c ((ls.map fun l => l ++ [c]).flatten) = ls ++ [[]] := by
  induction ls with
  | nil => rfl
  | cons l ls ih =>
    rw [List.map_cons, List.flatten_cons, List.append_assoc, List.singleton_append, cutL_at (h l (by simp)), ih fun x hx => h x (by simp [hx])]
    rfl

/-- Words with a byte between. -/
theorem cutL_join {c : UInt8} (ws : List (List UInt8)) (hne : ws ≠ []) (h : ∀ l ∈ ws, c ∉ l) : cutL c (join ws [c]) = ws := by
  cases ws with
  | nil => exact absurd rfl hne
  | cons x r =>
    rw [Lib.join_cons]
    clear hne
    induction r generalizing x with
    | nil => simp [joinTail, cutL_none (h x (by simp))]
    | cons y r ih =>
      have e : joinTail [c] (y :: r) = c :: (y ++ joinTail [c] r) := by simp [joinTail]
      rw [e, cutL_at (h x (by simp)), ih y fun l hl => h l (by simp at hl ⊢; right; exact hl)]

theorem cutL_length (c : UInt8) (s : List UInt8) : (cutL c s).length = s.count c + 1 := by
  induction s with
  | nil => rfl
  | cons x r ih =>
    unfold cutL
    by_cases h : x = c
    · rw [if_pos h, List.length_cons, ih]; subst h; simp
    · rw [if_neg h, List.count_cons]
      have hb : (x == c) = false := by simpa using h
      rw [hb]
      have := cutL_ne c r
      cases hc : cutL c r with
      | nil => exact absurd hc this
      | cons w ws => rw [hc] at ih; simpa using ih

/-- No piece holds the byte. -/
theorem cutL_mem {c : UInt8} {s l : List UInt8} (h : l ∈ cutL c s) : c ∉ l ∧ l.length ≤ s.length := by
  induction s generalizing l with
  | nil =>
    simp [cutL] at h
    subst h
    exact ⟨by simp, Nat.le_refl _⟩
  | cons x r ih =>
    unfold cutL at h
    by_cases hx : x = c
    · rw [if_pos hx, List.mem_cons] at h
      rcases h with rfl | h
      · exact ⟨by simp, by simp⟩
      · have := ih h
        exact ⟨this.1, by simp; omega⟩
    · rw [if_neg hx] at h
      cases hc : cutL c r with
      | nil => exact absurd hc (cutL_ne c r)
      | cons w ws =>
        rw [hc] at h
        simp only [List.mem_cons] at h
        rcases h with rfl | h
        · have := ih (l := w) (by rw [hc]; simp)
          refine ⟨?_, by simp; omega⟩
          rw [List.mem_cons, not_or]
          exact ⟨fun e => hx e.symm, this.1⟩
        · have := ih (l := l) (by rw [hc]; simp [h])
          exact ⟨this.1, by simp; omega⟩

/-- The number of digits, one behind the other. -/
def digS : Int → List UInt8 → Int
  | n, [] => n
  | n, b :: r => if b.toNat < 48 ∨ 57 < b.toNat then -1 else digS (10 * n + ((b.toNat : Int) - 48)) r
/-- The number of one to four digits, or -1. -/
def numS (l : List UInt8) : Int := if 1 ≤ l.length ∧ l.length ≤ 4 then digS 0 l else -1
/-- The rows of a text; what lies behind the last line's end is not read. -/
def rowsS (s : List UInt8) : List (List Int) := (cutL 10 s).dropLast.map fun l => (cutL 32 l).map numS

theorem digS_cons (n : Int) (b : UInt8) (r : List UInt8) : digS n (b :: r) = if b.toNat < 48 ∨ 57 < b.toNat then -1 else digS (10 * n + ((b.toNat : Int) - 48)) r := rfl

theorem digS_app (n : Int) (a b : List UInt8) (h : ∀ x ∈ a, 48 ≤ x.toNat ∧ x.toNat ≤ 57) : digS n (a ++ b) = digS (digS n a) b := by
  induction a generalizing n with
  | nil => rfl
  | cons x a ih =>
    have hx := h x (by simp)
    rw [List.cons_append, digS_cons, digS_cons, if_neg (by omega), if_neg (by omega)]
    exact ih _ fun y hy => h y (by simp [hy])

theorem dec_range (u : Nat) : ∀ x ∈ decDigits u, 48 ≤ x.toNat ∧ x.toNat ≤ 57 := by
  induction u using Nat.strongRecOn with
  | _ u ih =>
    intro x hx
    by_cases h : u < 10
    · rw [Lib.decDigits_one h] at hx
      simp only [List.mem_singleton] at hx
      subst hx
      rw [UInt8.toNat_ofNat']
      omega
    · rw [Lib.decDigits, dif_neg h, List.mem_append] at hx
      rcases hx with hx | hx
      · exact ih (u / 10) (by omega) x hx
      · simp only [List.mem_singleton] at hx
        subst hx
        rw [UInt8.toNat_ofNat']
        omega

theorem digS_dec (u : Nat) : digS 0 (decDigits u) = u := by
  induction u using Nat.strongRecOn with
  | _ u ih =>
    by_cases h : u < 10
    · rw [Lib.decDigits_one h]
      unfold digS
      rw [UInt8.toNat_ofNat', if_neg (by omega)]
      unfold digS
      omega
    · rw [Lib.decDigits, dif_neg h, digS_app _ _ _ (dec_range _), ih (u / 10) (by omega)]
      unfold digS
      rw [UInt8.toNat_ofNat', if_neg (by omega)]
      unfold digS
      omega

theorem dec_len {u : Nat} (h : u < 10000) : 1 ≤ (decDigits u).length ∧ (decDigits u).length ≤ 4 := by
  rw [Lib.decDigits_length]
  refine ⟨Lib.nDigits_pos u, ?_⟩
  by_cases h0 : u < 10
  · rw [Lib.nDigits_small h0]; omega
  · rw [Lib.nDigits_big h0]
    by_cases h1 : u / 10 < 10
    · rw [Lib.nDigits_small h1]; omega
    · rw [Lib.nDigits_big h1]
      by_cases h2 : u / 10 / 10 < 10
      · rw [Lib.nDigits_small h2]; omega
      · rw [Lib.nDigits_big h2, Lib.nDigits_small (by omega)]; omega

theorem numS_dec {u : Nat} (h : u < 10000) : numS (decDigits u) = u := by
  unfold numS
  rw [if_pos (dec_len h), digS_dec]

/-- The number that Atoi finds, or 0; whether it finds one. -/
def valI (l : List UInt8) : Int := match Lib.atoiAll l with
  | .ok v => v
  | _ => 0
def okI (l : List UInt8) : Bool := match Lib.atoiAll l with
  | .ok _ => true
  | _ => false

theorem digitVal_dec {x : UInt8} (h : 48 ≤ x.toNat ∧ x.toNat ≤ 57) : Lib.digitVal x = some (x.toNat - 48) := by
  unfold Lib.digitVal
  simp [h.1, h.2]

theorem decFrom_digS (l : List UInt8) (h : ∀ x ∈ l, 48 ≤ x.toNat ∧ x.toNat ≤ 57) (n : Nat) : ∃ m : Nat, Lib.decFrom n l = some m ∧ digS n l = m := by
  induction l generalizing n with
  | nil => exact ⟨n, rfl, rfl⟩
  | cons x r ih =>
    have hx := h x (by simp)
    obtain ⟨m, h1, h2⟩ := ih (fun y hy => h y (by simp [hy])) (n * 10 + (x.toNat - 48))
    refine ⟨m, ?_, ?_⟩
    · unfold Lib.decFrom
      rw [digitVal_dec hx]
      exact h1
    · unfold digS
      rw [if_neg (by omega), ← h2]
      congr 1
      omega

theorem atoi_dec {u : Nat} (h : u < 10000) : Lib.atoiAll (decDigits u) = .ok (u : Int) := by
  have hl := dec_len h
  have hr := dec_range u
  obtain ⟨m, h1, h2⟩ := decFrom_digS _ hr 0
  have hm : m = u := by
    have := digS_dec u
    have h3 : digS 0 (decDigits u) = (m : Int) := h2
    omega
  subst hm
  obtain ⟨l, hd⟩ : ∃ l, decDigits m = l := ⟨_, rfl⟩
  rw [hd] at hl hr h1 ⊢
  cases l with
  | nil => simp at hl
  | cons b r =>
    have hb := hr b (by simp)
    rw [Lib.atoiAll_plain b r (by omega) (by omega), Lib.signless_short (by omega)]
    have e : Lib.decNat (b :: r) = Lib.decFrom 0 (b :: r) := rfl
    rw [e, h1]
    rfl
theorem valI_dec {u : Nat} (h : u < 10000) : valI (decDigits u) = u := by unfold valI; rw [atoi_dec h]
theorem okI_dec {u : Nat} (h : u < 10000) : okI (decDigits u) = true := by unfold okI; rw [atoi_dec h]

/-- The numbers of a line; whether there are at most so many, each a number. -/
def lineV (l : List UInt8) : List Int := (cutL 32 l).map valI
def lineOk (most : Nat) (l : List UInt8) : Bool := decide ((cutL 32 l).length ≤ most) && (cutL 32 l).all okI
/-- A text without a last line's end. -/
def trim (s : List UInt8) : List UInt8 := Lib.trimSuffix s [10]
/-- The rows that are read; whether there are at most so many, each read. -/
def readV (s : List UInt8) : List (List Int) := (cutL 10 (trim s)).map lineV
def readOk (most : Nat) (s : List UInt8) : Bool := decide ((cutL 10 (trim s)).length ≤ most) && (cutL 10 (trim s)).all (lineOk 4)

/-- Rows that can be read back. -/
def OkT (T : List (List Int)) : Prop := ∀ r ∈ T, 1 ≤ r.length ∧ ∀ n ∈ r, 0 ≤ n ∧ n < 10000
theorem OkT.tail {r : List Int} {T : List (List Int)} (h : OkT (r :: T)) : OkT T := fun x hx => h x (by simp [hx])

def lineOf (r : List Int) : List UInt8 := join (r.map word) [32]

theorem text_eq (T : List (List Int)) : text T [] = ((T.map lineOf).map fun l => l ++ [10]).flatten := by
  unfold text
  congr 1
  apply List.ext_getElem
  · simp
  · intro i h1 h2
    simp [line, lineOf, rowW_none]

theorem no_word (c : UInt8) (hc : c.toNat < 48) (n : Int) : c ∉ word n := fun h => by
  have := dec_range n.toNat c h
  omega
theorem no_line (r : List Int) : (10 : UInt8) ∉ lineOf r := by
  unfold lineOf
  cases r with
  | nil => simp [Lib.join]
  | cons a r =>
    rw [List.map_cons, Lib.join_cons, List.mem_append, not_or]
    refine ⟨no_word 10 (by decide) a, ?_⟩
    induction r with
    | nil => simp [joinTail]
    | cons b r ih =>
      have e : joinTail [32] ((b :: r).map word) = 32 :: (word b ++ joinTail [32] (r.map word)) := by simp [joinTail]
      rw [e, List.mem_cons, List.mem_append, not_or, not_or]
      exact ⟨by decide, no_word 10 (by decide) b, ih⟩

theorem cut_text (T : List (List Int)) : cutL 10 (text T []) = T.map lineOf ++ [[]] := by
  rw [text_eq]
  exact cutL_lines _ fun l hl => by
    obtain ⟨r, _, rfl⟩ := List.mem_map.1 hl
    exact no_line r

theorem cut_line {r : List Int} (h : 1 ≤ r.length) : cutL 32 (lineOf r) = r.map word := by
  unfold lineOf
  refine cutL_join _ (fun e => ?_) fun l hl => ?_
  · rw [List.map_eq_nil_iff] at e
    subst e
    simp at h
  · obtain ⟨n, _, rfl⟩ := List.mem_map.1 hl
    exact no_word 32 (by decide) n

theorem map_word {f : List UInt8 → Int} (hf : ∀ u : Nat, u < 10000 → f (decDigits u) = u) {r : List Int} (h : ∀ n ∈ r, 0 ≤ n ∧ n < 10000) : (r.map word).map f = r := by
  rw [List.map_map]
  conv => rhs; rw [← List.map_id r]
  apply List.map_congr_left
  intro n hn
  obtain ⟨h1, h2⟩ := h n hn
  show f (decDigits n.toNat) = n
  rw [hf _ (by omega)]
  omega

/-- The reference reads back what was written. -/
theorem rowsS_text {T : List (List Int)} (h : OkT T) : rowsS (text T []) = T := by
  unfold rowsS
  rw [cut_text, List.dropLast_concat, List.map_map]
  conv => rhs; rw [← List.map_id T]
  apply List.map_congr_left
  intro r hr
  obtain ⟨h1, h2⟩ := h r hr
  show (cutL 32 (lineOf r)).map numS = r
  rw [cut_line h1]
  exact map_word (fun u hu => numS_dec hu) h2

theorem text_last {T : List (List Int)} (h : T ≠ []) : ∃ u, text T [] = u ++ [10] := by
  obtain ⟨T', r, rfl⟩ : ∃ T' r, T = T' ++ [r] := ⟨T.dropLast, T.getLast h, (List.dropLast_concat_getLast h).symm⟩
  rw [text_snoc]
  unfold line
  exact ⟨_, (List.append_assoc _ _ _).symm⟩
theorem trim_snoc (u : List UInt8) : trim (u ++ [10]) = u := by
  unfold trim Lib.trimSuffix
  have e : Lib.hasSuffix (u ++ [10]) [10] = true := by
    unfold Lib.hasSuffix
    rw [List.isSuffixOf_iff_suffix]
    exact List.suffix_append _ _
  rw [e]
  simp

theorem cut_trim {T : List (List Int)} (h : T ≠ []) : cutL 10 (trim (text T [])) = T.map lineOf := by
  obtain ⟨u, hu⟩ := text_last h
  have h1 := cut_text T
  rw [hu, cutL_snoc] at h1
  rw [hu, trim_snoc]
  exact List.append_cancel_right h1

/-- The program reads back what was written. -/
theorem readV_text {T : List (List Int)} (hne : T ≠ []) (h : OkT T) : readV (text T []) = T := by
  unfold readV
  rw [cut_trim hne, List.map_map]
  conv => rhs; rw [← List.map_id T]
  apply List.map_congr_left
  intro r hr
  obtain ⟨h1, h2⟩ := h r hr
  show (cutL 32 (lineOf r)).map valI = r
  rw [cut_line h1]
  exact map_word (fun u hu => valI_dec hu) h2
theorem lineOk_line {most : Nat} {r : List Int} (h : 1 ≤ r.length) (hm : r.length ≤ most) (hr : ∀ n ∈ r, 0 ≤ n ∧ n < 10000) : lineOk most (lineOf r) = true := by
  unfold lineOk
  rw [cut_line h, Bool.and_eq_true, decide_eq_true_eq, List.length_map, List.all_eq_true]
  refine ⟨hm, fun l hl => ?_⟩
  obtain ⟨n, hn, rfl⟩ := List.mem_map.1 hl
  exact okI_dec (by have := hr n hn; omega)
theorem readOk_text {most : Nat} {T : List (List Int)} (hne : T ≠ []) (h : OkT T) (hm : T.length ≤ most) (h4 : ∀ r ∈ T, r.length ≤ 4) : readOk most (text T []) = true := by
  unfold readOk
  rw [cut_trim hne, Bool.and_eq_true, decide_eq_true_eq, List.length_map, List.all_eq_true]
  refine ⟨hm, fun l hl => ?_⟩
  obtain ⟨r, hr, rfl⟩ := List.mem_map.1 hl
  exact lineOk_line (h r hr).1 (h4 r hr) (h r hr).2

/-- A table's text as a list of bytes; none if it is none. -/
def ttL (T : List (List Int)) : List UInt8 := if tvB T then text T [] else []
theorem tvB_okT {T : List (List Int)} (h : tvB T = true) : T ≠ [] ∧ T.length ≤ 4 ∧ OkT T ∧ ∀ r ∈ T, r.length ≤ 4 := by
  simp only [tvB, decide_eq_true_eq] at h
  obtain ⟨h1, h2, h3, h4, h5⟩ := h
  have key : ∀ r ∈ T, (1 ≤ r.length ∧ ∀ n ∈ r, 0 ≤ n ∧ n < 10000) ∧ r.length ≤ 4 := by
    intro r hr
    obtain ⟨i, hi, rfl⟩ := List.getElem_of_mem hr
    obtain ⟨e1, e2⟩ := h5 i hi
    have e : T.getD i [] = T[i] := by simp [List.getD_eq_getElem?_getD, List.getElem?_eq_getElem hi]
    rw [e] at e1 e2
    refine ⟨⟨by omega, fun n hn => ?_⟩, by omega⟩
    obtain ⟨j, hj, rfl⟩ := List.getElem_of_mem hn
    have := e2 j hj
    rw [show (T[i]).getD j 0 = T[i][j] by simp [List.getD_eq_getElem?_getD, List.getElem?_eq_getElem hj]] at this
    omega
  refine ⟨fun e => ?_, h2, fun r hr => (key r hr).1, fun r hr => (key r hr).2⟩
  subst e
  simp at h1

theorem text_nil {T : List (List Int)} (h : T ≠ []) : text T [] ≠ [] := by
  obtain ⟨u, hu⟩ := text_last h
  rw [hu]
  simp

/-- What both find. -/
def tfB (s : List UInt8) : Bool := decide (s ≠ []) && decide (ttL (rowsS s) = s)
theorem tf_t {s : List UInt8} (h : tfB s = true) : tvB (rowsS s) = true ∧ text (rowsS s) [] = s ∧ readOk 4 s = true ∧ readV s = rowsS s := by
  unfold tfB at h
  rw [Bool.and_eq_true, decide_eq_true_eq, decide_eq_true_eq] at h
  obtain ⟨h1, h2⟩ := h
  cases hv : tvB (rowsS s) with
  | false =>
    unfold ttL at h2
    rw [hv] at h2
    exact absurd h2.symm h1
  | true =>
    unfold ttL at h2
    rw [hv, if_pos rfl] at h2
    obtain ⟨k1, k2, k3, k4⟩ := tvB_okT hv
    refine ⟨rfl, h2, ?_, ?_⟩
    · have := readOk_text (most := 4) k1 k3 k2 k4
      rw [h2] at this
      exact this
    · have := readV_text k1 k3
      rw [h2] at this
      exact this
theorem tf_of {s : List UInt8} (hv : tvB (readV s) = true) (ht : text (readV s) [] = s) : tfB s = true ∧ rowsS s = readV s := by
  obtain ⟨k1, k2, k3, k4⟩ := tvB_okT hv
  have hr := rowsS_text k3
  rw [ht] at hr
  refine ⟨?_, hr⟩
  unfold tfB
  rw [Bool.and_eq_true, decide_eq_true_eq, decide_eq_true_eq, hr]
  refine ⟨fun e => text_nil k1 (ht.trans e), ?_⟩
  unfold ttL
  rw [hv, if_pos rfl, ht]
/-- The program's test is the reference's. -/
theorem tf_iff (s : List UInt8) : tfB s = (readOk 4 s && (tvB (readV s) && decide (ttL (readV s) = s))) := by
  rw [Bool.eq_iff_iff, Bool.and_eq_true, Bool.and_eq_true, decide_eq_true_eq]
  constructor
  · intro h
    obtain ⟨h1, h2, h3, h4⟩ := tf_t h
    rw [h4]
    refine ⟨h3, h1, ?_⟩
    unfold ttL
    rw [h1, if_pos rfl, h2]
  · rintro ⟨_, h2, h3⟩
    unfold ttL at h3
    rw [h2, if_pos rfl] at h3
    exact (tf_of h2 h3).1

end Go.ParseMath
end

section
/-
  Plain mathematics of reading texts, more: a text without its last byte, or with one more, is no table's.
-/
namespace Go.ParseMath
open Go.Lib (join joinTail decDigits)
open Go.TextMath

theorem lineOf_ne {r : List Int} (h : 1 ≤ r.length) : lineOf r ≠ [] := by
  unfold lineOf
  cases r with
  | nil => simp at h
  | cons a r =>
    rw [List.map_cons, Lib.join_cons]
    intro e
    have h1 := (List.append_eq_nil_iff.1 e).1
    have h2 : (decDigits a.toNat).length = 0 := by
      show (word a).length = 0
      rw [h1]; rfl
    rw [Lib.decDigits_length] at h2
    have := Lib.nDigits_pos a.toNat
    omega
theorem tf_last {s : List UInt8} (h : tfB s = true) : ∃ u, s = u ++ [10] := by
  obtain ⟨h1, h2, _, _⟩ := tf_t h
  obtain ⟨u, hu⟩ := text_last (tvB_okT h1).1
  exact ⟨u, by rw [← h2, hu]⟩
/-- Without its last byte. -/
theorem tf_short {u : List UInt8} (h : tfB (u ++ [10]) = true) : tfB u = false := by
  rw [Bool.eq_false_iff]
  intro h2
  obtain ⟨a1, a2, _, _⟩ := tf_t h
  obtain ⟨b1, b2, _, _⟩ := tf_t h2
  have c1 := cut_text (rowsS (u ++ [10]))
  have c2 := cut_text (rowsS u)
  rw [a2, cutL_snoc] at c1
  rw [b2] at c2
  have c3 := List.append_cancel_right c1
  rw [c2] at c3
  have hm : ([] : List UInt8) ∈ (rowsS (u ++ [10])).map lineOf := by rw [← c3]; simp
  obtain ⟨r, hr, he⟩ := List.mem_map.1 hm
  exact lineOf_ne ((tvB_okT a1).2.2.1 r hr).1 he
/-- With another byte behind. -/
theorem tf_long {s : List UInt8} {c : UInt8} (hc : c ≠ 10) : tfB (s ++ [c]) = false := by
  rw [Bool.eq_false_iff]
  intro h
  obtain ⟨u, hu⟩ := tf_last h
  have := List.append_inj_right' hu rfl
  simp at this
  exact hc this
end Go.ParseMath
end

section
/-
  Plain mathematics: what reading people's texts finds.
-/
namespace Go.Proofs.YtcjhenfofekofaaGreatDoor
open Go.TextMath (text)
open Go.ParseMath

/-- A row of four numbers as a person. -/
def perR (r : List Int) : Per := ⟨r.getD 0 0, r.getD 1 0, r.getD 2 0, r.getD 3 0⟩
theorem perR_row (p : Per) : perR (rowOf p) = p := rfl
theorem row_perR {r : List Int} (h : r.length = 4) : rowOf (perR r) = r := by
  match r, h with
  | [a, b, c, d], _ => rfl
/-- The text of people. -/
def tpL (L : List Per) : List UInt8 := if pplB L then text (rowsOf L) [] else []
theorem tp_list (L : List Per) : (tp L).data.toList = tpL L := rfl
def all4 (T : List (List Int)) : Bool := T.all fun r => r.length == 4
theorem all4_t {T : List (List Int)} : all4 T = true ↔ ∀ r ∈ T, r.length = 4 := by
  unfold all4
  rw [List.all_eq_true]
  constructor
  · intro h r hr; exact eq_of_beq (h r hr)
  · intro h r hr; rw [h r hr]; rfl
theorem rows_perR {T : List (List Int)} (h : all4 T = true) : rowsOf (T.map perR) = T := by
  unfold rowsOf
  rw [List.map_map]
  conv => rhs; rw [← List.map_id T]
  exact List.map_congr_left fun r hr => row_perR (all4_t.1 h r hr)
theorem ppl_okT {L : List Per} (h : pplB L = true) : OkT (rowsOf L) ∧ (rowsOf L).length ≤ 40 ∧ all4 (rowsOf L) = true ∧ ∀ r ∈ rowsOf L, r.length ≤ 4 := by
  obtain ⟨h1, h2⟩ := ppl_t.1 h
  refine ⟨fun r hr => ?_, by rw [rowsOf_len]; exact h1, all4_t.2 fun r hr => ?_, fun r hr => ?_⟩
  · obtain ⟨p, hp, rfl⟩ := List.mem_map.1 hr
    obtain ⟨i, hi, rfl⟩ := List.getElem_of_mem hp
    have e : L.getD i per0 = L[i] := by simp [List.getD_eq_getElem?_getD, List.getElem?_eq_getElem hi]
    have := h2 i hi
    rw [e] at this
    obtain ⟨a1, a2, a3, a4⟩ := this
    refine ⟨by simp [rowOf], fun n hn => ?_⟩
    simp only [rowOf, List.mem_cons, List.not_mem_nil, or_false] at hn
    rcases hn with rfl | rfl | rfl | rfl <;> omega
  · obtain ⟨p, _, rfl⟩ := List.mem_map.1 hr; rfl
  · obtain ⟨p, _, rfl⟩ := List.mem_map.1 hr; exact Nat.le_refl 4

/-- What both find. -/
def pfB (s : List UInt8) : Bool := all4 (rowsS s) && decide (tpL ((rowsS s).map perR) = s)
def pfL (s : List UInt8) : List Per := if pfB s then (rowsS s).map perR else []
theorem pf_f {s : List UInt8} (h : pfB s = false) : pfL s = [] := by unfold pfL; rw [h]; rfl
theorem pf_tt {s : List UInt8} (h : pfB s = true) : pfL s = (rowsS s).map perR := by unfold pfL; rw [h]; rfl
theorem pf_nil : pfB [] = true := by
  unfold pfB
  have : rowsS ([] : List UInt8) = [] := rfl
  rw [this]
  rfl
theorem pfl_nil : pfL [] = [] := by rw [pf_tt pf_nil]; rfl
/-- A text that is people's. -/
theorem pf_t {s : List UInt8} (h : pfB s = true) (hne : s ≠ []) : pplB (pfL s) = true ∧ rowsOf (pfL s) = rowsS s ∧ text (rowsS s) [] = s ∧ readOk 40 s = true ∧ readV s = rowsS s ∧ all4 (rowsS s) = true ∧ rowsS s ≠ [] := by
  have hL := pf_tt h
  unfold pfB at h
  rw [Bool.and_eq_true, decide_eq_true_eq] at h
  obtain ⟨h1, h2⟩ := h
  rw [hL]
  have hr := rows_perR h1
  cases hv : pplB ((rowsS s).map perR) with
  | false =>
    unfold tpL at h2
    rw [hv] at h2
    exact absurd h2.symm hne
  | true =>
    unfold tpL at h2
    rw [hv, if_pos rfl, hr] at h2
    obtain ⟨k1, k2, k3, k4⟩ := ppl_okT hv
    rw [hr] at k1 k2 k3 k4
    have hn : rowsS s ≠ [] := fun e => hne (by rw [← h2, e]; rfl)
    refine ⟨rfl, hr, h2, ?_, ?_, h1, hn⟩
    · have := readOk_text (most := 40) hn k1 k2 k4
      rw [h2] at this
      exact this
    · have := readV_text hn k1
      rw [h2] at this
      exact this
/-- The program's test is the reference's. -/
theorem pf_iff {s : List UInt8} (hne : s ≠ []) : pfB s = (readOk 40 s && (all4 (readV s) && (pplB ((readV s).map perR) && decide (tpL ((readV s).map perR) = s)))) := by
  rw [Bool.eq_iff_iff, Bool.and_eq_true, Bool.and_eq_true, Bool.and_eq_true, decide_eq_true_eq]
  constructor
  · intro h
    obtain ⟨h1, h2, h3, h4, h5, h6, _⟩ := pf_t h hne
    rw [h5]
    rw [pf_tt h] at h1 h2
    refine ⟨h4, h6, h1, ?_⟩
    unfold tpL
    rw [h1, if_pos rfl, h2, h3]
  · rintro ⟨_, h2, h3, h4⟩
    have hr := rows_perR h2
    unfold tpL at h4
    rw [h3, if_pos rfl, hr] at h4
    obtain ⟨k1, _⟩ := ppl_okT h3
    rw [hr] at k1
    have hs := rowsS_text k1
    rw [h4] at hs
    unfold pfB
    rw [hs, Bool.and_eq_true, decide_eq_true_eq]
    refine ⟨h2, ?_⟩
    unfold tpL
    rw [h3, if_pos rfl, hr, h4]
/-- Who writes people reads them back. -/
theorem pf_ppl {L : List Per} (h : pplB L = true) : pfB (text (rowsOf L) []) = true ∧ pfL (text (rowsOf L) []) = L := by
  obtain ⟨k1, k2, k3, k4⟩ := ppl_okT h
  have hs := rowsS_text k1
  have hm : (rowsOf L).map perR = L := by
    unfold rowsOf
    rw [List.map_map]
    conv => rhs; rw [← List.map_id L]
    exact List.map_congr_left fun p _ => rfl
  have hb : pfB (text (rowsOf L) []) = true := by
    unfold pfB
    rw [hs, k3, hm, Bool.true_and, decide_eq_true_eq]
    unfold tpL
    rw [h, if_pos rfl]
  exact ⟨hb, by rw [pf_tt hb, hs, hm]⟩
theorem tp_of {L : List Per} {s : ByteArray} (h : tpL L = s.data.toList) : tp L = s := by
  apply ByteArray.ext
  apply Array.toList_inj.1
  rw [tp_list, h]
theorem tp_not {L : List Per} {s : ByteArray} (h : tpL L ≠ s.data.toList) : tp L ≠ s := fun e => h (by rw [← e, tp_list])
/-- Without its last byte. -/
theorem pf_short {u : List UInt8} (h : pfB (u ++ [10]) = true) (hu : u ≠ []) : pfB u = false := by
  rw [Bool.eq_false_iff]
  intro h2
  obtain ⟨a1, a0, a2, _, _, _, _⟩ := pf_t h (by simp)
  obtain ⟨b1, b0, b2, _, _, _, _⟩ := pf_t h2 hu
  have c1 := cut_text (rowsS (u ++ [10]))
  have c2 := cut_text (rowsS u)
  rw [a2, cutL_snoc] at c1
  rw [b2] at c2
  have c3 := List.append_cancel_right c1
  rw [c2] at c3
  have hm : ([] : List UInt8) ∈ (rowsS (u ++ [10])).map lineOf := by rw [← c3]; simp
  obtain ⟨r, hr, he⟩ := List.mem_map.1 hm
  have k := (ppl_okT a1).1
  rw [a0] at k
  exact lineOf_ne (k r hr).1 he
theorem pf_last {s : List UInt8} (h : pfB s = true) (hne : s ≠ []) : ∃ u, s = u ++ [10] ∧ u ≠ [] := by
  obtain ⟨a1, a0, a2, _, _, _, hn⟩ := pf_t h hne
  obtain ⟨u, hu⟩ := text_last hn
  rw [a2] at hu
  refine ⟨u, hu, ?_⟩
  rintro rfl
  have c1 := cut_text (rowsS s)
  rw [a2, hu, cutL_snoc] at c1
  have c3 := List.append_cancel_right c1
  have hm : ([] : List UInt8) ∈ (rowsS s).map lineOf := by rw [← hu] at c3; rw [hu, ← hu, ← c3]; simp [cutL]
  obtain ⟨r, hr, he⟩ := List.mem_map.1 hm
  have k := (ppl_okT a1).1
  rw [a0] at k
  exact lineOf_ne (k r hr).1 he
end Go.Proofs.YtcjhenfofekofaaGreatDoor
end

section
/-
  Plain mathematics of texts, more: how often a byte occurs, how long a text is, texts in two parts, texts under other masks.
-/
namespace Go.TextMath
open Go.Lib (join joinTail decDigits lens)

theorem digits_range (u : Nat) : ∀ x ∈ decDigits u, 48 ≤ x.toNat ∧ x.toNat ≤ 57 := by
  induction u using Nat.strongRecOn with
  | _ u ih =>
    intro x hx
    by_cases h : u < 10
    · rw [Lib.decDigits_one h] at hx
      simp only [List.mem_singleton] at hx
      subst hx
      rw [UInt8.toNat_ofNat']
      omega
    · rw [Lib.decDigits, dif_neg h, List.mem_append] at hx
      rcases hx with hx | hx
      · exact ih (u / 10) (by omega) x hx
      · simp only [List.mem_singleton] at hx
        subst hx
        rw [UInt8.toNat_ofNat']
        omega
theorem count_digits {c : UInt8} (hc : c.toNat < 48 ∨ 57 < c.toNat) (u : Nat) : (decDigits u).count c = 0 := by
  rw [List.count_eq_zero]
  intro h
  have := digits_range u c h
  omega
theorem count_cell {c : UInt8} (hc : c.toNat < 48) (n : Int) (b : Bool) : (cellW n b).count c = 0 := by
  cases b
  · exact count_digits (.inl hc) _
  · rw [List.count_eq_zero]
    intro h
    simp only [cellW, if_true, List.mem_singleton] at h
    subst h
    exact absurd hc (by decide)
theorem count_x (n : Int) (b : Bool) : (cellW n b).count 120 = if b then 1 else 0 := by
  cases b
  · exact count_digits (.inr (by decide)) _
  · rfl
theorem count_tail (c : UInt8) (r : List (List UInt8)) : (joinTail [32] r).count c = (if c = 32 then r.length else 0) + (r.map (List.count c)).sum := by
  induction r with
  | nil => simp [joinTail]
  | cons y r ih =>
    have e : joinTail [32] (y :: r) = 32 :: (y ++ joinTail [32] r) := by simp [joinTail]
    rw [e, List.count_cons, List.count_append, ih]
    by_cases h : c = 32
    · subst h
      simp
      omega
    · have : ((32 : UInt8) == c) = false := by simp; exact fun e => h e.symm
      simp [h, this]
theorem count_line (c : UInt8) (ws : List (List UInt8)) (h : ws ≠ []) : (line ws).count c = (if c = 32 then ws.length - 1 else 0) + (ws.map (List.count c)).sum + (if c = 10 then 1 else 0) := by
  cases ws with
  | nil => exact absurd rfl h
  | cons x r =>
    unfold line
    rw [List.count_append, Lib.join_cons, List.count_append, count_tail]
    have : List.count c [10] = if c = 10 then 1 else 0 := by
      rw [List.count_singleton]
      by_cases e : c = 10
      · subst e; rfl
      · have : ((10 : UInt8) == c) = false := by simp; exact fun h => e h.symm
        simp [this, e]
    rw [this]
    simp only [List.map_cons, List.sum_cons, List.length_cons, Nat.add_sub_cancel]
    omega
theorem rowW_ne {r : List Int} {h : List Bool} (hr : 1 ≤ r.length) : rowW r h ≠ [] := fun e => by
  have := rowW_length r h
  rw [e] at this
  simp at this
  omega
theorem sum_zero {α : Type} (l : List α) (f : α → Nat) (h : ∀ x ∈ l, f x = 0) : (l.map f).sum = 0 := by
  induction l with
  | nil => rfl
  | cons a r ih =>
    rw [List.map_cons, List.sum_cons, h a (by simp), ih fun x hx => h x (by simp [hx])]
theorem row_zero {c : UInt8} (hc : c.toNat < 48) (r : List Int) (h : List Bool) : ((rowW r h).map (List.count c)).sum = 0 := by
  apply sum_zero
  intro x hx
  obtain ⟨i, hi, rfl⟩ := List.mem_iff_getElem.1 hx
  simp only [rowW, List.getElem_mapIdx]
  exact count_cell hc _ _

/-- A sum over the first n numbers. -/
def sumN : Nat → (Nat → Nat) → Nat
  | 0, _ => 0
  | n + 1, f => sumN n f + f n
theorem sumN_congr {n : Nat} {f g : Nat → Nat} (h : ∀ i, i < n → f i = g i) : sumN n f = sumN n g := by
  induction n with
  | zero => rfl
  | succ n ih => rw [sumN, sumN, ih fun i hi => h i (by omega), h n (by omega)]
theorem sumN_const (n a : Nat) : sumN n (fun _ => a) = n * a := by
  induction n with
  | zero => simp [sumN]
  | succ n ih => rw [sumN, ih, Nat.succ_mul]
theorem sumN_add (n : Nat) (f g : Nat → Nat) : sumN n (fun i => f i + g i) = sumN n f + sumN n g := by
  induction n with
  | zero => rfl
  | succ n ih => simp only [sumN]; omega
theorem sumN_swap (m n : Nat) (f : Nat → Nat → Nat) : sumN m (fun i => sumN n (fun j => f i j)) = sumN n (fun j => sumN m (fun i => f i j)) := by
  induction m with
  | zero => simp only [sumN]; rw [sumN_const]; simp
  | succ m ih => simp only [sumN]; rw [ih, ← sumN_add]
theorem sum_take {α : Type} (l : List α) (f : α → Nat) (d : α) : ∀ k, k ≤ l.length → ((l.take k).map f).sum = sumN k (fun i => f (l.getD i d)) := by
  intro k
  induction k with
  | zero => intro _; simp [sumN]
  | succ k ih =>
    intro hk
    rw [List.take_succ_eq_append_getElem (by omega), List.map_append, List.sum_append, ih (by omega), sumN]
    congr 1
    simp [List.getD_eq_getElem?_getD, List.getElem?_eq_getElem (show k < l.length by omega)]
theorem sum_all {α : Type} (l : List α) (f : α → Nat) (d : α) : (l.map f).sum = sumN l.length (fun i => f (l.getD i d)) := by
  rw [← sum_take l f d l.length (Nat.le_refl _), List.take_length]

/-- What holds of each line holds of a text. -/
theorem text_sum (f : List UInt8 → Nat) (f0 : f [] = 0) (fa : ∀ a b, f (a ++ b) = f a + f b) (T : List (List Int)) (M : List (List Bool)) :
    f (text T M) = sumN T.length (fun i => f (line (rowW (T.getD i []) (M.getD i [])))) := by
  have key : ∀ k, k ≤ T.length → f (text (T.take k) M) = sumN k (fun i => f (line (rowW (T.getD i []) (M.getD i [])))) := by
    intro k
    induction k with
    | zero => intro _; simp [text, sumN, f0]
    | succ k ih =>
      intro hk
      rw [List.take_succ_eq_append_getElem (show k < T.length by omega), text_snoc, fa, ih (by omega), sumN]
      congr 1
      rw [show (T.take k).length = k by rw [List.length_take]; omega]
      simp [List.getD_eq_getElem?_getD, List.getElem?_eq_getElem (show k < T.length by omega)]
  have := key T.length (Nat.le_refl _)
  rwa [List.take_length] at this
theorem text_lines (T : List (List Int)) (M : List (List Bool)) (h : ∀ i, i < T.length → 1 ≤ (T.getD i []).length) : (text T M).count 10 = T.length := by
  rw [text_sum (List.count 10) (by simp) (by intro a b; exact List.count_append)]
  rw [sumN_congr (g := fun _ => 1), sumN_const, Nat.mul_one]
  intro i hi
  rw [count_line _ _ (rowW_ne (h i hi)), row_zero (by decide)]
  simp
theorem text_spaces (T : List (List Int)) (M : List (List Bool)) (n : Nat) (h : ∀ i, i < T.length → (T.getD i []).length = n + 1) : (text T M).count 32 = T.length * n := by
  rw [text_sum (List.count 32) (by simp) (by intro a b; exact List.count_append)]
  rw [sumN_congr (g := fun _ => n), sumN_const]
  intro i hi
  rw [count_line _ _ (rowW_ne (by rw [h i hi]; omega)), row_zero (by decide), rowW_length, h i hi]
  simp
theorem rowW_at {r : List Int} {h : List Bool} {j : Nat} (hj : j < r.length) : (rowW r h).getD j [] = cellW (r.getD j 0) (h.getD j false) := by
  rw [List.getD_eq_getElem?_getD, rowW, List.getElem?_mapIdx, List.getElem?_eq_getElem hj, List.getD_eq_getElem?_getD (l := r), List.getElem?_eq_getElem hj]
  rfl
/-- How many flags of a mask are set. -/
def flags (M : List (List Bool)) : Nat := sumN M.length (fun i => sumN (M.getD i []).length (fun j => if (M.getD i []).getD j false then 1 else 0))
theorem text_x (T : List (List Int)) (M : List (List Bool)) (h : ∀ i, i < T.length → 1 ≤ (T.getD i []).length) (hm : M.length = T.length) (hr : ∀ i, i < T.length → (M.getD i []).length = (T.getD i []).length) : (text T M).count 120 = flags M := by
  rw [text_sum (List.count 120) (by simp) (by intro a b; exact List.count_append)]
  unfold flags
  rw [hm]
  apply sumN_congr
  intro i hi
  rw [count_line _ _ (rowW_ne (h i hi)), sum_all _ _ [], rowW_length, hr i hi]
  simp only [show ((120 : UInt8) = 32) = False from by simp, show ((120 : UInt8) = 10) = False from by simp, if_false, Nat.zero_add, Nat.add_zero]
  apply sumN_congr
  intro j hj
  rw [rowW_at hj, count_x]
theorem lens_sum (l : List (List UInt8)) : lens l = (l.map List.length).sum := by
  induction l with
  | nil => rfl
  | cons a r ih => simp [lens]
/-- How long a text is. -/
theorem text_len (T : List (List Int)) (h : ∀ i, i < T.length → 1 ≤ (T.getD i []).length) : (text T []).length = sumN T.length (fun i => sumN (T.getD i []).length (fun j => (word ((T.getD i []).getD j 0)).length + 1)) := by
  rw [text_sum List.length (by simp) (by intro a b; exact List.length_append)]
  apply sumN_congr
  intro i hi
  rw [sumN_add, sumN_const, Nat.mul_one]
  have hn := rowW_none (T.getD i [])
  have h1 := h i hi
  rw [List.getD_nil, hn]
  generalize T.getD i [] = r at h1
  have e2 : sumN r.length (fun j => (word (r.getD j 0)).length) = ((r.map word).map List.length).sum := by
    rw [List.map_map, sum_all r _ 0]
    rfl
  rw [e2, ← lens_sum]
  have h2 : (r.map word).length = r.length := List.length_map _
  cases hw : r.map word with
  | nil => rw [hw] at h2; simp at h2; omega
  | cons x q =>
    unfold line
    rw [hw] at h2
    rw [List.length_append, Lib.join_length]
    simp only [List.length_cons, List.length_nil] at h2 ⊢
    omega

theorem getD_app {α : Type} (l : List α) (k i : Nat) (d : α) : (l.drop k).getD i d = l.getD (i + k) d := by
  simp only [List.getD_eq_getElem?_getD, List.getElem?_drop]
  rw [Nat.add_comm]
theorem getD_tak {α : Type} (l : List α) {k i : Nat} (d : α) (h : i < k) : (l.take k).getD i d = l.getD i d := by
  simp only [List.getD_eq_getElem?_getD]
  rw [List.getElem?_take_of_lt h]
/-- A text in two parts. -/
theorem text_parts (T : List (List Int)) (M : List (List Bool)) (k : Nat) (hk : k ≤ T.length) : text (T.take k) (M.take k) ++ text (T.drop k) (M.drop k) = text T M := by
  have e : text T M = text (T.take k ++ T.drop k) M := by rw [List.take_append_drop]
  rw [e]
  unfold text
  rw [List.mapIdx_append, List.flatten_append]
  congr 2
  · apply List.ext_getElem
    · simp
    · intro i h1 h2
      simp only [List.getElem_mapIdx]
      rw [getD_tak]
      simp at h1; omega
  · apply List.ext_getElem
    · simp
    · intro i h1 h2
      simp only [List.getElem_mapIdx]
      have hk2 : (T.take k).length = k := by rw [List.length_take]; omega
      simp only [getD_app, hk2]
theorem text_parts0 (T : List (List Int)) (k : Nat) (hk : k ≤ T.length) : text (T.take k) [] ++ text (T.drop k) [] = text T [] := by
  have := text_parts T [] k hk
  simpa using this
/-- A text hangs on what is shown alone. -/
theorem text_congr (T U : List (List Int)) (M K : List (List Bool)) (hl : T.length = U.length) (hr : ∀ i, i < T.length → (T.getD i []).length = (U.getD i []).length)
    (h : ∀ i, i < T.length → ∀ j, j < (T.getD i []).length → cellW ((T.getD i []).getD j 0) ((M.getD i []).getD j false) = cellW ((U.getD i []).getD j 0) ((K.getD i []).getD j false)) : text T M = text U K := by
  unfold text
  congr 1
  apply List.ext_getElem
  · simp [hl]
  · intro i h1 h2
    simp only [List.length_mapIdx] at h1 h2
    simp only [List.getElem_mapIdx]
    have e1 : T[i] = T.getD i [] := by simp [List.getD_eq_getElem?_getD, List.getElem?_eq_getElem h1]
    have e2 : U[i] = U.getD i [] := by simp [List.getD_eq_getElem?_getD, List.getElem?_eq_getElem h2]
    rw [e1, e2]
    congr 1
    have hri := hr i h1
    have hi := h i h1
    generalize T.getD i [] = r at hri hi
    generalize U.getD i [] = u at hri hi
    unfold rowW
    apply List.ext_getElem
    · simp [hri]
    · intro j g1 g2
      simp only [List.length_mapIdx] at g1 g2
      simp only [List.getElem_mapIdx]
      have := hi j g1
      rw [List.getD_eq_getElem?_getD, List.getElem?_eq_getElem g1, List.getD_eq_getElem?_getD (l := u), List.getElem?_eq_getElem g2] at this
      exact this
end Go.TextMath
end

section
/-
  Contract: spec.l11Blank.
-/
namespace Go.Proofs.YtcjhenfofekofaaGreatDoor
open Go.RowKit

/-- Rows of zeros. -/
def blank (h n : Nat) : List (List Int) := List.replicate h (List.replicate n 0)
theorem blank_len (h n : Nat) : (blank h n).length = h := List.length_replicate
theorem blank_row {h n i : Nat} (hi : i < h) : ((blank h n).getD i []).length = n := by
  simp [blank, List.getD_eq_getElem?_getD, List.getElem?_replicate, hi]
theorem blank_succ (k n : Nat) : blank (k + 1) n = blank k n ++ [List.replicate n 0] := by
  unfold blank
  rw [List.replicate_succ']

set_option maxHeartbeats 1000000 in
theorem blankS (h n : Nat) (w : World) (hh : h ≤ 100) (hn : n ≤ 100) :
    Calls Tryz.prog 54 #[.int .i64 h, .int .i64 n] w fun e w' => ∃ v g, e = .returned v ∧ MtI w' w.heap.size v (blank h n) g ∧ Below w.heap.size w w' := by
  have hmk : ∀ W : World, (Instr.makeSlice 50 (.int .i64 (n : Int)) (.int .i64 (n : Int))).run Tryz.prog W = .ok (.slice (some ⟨W.heap.size, 0, none⟩) n n) (W.alloc (.cells (madeCells #[.int .i64 0] n) 3)) :=
    fun W => run_make_row' 50 3 _ 8 Tryz.underlying50 eltI.info rfl .i64 .i64 n (by omega) (by omega) W
  go_enter Tryz.func54, Tryz.ntmps54
  go_wp2_with fail
  go_loopw [5, 6] (fun v i wr => ∃ (k : Nat) (g : Nat → Nat), k ≤ h ∧ i = .int .i64 k ∧ MtI wr w.heap.size v (blank k n) g ∧ Below w.heap.size w wr) (fun _ i _ => h - (intOf i).toNat)
  case atStart => exact ⟨0, fun _ => 0, Nat.zero_le _, rfl, MtG.lit _ _ _ (Nat.le_refl _) rfl, (Below.refl _ _).alloc (Nat.le_refl _) _⟩
  case round =>
    obtain ⟨k, g, hk, rfl, hm, hb⟩ := hrel
    have HM := Lib.hid hm
    have HB := Lib.hid hb
    have hsz := hb.size
    clear hm hb
    by_cases hlt : k < h
    · obtain ⟨W0, hW0⟩ : ∃ W0, wr.alloc (.cells (madeCells #[.int .i64 0] n) 3) = W0 := ⟨_, rfl⟩
      have hb0 : Below wr.heap.size wr W0 := by rw [← hW0]; exact (Below.refl _ _).alloc (Nat.le_refl _) _
      have hrow : W0.rowIs wr.heap.size 3 n (fun _ => .int .i64 0) := by rw [← hW0]; exact World.rowIs_made wr _ _ _
      have hm0 := HM.out.below hb0
      obtain ⟨cs, hown, hcs⟩ := hm0.top
      have hL : Hid ((blank k n).length = k) := blank_len k n
      have HOWN := Lib.hid hown
      have hsw : w.heap.size ≤ W0.heap.size := Nat.le_trans hsz hb0.size
      have HSN := Lib.hid (fun (v' : Value) (w2 : World) => hm0.snoc (v' := v') (w2 := w2) (by decide) hown hcs (r := List.replicate n 0) (c := n) (fun i hi => by have := HM.out.lt hi; omega) hsz hrow (fun j x hx => by
        have := List.getElem?_eq_some_iff.1 hx
        obtain ⟨h1, h2⟩ := this
        simp at h2
        rw [← h2]) (by simp) (by omega))
      have HBW := Lib.hid (HB.out.trans (hb0.mono hsz))
      have hlr : (List.replicate n (0 : Int)).length = n := List.length_replicate
      rw [hlr] at HSN
      clear hown hcs hrow hb0 hm0 hlr
      rw [← hW0] at HOWN HSN HBW hsw
      clear hW0
      have HSW := Lib.hid hsw
      clear hsw
      go_wp2_with (at_builtin; refine wpList_appH eltR rfl (.tmp 13) (.tmp 16) rfl w.heap.size _ _ _ rfl HOWN.out [.slice (some ⟨wr.heap.size, 0, none⟩) n n] rfl (by intro u hu; simp at hu; subst hu; rfl) rfl (wr.heap.size + 1) (by simp) rfl ?c1 HSW.out ?_)
      case c1 => rw [hL.out]; omega
      intro v' w2 ho2 hb2 hg2
      have HM2 := Lib.hid (HSN.out v' w2 ho2 hg2)
      have HB2 := Lib.hid (HBW.out.trans hb2)
      clear ho2 hb2 hg2
      go_wp2_with fail
      go_roundw
      case rel =>
        have hm2 := HM2.out
        rw [← blank_succ] at hm2
        exact ⟨k + 1, _, by omega, by go_num, hm2, HB2.out⟩
      case measure => simp [intOf]; omega
    · obtain rfl : k = h := by omega
      go_wp2_with fail
      go_ret
      exact ⟨_, g, rfl, HM.out, HB.out⟩
end Go.Proofs.YtcjhenfofekofaaGreatDoor
end

section
/-
  Plain mathematics of turned tables: a cell changed, all cells written one by one, how long the text is.
-/
namespace Go.Proofs.YtcjhenfofekofaaGreatDoor
open Go.RowKit
open Go.TextMath (tvB text word sumN sumN_swap sumN_congr text_len)

theorem snoc_ind {α : Type} {P : List α → Prop} (h0 : P []) (hs : ∀ l a, P l → P (l ++ [a])) (l : List α) : P l := by
  have key : ∀ r : List α, P r.reverse := fun r => by
    induction r with
    | nil => exact h0
    | cons a r ih => rw [List.reverse_cons]; exact hs _ _ ih
  have := key l.reverse
  rwa [List.reverse_reverse] at this

def cellT (T : List (List Int)) (i j : Nat) : Int := (T.getD i []).getD j 0
/-- A cell changed. -/
def putC {α : Type} (U : List (List α)) (a b : Nat) (x : α) : List (List α) := U.set a ((U.getD a []).set b x)
theorem putC_len {α : Type} (U : List (List α)) (a b : Nat) (x : α) : (putC U a b x).length = U.length := by simp [putC]
theorem putC_row {α : Type} (U : List (List α)) (a b k : Nat) (x : α) (ha : a < U.length) : ((putC U a b x).getD k []).length = (U.getD k []).length := by
  unfold putC
  rw [getD_set U a k _ _ ha]
  by_cases e : k = a
  · rw [if_pos e, List.length_set, e]
  · rw [if_neg e]
theorem putC_at {α : Type} (U : List (List α)) {a b : Nat} (k l : Nat) (x d : α) (ha : a < U.length) (hb : b < (U.getD a []).length) : ((putC U a b x).getD k []).getD l d = if k = a ∧ l = b then x else (U.getD k []).getD l d := by
  unfold putC
  rw [getD_set U a k _ _ ha]
  by_cases e : k = a
  · rw [if_pos e, getD_set _ b l _ _ hb]
    by_cases e2 : l = b
    · rw [if_pos e2, if_pos ⟨e, e2⟩]
    · rw [if_neg e2, if_neg (fun h => e2 h.2), e]
  · rw [if_neg e, if_neg (fun h => e h.1)]

/-- The turned table when some cells have been written. -/
def turnS (T : List (List Int)) (h w : Nat) (pre : List (Nat × Nat)) : List (List Int) := pre.foldl (fun U x => putC U x.2 x.1 (cellT T x.1 x.2)) (blank w h)
theorem turnS_nil (T : List (List Int)) (h w : Nat) : turnS T h w [] = blank w h := rfl
theorem turnS_snoc (T : List (List Int)) (h w : Nat) (pre : List (Nat × Nat)) (x : Nat × Nat) : turnS T h w (pre ++ [x]) = putC (turnS T h w pre) x.2 x.1 (cellT T x.1 x.2) := by
  unfold turnS
  rw [List.foldl_append]
  rfl
theorem turnS_len (T : List (List Int)) (h w : Nat) (pre : List (Nat × Nat)) : (turnS T h w pre).length = w := by
  induction pre using snoc_ind with
  | h0 => exact blank_len w h
  | hs l a ih => rw [turnS_snoc, putC_len]; exact ih
theorem turnS_row (T : List (List Int)) (h w : Nat) (pre : List (Nat × Nat)) (hp : ∀ x ∈ pre, x.1 < h ∧ x.2 < w) : ∀ k, k < w → ((turnS T h w pre).getD k []).length = h := by
  induction pre using snoc_ind with
  | h0 => exact fun k hk => blank_row hk
  | hs l a ih =>
    intro k hk
    rw [turnS_snoc, putC_row _ _ _ _ _ (by rw [turnS_len]; exact (hp a (by simp)).2)]
    exact ih (fun x hx => hp x (by simp [hx])) k hk
theorem blank_cell (h w : Nat) {k l : Nat} (hk : k < w) : ((blank w h).getD k []).getD l 0 = 0 := by
  have : (blank w h).getD k [] = List.replicate h 0 := by simp [blank, List.getD_eq_getElem?_getD, List.getElem?_replicate, hk]
  rw [this]
  simp only [List.getD_eq_getElem?_getD, List.getElem?_replicate]
  by_cases hl : l < h
  · rw [if_pos hl]; rfl
  · rw [if_neg hl]; rfl
theorem turnS_at (T : List (List Int)) (h w : Nat) (pre : List (Nat × Nat)) (hp : ∀ x ∈ pre, x.1 < h ∧ x.2 < w) {k l : Nat} (hk : k < w) : cellT (turnS T h w pre) k l = if (l, k) ∈ pre then cellT T l k else 0 := by
  induction pre using snoc_ind with
  | h0 => rw [if_neg (by simp)]; exact blank_cell h w hk
  | hs q a ih =>
    have ha := hp a (by simp)
    have hq : ∀ x ∈ q, x.1 < h ∧ x.2 < w := fun x hx => hp x (by simp [hx])
    rw [turnS_snoc]
    unfold cellT at ih ⊢
    rw [putC_at _ k l _ _ (by rw [turnS_len]; exact ha.2) (by rw [turnS_row T h w q hq _ ha.2]; exact ha.1)]
    by_cases e : k = a.2 ∧ l = a.1
    · rw [if_pos e, if_pos (by obtain ⟨rfl, rfl⟩ := e; simp), e.1, e.2]
    · rw [if_neg e, ih hq]
      have : ((l, k) ∈ q ++ [a]) ↔ (l, k) ∈ q := by
        rw [List.mem_append, List.mem_singleton]
        refine ⟨fun h => h.elim id fun h => ?_, .inl⟩
        exact absurd ⟨by rw [← h], by rw [← h]⟩ e
      by_cases hm : (l, k) ∈ q
      · rw [if_pos hm, if_pos (this.2 hm)]
      · rw [if_neg hm, if_neg (fun h => hm (this.1 h))]
end Go.Proofs.YtcjhenfofekofaaGreatDoor
end

section
/-
  Plain mathematics: the table of people, small cells' mask, people without one, people chosen, groups, rounded tables.
-/
namespace Go.Proofs.YtcjhenfofekofaaGreatDoor
open Go.RowKit
open Go.TextMath (tvB mvB text word)

/-- One more in a cell. -/
def incC (T : List (List Int)) (a b : Nat) : List (List Int) := putC T a b (cellT T a b + 1)
/-- The table of people. -/
def tabO (L : List Per) : List (List Int) := L.foldl (fun T p => incC T p.area.toNat p.job.toNat) (blank 4 4)
theorem tabO_nil : tabO [] = blank 4 4 := rfl
theorem tabO_snoc (L : List Per) (p : Per) : tabO (L ++ [p]) = incC (tabO L) p.area.toNat p.job.toNat := by
  unfold tabO
  rw [List.foldl_append]
  rfl
theorem tabO_len (L : List Per) : (tabO L).length = 4 := by
  induction L using snoc_ind with
  | h0 => exact blank_len 4 4
  | hs l a ih => rw [tabO_snoc]; unfold incC; rw [putC_len]; exact ih
theorem tabO_row (L : List Per) (hL : ∀ p ∈ L, PerOk p) : ∀ k, k < 4 → ((tabO L).getD k []).length = 4 := by
  induction L using snoc_ind with
  | h0 => exact fun k hk => blank_row hk
  | hs l a ih =>
    intro k hk
    have ha := hL a (by simp)
    unfold PerOk at ha
    rw [tabO_snoc]
    unfold incC
    rw [putC_row _ _ _ _ _ (by rw [tabO_len]; omega)]
    exact ih (fun x hx => hL x (by simp [hx])) k hk
theorem tabO_cell (L : List Per) (hL : ∀ p ∈ L, PerOk p) : ∀ k l, k < 4 → l < 4 → 0 ≤ cellT (tabO L) k l ∧ cellT (tabO L) k l ≤ L.length := by
  induction L using snoc_ind with
  | h0 =>
    intro k l hk hl
    have : cellT (tabO []) k l = 0 := by rw [tabO_nil]; exact blank_cell 4 4 hk
    rw [this]
    exact ⟨by omega, by omega⟩
  | hs l a ih =>
    intro k l' hk hl
    have ih' := ih (fun x hx => hL x (by simp [hx])) 
    have ha := hL a (by simp)
    unfold PerOk at ha
    have e : cellT (tabO (l ++ [a])) k l' = if k = a.area.toNat ∧ l' = a.job.toNat then cellT (tabO l) a.area.toNat a.job.toNat + 1 else cellT (tabO l) k l' := by
      rw [tabO_snoc]
      unfold incC
      show ((putC _ _ _ _).getD k []).getD l' 0 = _
      rw [putC_at (tabO l) k l' _ 0 (by rw [tabO_len]; omega) (by rw [tabO_row l (fun x hx => hL x (by simp [hx])) _ (by omega)]; omega)]
      rfl
    rw [e, List.length_append, List.length_singleton]
    split
    · have := ih' a.area.toNat a.job.toNat (by omega) (by omega)
      omega
    · have := ih' k l' hk hl
      omega
theorem ppl_all {L : List Per} (h : pplB L = true) : ∀ p ∈ L, PerOk p := fun p hp => by
  obtain ⟨i, hi, rfl⟩ := List.mem_iff_getElem.1 hp
  have := (ppl_t.1 h).2 i hi
  rwa [List.getD_eq_getElem?_getD, List.getElem?_eq_getElem hi, Option.getD_some] at this
theorem tabO_tv {L : List Per} (h : pplB L = true) : tvB (tabO L) = true := by
  have h40 := (ppl_t.1 h).1
  have hr := tabO_row L (ppl_all h)
  refine tv_t.2 ⟨by rw [tabO_len]; omega, by rw [tabO_len]; omega, by rw [hr 0 (by omega)]; omega, by rw [hr 0 (by omega)]; omega, fun i hi => ?_⟩
  rw [tabO_len] at hi
  rw [hr 0 (by omega)]
  refine ⟨hr i hi, fun j hj => ?_⟩
  rw [hr i hi] at hj
  have := tabO_cell L (ppl_all h) i j hi hj
  unfold cellT at this
  exact ⟨this.1, by omega⟩

/-- The mask of small cells. -/
def smallR (r : List Int) (k : Int) : List Bool := r.map fun n => decide (0 < n ∧ n < k)
def maskS (T : List (List Int)) (k : Int) : List (List Bool) := T.map fun r => smallR r k
theorem maskS_len (T : List (List Int)) (k : Int) : (maskS T k).length = T.length := List.length_map _
theorem maskS_at {T : List (List Int)} {k : Int} {i : Nat} (hi : i < T.length) : (maskS T k).getD i [] = smallR (T.getD i []) k := by
  simp [maskS, List.getD_eq_getElem?_getD, List.getElem?_eq_getElem hi]
theorem smallR_len (r : List Int) (k : Int) : (smallR r k).length = r.length := List.length_map _
theorem smallR_at {r : List Int} {k : Int} {j : Nat} (hj : j < r.length) : (smallR r k).getD j false = decide (0 < r.getD j 0 ∧ r.getD j 0 < k) := by
  simp [smallR, List.getD_eq_getElem?_getD, List.getElem?_eq_getElem hj]
theorem maskS_mv {T : List (List Int)} (k : Int) (h : tvB T = true) : mvB T (maskS T k) = true := by
  refine mv_t.2 ⟨h, maskS_len T k, fun i hi => ?_⟩
  rw [maskS_len] at hi
  rw [maskS_at hi, smallR_len, ((tv_t.1 h).2.2.2.2 i hi).1]

/-- People without one. -/
def without (L : List Per) (k : Nat) : List Per := L.take k ++ L.drop (k + 1)
theorem without_len {L : List Per} {k : Nat} (h : k < L.length) : (without L k).length + 1 = L.length := by
  simp [without]
  omega
theorem without_mem {L : List Per} {k : Nat} {p : Per} (h : p ∈ without L k) : p ∈ L := by
  unfold without at h
  rcases List.mem_append.1 h with h | h
  · exact List.mem_of_mem_take h
  · exact List.mem_of_mem_drop h
theorem ppl_of {L : List Per} (h1 : L.length ≤ 40) (h2 : ∀ p ∈ L, PerOk p) : pplB L = true := ppl_t.2 ⟨h1, fun i hi => by
  rw [List.getD_eq_getElem?_getD, List.getElem?_eq_getElem hi, Option.getD_some]
  exact h2 _ (List.getElem_mem hi)⟩
theorem without_ok {L : List Per} {k : Nat} (h : pplB L = true) (hk : k < L.length) : pplB (without L k) = true :=
  ppl_of (by have := without_len hk; have := (ppl_t.1 h).1; omega) fun p hp => ppl_all h p (without_mem hp)

/-- People chosen by codes; -1 stands for any. -/
def askB (a j s : Int) : Bool := decide ((a = -1 ∨ (0 ≤ a ∧ a ≤ 3)) ∧ (j = -1 ∨ (0 ≤ j ∧ j ≤ 3)) ∧ (s = -1 ∨ (0 ≤ s ∧ s ≤ 1)))
def isP (a j s : Int) (p : Per) : Bool := decide ((a = -1 ∨ p.area = a) ∧ (j = -1 ∨ p.job = j) ∧ (s = -1 ∨ p.sex = s))
def pays (L : List Per) : Int := L.foldl (fun x p => x + p.pay) 0
theorem pays_snoc (L : List Per) (p : Per) : pays (L ++ [p]) = pays L + p.pay := by
  unfold pays
  rw [List.foldl_append]
  rfl
theorem pays_le (L : List Per) (h : ∀ p ∈ L, PerOk p) : 0 ≤ pays L ∧ pays L ≤ 999 * L.length := by
  induction L using snoc_ind with
  | h0 => exact ⟨by decide, by decide⟩
  | hs l a ih =>
    have := ih fun x hx => h x (by simp [hx])
    have ha := h a (by simp)
    unfold PerOk at ha
    rw [pays_snoc, List.length_append, List.length_singleton]
    omega
def manyP (L : List Per) (a j s : Int) : Int := if pplB L && askB a j s then (L.filter (isP a j s)).length else -1
def payP (L : List Per) (a j s : Int) : Int := if pplB L && askB a j s then pays (L.filter (isP a j s)) else -1

/-- Rounded numbers. -/
def baseB (b : Int) : Bool := decide (2 ≤ b ∧ b ≤ 20)
def near (x b : Int) : Int := if b ≤ 2 * (x % b) then x - x % b + b else x - x % b
def nearT (T : List (List Int)) (b : Int) : List (List Int) := T.map fun r => r.map fun x => near x b
theorem nearT_len (T : List (List Int)) (b : Int) : (nearT T b).length = T.length := List.length_map _
theorem nearT_row {T : List (List Int)} {b : Int} {i : Nat} (hi : i < T.length) : (nearT T b).getD i [] = (T.getD i []).map fun x => near x b := by
  simp [nearT, List.getD_eq_getElem?_getD, List.getElem?_eq_getElem hi]
theorem near_le {x b : Int} (h0 : 0 ≤ x) (hb : 2 ≤ b) : 0 ≤ near x b ∧ near x b ≤ x + b := by
  have h1 := Int.emod_nonneg x (b := b) (by omega)
  have h2 := Int.emod_lt_of_pos x (b := b) (by omega)
  have h3 : x % b ≤ x := by
    have := Int.emod_add_mul_ediv x b
    have h4 : 0 ≤ b * (x / b) := Int.mul_nonneg (by omega) (Int.ediv_nonneg h0 (by omega))
    omega
  unfold near
  split <;> omega

/-- Groups: people alike but for the pay. -/
def sameG (p q : Per) : Bool := decide (p.area = q.area ∧ p.job = q.job ∧ p.sex = q.sex)
def sizeG (L : List Per) (p : Per) : Nat := L.countP (sameG p)
def leastG (L : List Per) : Int := L.foldl (fun (x : Int) p => min x (sizeG L p)) L.length
/-- How many groups: people of whose group nobody stood before. -/
def manyG (L : List Per) : Nat := (List.range L.length).countP fun k => !((L.take k).any (sameG (L.getD k per0)))
def aloneG (L : List Per) : Nat := L.countP fun p => sizeG L p == 1
theorem manyG_snoc (L : List Per) (p : Per) : manyG (L ++ [p]) = manyG L + if L.any (sameG p) then 0 else 1 := by
  unfold manyG
  rw [List.length_append, List.length_singleton, List.range_succ, List.countP_append]
  congr 1
  · apply List.countP_congr
    intro k hk
    have hk := List.mem_range.1 hk
    have e1 : (L ++ [p]).take k = L.take k := by rw [List.take_append_of_le_length (by omega)]
    have e2 : (L ++ [p]).getD k per0 = L.getD k per0 := by simp only [List.getD_eq_getElem?_getD]; rw [List.getElem?_append_left hk]
    rw [e1, e2]
  · have e1 : (L ++ [p]).take L.length = L := by simp
    have e2 : (L ++ [p]).getD L.length per0 = p := by simp [List.getD_eq_getElem?_getD]
    rw [List.countP_singleton, e1, e2]
    cases L.any (sameG p) <;> rfl
theorem fold_min {α : Type} (f : α → Int) : ∀ (l : List α) (a : Int), (l.foldl (fun x p => min x (f p)) a ≤ a ∧ ∀ p ∈ l, l.foldl (fun x p => min x (f p)) a ≤ f p) ∧ (l.foldl (fun x p => min x (f p)) a = a ∨ ∃ p ∈ l, l.foldl (fun x p => min x (f p)) a = f p)
  | [], a => ⟨⟨Int.le_refl _, fun p hp => by simp at hp⟩, .inl rfl⟩
  | q :: l, a => by
    obtain ⟨⟨h1, h2⟩, h3⟩ := fold_min f l (min a (f q))
    rw [List.foldl_cons]
    refine ⟨⟨by omega, fun p hp => ?_⟩, ?_⟩
    · rcases List.mem_cons.1 hp with rfl | hp
      · omega
      · exact h2 p hp
    · rcases h3 with h3 | ⟨p, hp, h3⟩
      · rw [h3]
        rcases Int.le_total a (f q) with h | h
        · left; omega
        · right; exact ⟨q, by simp, by omega⟩
      · right; exact ⟨p, by simp [hp], h3⟩
theorem leastG_of {L : List Per} {v : Int} (h1 : v ≤ L.length) (h2 : ∀ p ∈ L, v ≤ sizeG L p) (h3 : v = L.length ∨ ∃ p ∈ L, v = sizeG L p) : leastG L = v := by
  obtain ⟨⟨k1, k2⟩, k3⟩ := fold_min (fun p => (sizeG L p : Int)) L L.length
  show L.foldl _ _ = v
  rcases k3 with k3 | ⟨p, hp, k3⟩
  · rw [k3]
    rcases h3 with h3 | ⟨p, hp, h3⟩
    · exact h3.symm
    · have := k2 p hp; rw [k3] at this; omega
  · rw [k3]
    have := h2 p hp
    rcases h3 with h3 | ⟨q, hq, h3⟩
    · omega
    · have := k2 q hq; rw [k3] at this; omega
theorem sameG_refl (p : Per) : sameG p p = true := by simp [sameG]
theorem sizeG_pos {L : List Per} {p : Per} (h : p ∈ L) : 1 ≤ sizeG L p := List.countP_pos_iff.2 ⟨p, h, sameG_refl p⟩
theorem sizeG_le (L : List Per) (p : Per) : sizeG L p ≤ L.length := List.countP_le_length
theorem sizeG_snoc (L : List Per) (q p : Per) : sizeG (L ++ [q]) p = sizeG L p + if sameG p q then 1 else 0 := by
  unfold sizeG
  rw [List.countP_append, List.countP_singleton]
theorem kept_alone (L : List Per) : ((L.filter fun p => decide (2 ≤ sizeG L p)).length : Int) + (aloneG L : Int) = L.length := by
  unfold aloneG
  have key : ∀ M : List Per, (∀ p ∈ M, p ∈ L) → (M.filter fun p => decide (2 ≤ sizeG L p)).length + M.countP (fun p => sizeG L p == 1) = M.length := by
    intro M
    induction M with
    | nil => intro _; rfl
    | cons q M ih =>
      intro h
      have := ih fun p hp => h p (by simp [hp])
      have hq := sizeG_pos (h q (by simp))
      rw [List.filter_cons, List.countP_cons, List.length_cons]
      by_cases e : sizeG L q = 1
      · simp [e]; omega
      · have e2 : 2 ≤ sizeG L q := by omega
        simp [e, e2]; omega
  have := key L fun p hp => hp
  omega
end Go.Proofs.YtcjhenfofekofaaGreatDoor
end

section

/-
  Plain mathematics of hidden cells: tables with the same sums, paths of steps between rows and columns, and why no path means an extreme cell.
-/
namespace Go.FlowMath

/-- A sum of n numbers. -/
def sumI : Nat → (Nat → Int) → Int
  | 0, _ => 0
  | n + 1, f => sumI n f + f n

theorem sumI_congr {n : Nat} {f g : Nat → Int} (h : ∀ k, k < n → f k = g k) : sumI n f = sumI n g := by
  induction n with
  | zero => rfl
  | succ n ih => unfold sumI; rw [ih fun k hk => h k (by omega), h n (by omega)]
theorem sumI_add (n : Nat) (f g : Nat → Int) : sumI n (fun k => f k + g k) = sumI n f + sumI n g := by
  induction n with
  | zero => rfl
  | succ n ih => unfold sumI; rw [ih]; show _ + (f n + g n) = _; omega
theorem sumI_sub (n : Nat) (f g : Nat → Int) : sumI n (fun k => f k - g k) = sumI n f - sumI n g := by
  induction n with
  | zero => rfl
  | succ n ih => unfold sumI; rw [ih]; show _ + (f n - g n) = _; omega
theorem sumI_mul (n : Nat) (a : Int) (f : Nat → Int) : sumI n (fun k => a * f k) = a * sumI n f := by
  induction n with
  | zero => simp [sumI]
  | succ n ih => unfold sumI; rw [ih, Int.mul_add]
theorem sumI_zero (n : Nat) : sumI n (fun _ => 0) = 0 := by
  induction n with
  | zero => rfl
  | succ n ih => unfold sumI; rw [ih]; rfl
theorem sumI_swap (m n : Nat) (f : Nat → Nat → Int) : sumI m (fun k => sumI n (fun l => f k l)) = sumI n (fun l => sumI m (fun k => f k l)) := by
  induction m with
  | zero => simp [sumI, sumI_zero]
  | succ m ih =>
    show sumI m _ + sumI n (fun l => f m l) = _
    rw [ih, ← sumI_add]
    rfl
theorem sumI_le {n : Nat} {f : Nat → Int} (h : ∀ k, k < n → f k ≤ 0) : sumI n f ≤ 0 := by
  induction n with
  | zero => exact Int.le_refl _
  | succ n ih => unfold sumI; have := ih fun k hk => h k (by omega); have := h n (by omega); omega
theorem sumI_nonneg {n : Nat} {f : Nat → Int} (h : ∀ k, k < n → 0 ≤ f k) : 0 ≤ sumI n f := by
  induction n with
  | zero => exact Int.le_refl _
  | succ n ih => unfold sumI; have := ih fun k hk => h k (by omega); have := h n (by omega); omega
theorem sumI_mono {n : Nat} {f g : Nat → Int} (h : ∀ k, k < n → f k ≤ g k) : sumI n f ≤ sumI n g := by
  induction n with
  | zero => exact Int.le_refl _
  | succ n ih => unfold sumI; have := ih fun k hk => h k (by omega); have := h n (by omega); omega
theorem sumI_const (n : Nat) (a : Int) : sumI n (fun _ => a) = n * a := by
  induction n with
  | zero => simp [sumI]
  | succ n ih => unfold sumI; rw [ih, Int.natCast_succ, Int.add_mul, Int.one_mul]
/-- One number alone is not negative .. -/
theorem sumI_one {n : Nat} {f : Nat → Int} {a : Nat} (ha : a < n) (h : ∀ k, k < n → k ≠ a → f k ≤ 0) : sumI n f ≤ f a := by
  induction n with
  | zero => omega
  | succ n ih =>
    unfold sumI
    by_cases e : a = n
    · subst e
      have := sumI_le (n := a) (f := f) fun k hk => h k (by omega) (by omega)
      omega
    · have := ih (by omega) fun k hk hne => h k (by omega) hne
      have := h n (by omega) (fun e' => e e'.symm)
      omega
/-- .. one number is at most the sum. -/
theorem sumI_ge {n : Nat} {f : Nat → Int} {a : Nat} (ha : a < n) (h : ∀ k, k < n → k ≠ a → 0 ≤ f k) : f a ≤ sumI n f := by
  induction n with
  | zero => omega
  | succ n ih =>
    unfold sumI
    by_cases e : a = n
    · subst e
      have := sumI_nonneg (n := a) (f := f) fun k hk => h k (by omega) (by omega)
      omega
    · have := ih (by omega) fun k hk hne => h k (by omega) hne
      have := h n (by omega) (fun e' => e e'.symm)
      omega
theorem sumI_upd (n : Nat) (f : Nat → Int) (a : Nat) (d : Int) : sumI n (fun k => if k = a then f k + d else f k) = sumI n f + if a < n then d else 0 := by
  induction n with
  | zero => simp [sumI]
  | succ n ih =>
    show sumI n _ + (if n = a then f n + d else f n) = sumI n f + f n + _
    rw [ih]
    by_cases e : a = n
    · subst e
      rw [if_neg (Nat.lt_irrefl _), if_pos rfl, if_pos (Nat.lt_succ_self _)]
      omega
    · have : ¬ n = a := fun h => e h.symm
      by_cases h : a < n
      · rw [if_pos h, if_neg this, if_pos (by omega)]; omega
      · rw [if_neg h, if_neg this, if_neg (by omega)]; omega

/-- A cell changed. -/
def upd (x : Nat → Nat → Int) (a b : Nat) (d : Int) : Nat → Nat → Int := fun k l => if k = a ∧ l = b then x k l + d else x k l
theorem upd_same (x : Nat → Nat → Int) (a b : Nat) (d : Int) : upd x a b d a b = x a b + d := by unfold upd; rw [if_pos ⟨rfl, rfl⟩]
theorem upd_other {x : Nat → Nat → Int} {a b k l : Nat} {d : Int} (h : ¬ (k = a ∧ l = b)) : upd x a b d k l = x k l := by unfold upd; rw [if_neg h]
def rowS (w : Nat) (x : Nat → Nat → Int) (k : Nat) : Int := sumI w (fun l => x k l)
def colS (h : Nat) (x : Nat → Nat → Int) (l : Nat) : Int := sumI h (fun k => x k l)
theorem rowS_upd {w : Nat} {x : Nat → Nat → Int} {a b : Nat} {d : Int} (hb : b < w) (k : Nat) : rowS w (upd x a b d) k = rowS w x k + if k = a then d else 0 := by
  unfold rowS
  by_cases e : k = a
  · subst e
    rw [if_pos rfl]
    have := sumI_upd w (fun l => x k l) b d
    rw [if_pos hb] at this
    rw [← this]
    refine sumI_congr fun l _ => ?_
    unfold upd
    by_cases e : l = b
    · rw [if_pos ⟨rfl, e⟩, if_pos e]
    · rw [if_neg (fun h => e h.2), if_neg e]
  · rw [if_neg e, Int.add_zero]
    exact sumI_congr fun l _ => upd_other fun h => e h.1
theorem colS_upd {h : Nat} {x : Nat → Nat → Int} {a b : Nat} {d : Int} (ha : a < h) (l : Nat) : colS h (upd x a b d) l = colS h x l + if l = b then d else 0 := by
  unfold colS
  by_cases e : l = b
  · subst e
    rw [if_pos rfl]
    have := sumI_upd h (fun k => x k l) a d
    rw [if_pos ha] at this
    rw [← this]
    refine sumI_congr fun k _ => ?_
    unfold upd
    by_cases e : k = a
    · rw [if_pos ⟨e, rfl⟩, if_pos e]
    · rw [if_neg (fun h => e h.1), if_neg e]
  · rw [if_neg e, Int.add_zero]
    exact sumI_congr fun k _ => upd_other fun h => e h.2

/-- The sign of a raise. -/
def sg (raise : Bool) : Int := if raise then 1 else -1

section
variable (h w i j : Nat) (m : Nat → Nat → Bool) (t : Nat → Nat → Int)

/-- A table with the same sums, alike where nothing is hidden; the cell (i, j) itself may be negative. -/
structure Legal (x : Nat → Nat → Int) : Prop where
  off : ∀ k, k < h → ∀ l, l < w → m k l = false → x k l = t k l
  nn : ∀ k, k < h → ∀ l, l < w → ¬ (k = i ∧ l = j) → 0 ≤ x k l
  row : ∀ k, k < h → rowS w x k = rowS w t k
  col : ∀ l, l < w → colS h x l = colS h t l

/-- A step between two places: a row k is the place k, a column l is the place h + l. -/
def Edge (raise : Bool) (x : Nat → Nat → Int) (u v : Nat) : Prop :=
  (u < h ∧ h ≤ v ∧ v < h + w ∧ ¬ (u = i ∧ v = h + j) ∧ m u (v - h) = true ∧ (raise = true → 0 < x u (v - h))) ∨
  (h ≤ u ∧ u < h + w ∧ v < h ∧ ¬ (v = i ∧ u = h + j) ∧ m v (u - h) = true ∧ (raise = false → 0 < x v (u - h)))

variable {h w i j m t}

/-- Places from which no step leads out, without the cell's own: the cell is extreme. -/
theorem cut {raise : Bool} {x : Nat → Nat → Int} (hx : Legal h w i j m t x) (hi : i < h) (hj : j < w) (S : Nat → Bool) (h1 : S i = true) (h2 : S (h + j) = false)
    (hc : ∀ u v, u < h + w → v < h + w → S u = true → S v = false → ¬ Edge h w i j m raise x u v) {y : Nat → Nat → Int} (hy : Legal h w i j m t y) : sg raise * y i j ≤ sg raise * x i j := by
  let a : Nat → Int := fun k => if S k then 1 else 0
  let f : Nat → Nat → Int := fun k l => sg raise * ((a k - a (h + l)) * (x k l - y k l))
  have e1 : sumI h (fun k => sumI w (fun l => a k * (x k l - y k l))) = 0 := by
    have : ∀ k, k < h → sumI w (fun l => a k * (x k l - y k l)) = 0 := fun k hk => by
      rw [sumI_mul, sumI_sub]
      have r1 := hx.row k hk
      have r2 := hy.row k hk
      unfold rowS at r1 r2
      rw [r1, r2, Int.sub_self, Int.mul_zero]
    rw [sumI_congr this, sumI_zero]
  have e2 : sumI h (fun k => sumI w (fun l => a (h + l) * (x k l - y k l))) = 0 := by
    rw [sumI_swap]
    have : ∀ l, l < w → sumI h (fun k => a (h + l) * (x k l - y k l)) = 0 := fun l hl => by
      rw [sumI_mul, sumI_sub]
      have r1 := hx.col l hl
      have r2 := hy.col l hl
      unfold colS at r1 r2
      rw [r1, r2, Int.sub_self, Int.mul_zero]
    rw [sumI_congr this, sumI_zero]
  have e3 : sumI h (fun k => sumI w (fun l => f k l)) = 0 := by
    have : ∀ k, k < h → sumI w (fun l => f k l) = sg raise * (sumI w (fun l => a k * (x k l - y k l)) - sumI w (fun l => a (h + l) * (x k l - y k l))) := fun k _ => by
      rw [← sumI_sub, ← sumI_mul]
      refine sumI_congr fun l _ => ?_
      show sg raise * ((a k - a (h + l)) * (x k l - y k l)) = _
      rw [Int.sub_mul]
    rw [sumI_congr this, sumI_mul, sumI_sub, e1, e2]
    simp
  have e4 : ∀ k, k < h → ∀ l, l < w → ¬ (k = i ∧ l = j) → f k l ≤ 0 := by
    intro k hk l hl hne
    show sg raise * ((a k - a (h + l)) * (x k l - y k l)) ≤ 0
    have hx0 := hx.nn k hk l hl hne
    have hy0 := hy.nn k hk l hl hne
    have ho : m k l = false → x k l = y k l := fun hm => by rw [hx.off k hk l hl hm, hy.off k hk l hl hm]
    have hkr : h + l - h = l := by omega
    cases s1 : S k <;> cases s2 : S (h + l)
    · simp [a, s1, s2]
    · have he := hc (h + l) k (by omega) (by omega) s2 s1
      have ea : a k - a (h + l) = -1 := by simp [a, s1, s2]
      rw [ea]
      cases hm : m k l with
      | false => rw [ho hm]; simp
      | true =>
        cases raise with
        | true =>
          exact absurd (.inr ⟨by omega, by omega, hk, fun e => hne ⟨e.1, by omega⟩, by rw [hkr]; exact hm, fun e => by cases e⟩) he
        | false =>
          have : ¬ 0 < x k l := fun hp => he (.inr ⟨by omega, by omega, hk, fun e => hne ⟨e.1, by omega⟩, by rw [hkr]; exact hm, fun _ => by rw [hkr]; exact hp⟩)
          simp [sg]
          omega
    · have he := hc k (h + l) (by omega) (by omega) s1 s2
      have ea : a k - a (h + l) = 1 := by simp [a, s1, s2]
      rw [ea]
      cases hm : m k l with
      | false => rw [ho hm]; simp
      | true =>
        cases raise with
        | false =>
          exact absurd (.inl ⟨hk, by omega, by omega, fun e => hne ⟨e.1, by omega⟩, by rw [hkr]; exact hm, fun e => by cases e⟩) he
        | true =>
          have : ¬ 0 < x k l := fun hp => he (.inl ⟨hk, by omega, by omega, fun e => hne ⟨e.1, by omega⟩, by rw [hkr]; exact hm, fun _ => by rw [hkr]; exact hp⟩)
          simp [sg]
          omega
    · simp [a, s1, s2]
  have e5 : f i j = sg raise * (x i j - y i j) := by
    show sg raise * ((a i - a (h + j)) * (x i j - y i j)) = _
    simp [a, h1, h2]
  have e6 : sumI h (fun k => sumI w (fun l => f k l)) ≤ sumI w (fun l => f i l) :=
    sumI_one hi fun k hk hne => sumI_le fun l hl => e4 k hk l hl fun e => hne e.1
  have e7 : sumI w (fun l => f i l) ≤ f i j := sumI_one (f := fun l => f i l) hj fun l hl hne => e4 i hi l hl fun e => hne e.2
  rw [Int.mul_sub] at e5
  omega

/-- Half-way through a path of steps, back from the column j: the sums' faults. -/
structure Half (raise : Bool) (d : Int) (x0 : Nat → Nat → Int) (rank : Nat → Nat) (at_ : Nat) (x : Nat → Nat → Int) : Prop where
  off : ∀ k, k < h → ∀ l, l < w → m k l = false → x k l = t k l
  nn : ∀ k, k < h → ∀ l, l < w → ¬ (k = i ∧ l = j) → 0 ≤ x k l
  row : ∀ k, k < h → rowS w x k = rowS w t k + (if k = i then sg raise * d else 0) - (if k = at_ then sg raise * d else 0)
  col : ∀ l, l < w → colS h x l = colS h t l + (if h + l = at_ then sg raise * d else 0)
  own : x i j = x0 i j + sg raise * d
  old : ∀ k, k < h → ∀ l, l < w → ¬ (k = i ∧ l = j) → rank k ≤ rank at_ → rank (h + l) ≤ rank at_ → x k l = x0 k l

theorem Half.start {raise : Bool} {d : Int} {x0 : Nat → Nat → Int} {rank : Nat → Nat} (hx : Legal h w i j m t x0) (hi : i < h) (hj : j < w) (hm : m i j = true) :
    Half (h := h) (w := w) (i := i) (j := j) (m := m) (t := t) raise d x0 rank (h + j) (upd x0 i j (sg raise * d)) where
  off := fun k hk l hl hf => by
    rw [upd_other (fun e => by rw [e.1, e.2, hm] at hf; cases hf)]
    exact hx.off k hk l hl hf
  nn := fun k hk l hl hne => by rw [upd_other hne]; exact hx.nn k hk l hl hne
  row := fun k hk => by
    rw [rowS_upd hj, hx.row k hk, if_neg (show ¬ k = h + j by omega)]
    omega
  col := fun l hl => by
    rw [colS_upd hi, hx.col l hl]
    by_cases e : l = j
    · rw [if_pos e, if_pos (by omega)]
    · rw [if_neg e, if_neg (by omega)]
  own := upd_same _ _ _ _
  old := fun k hk l hl hne _ _ => upd_other hne

/-- A step from a row p to the column at_. -/
theorem Half.row_step {raise : Bool} {d : Int} {x0 x : Nat → Nat → Int} {rank : Nat → Nat} {p l : Nat} (hx : Half (h := h) (w := w) (i := i) (j := j) (m := m) (t := t) raise d x0 rank (h + l) x)
    (hd : 0 ≤ d) (hp : p < h) (hl : l < w) (hr : rank p < rank (h + l)) (hm : m p l = true) (hne : ¬ (p = i ∧ l = j)) (hroom : raise = true → d ≤ x0 p l) :
    Half (h := h) (w := w) (i := i) (j := j) (m := m) (t := t) raise d x0 rank p (upd x p l (-(sg raise * d))) where
  off := fun k hk b hb hf => by
    rw [upd_other (fun e => by rw [e.1, e.2, hm] at hf; cases hf)]
    exact hx.off k hk b hb hf
  nn := fun k hk b hb hn => by
    by_cases e : k = p ∧ b = l
    · obtain ⟨rfl, rfl⟩ := e
      rw [upd_same, hx.old k hk b hb hn (by omega) (Nat.le_refl _)]
      have h0 : 0 ≤ x0 k b := by rw [← hx.old k hk b hb hn (by omega) (Nat.le_refl _)]; exact hx.nn k hk b hb hn
      cases raise with
      | true => have := hroom rfl; simp [sg]; omega
      | false => simp [sg]; omega
    · rw [upd_other e]; exact hx.nn k hk b hb hn
  row := fun k hk => by
    rw [rowS_upd hl, hx.row k hk, if_neg (show ¬ k = h + l by omega)]
    by_cases e : k = p
    · rw [if_pos e, if_pos e]; omega
    · rw [if_neg e, if_neg e]; omega
  col := fun b hb => by
    rw [colS_upd hp, hx.col b hb, if_neg (show ¬ h + b = p by omega)]
    by_cases e : b = l
    · rw [if_pos e, if_pos (by omega)]; omega
    · rw [if_neg e, if_neg (by omega)]
      omega
  own := by
    rw [upd_other (fun e => hne ⟨e.1.symm, e.2.symm⟩)]
    exact hx.own
  old := fun k hk b hb hn h1 h2 => by
    rw [upd_other (fun e => by rw [e.2] at h2; omega)]
    exact hx.old k hk b hb hn (by omega) (by omega)

/-- A step from a column p to the row at_. -/
theorem Half.col_step {raise : Bool} {d : Int} {x0 x : Nat → Nat → Int} {rank : Nat → Nat} {k0 l : Nat} (hx : Half (h := h) (w := w) (i := i) (j := j) (m := m) (t := t) raise d x0 rank k0 x)
    (hd : 0 ≤ d) (hk0 : k0 < h) (hl : l < w) (hr : rank (h + l) < rank k0) (hm : m k0 l = true) (hne : ¬ (k0 = i ∧ l = j)) (hroom : raise = false → d ≤ x0 k0 l) :
    Half (h := h) (w := w) (i := i) (j := j) (m := m) (t := t) raise d x0 rank (h + l) (upd x k0 l (sg raise * d)) where
  off := fun k hk b hb hf => by
    rw [upd_other (fun e => by rw [e.1, e.2, hm] at hf; cases hf)]
    exact hx.off k hk b hb hf
  nn := fun k hk b hb hn => by
    by_cases e : k = k0 ∧ b = l
    · obtain ⟨rfl, rfl⟩ := e
      rw [upd_same, hx.old k hk b hb hn (Nat.le_refl _) (by omega)]
      have h0 : 0 ≤ x0 k b := by rw [← hx.old k hk b hb hn (Nat.le_refl _) (by omega)]; exact hx.nn k hk b hb hn
      cases raise with
      | true => simp [sg]; omega
      | false => have := hroom rfl; simp [sg]; omega
    · rw [upd_other e]; exact hx.nn k hk b hb hn
  row := fun k hk => by
    rw [rowS_upd hl, hx.row k hk, if_neg (show ¬ k = h + l by omega)]
    by_cases e : k = k0
    · rw [if_pos e]; omega
    · rw [if_neg e]; omega
  col := fun b hb => by
    rw [colS_upd hk0, hx.col b hb, if_neg (show ¬ h + b = k0 by omega)]
    by_cases e : b = l
    · rw [if_pos e, if_pos (by omega)]
      omega
    · rw [if_neg e, if_neg (by omega)]
      omega
  own := by
    rw [upd_other (fun e => hne ⟨e.1.symm, e.2.symm⟩)]
    exact hx.own
  old := fun k hk b hb hn h1 h2 => by
    rw [upd_other (fun e => by rw [e.1] at h1; omega)]
    exact hx.old k hk b hb hn (by omega) (by omega)

/-- A whole path. -/
theorem Half.done {raise : Bool} {d : Int} {x0 x : Nat → Nat → Int} {rank : Nat → Nat} (hx : Half (h := h) (w := w) (i := i) (j := j) (m := m) (t := t) raise d x0 rank i x) (hi : i < h) :
    Legal h w i j m t x ∧ x i j = x0 i j + sg raise * d := by
  refine ⟨⟨hx.off, hx.nn, fun k hk => ?_, fun l hl => ?_⟩, hx.own⟩
  · have := hx.row k hk
    omega
  · have := hx.col l hl
    rw [if_neg (by omega)] at this
    omega

theorem Legal.self (ht : ∀ k, k < h → ∀ l, l < w → 0 ≤ t k l) : Legal h w i j m t t := ⟨fun _ _ _ _ _ => rfl, fun k hk l hl _ => ht k hk l hl, fun _ _ => rfl, fun _ _ => rfl⟩

/-- The cell (i, j) is at most its row's sum; another cell is at most its row's sum, or its column's. -/
theorem Legal.le_row {x : Nat → Nat → Int} (hx : Legal h w i j m t x) (hi : i < h) (hj : j < w) : x i j ≤ rowS w t i := by
  rw [← hx.row i hi]
  exact sumI_ge (f := fun l => x i l) hj fun l hl hne => hx.nn i hi l hl fun e => hne e.2
theorem Legal.le_other {x : Nat → Nat → Int} (hx : Legal h w i j m t x) {k l : Nat} (hk : k < h) (hl : l < w) (hne : ¬ (k = i ∧ l = j)) : x k l ≤ rowS w t k ∨ x k l ≤ colS h t l := by
  by_cases e : k = i
  · right
    rw [← hx.col l hl]
    exact sumI_ge (f := fun k => x k l) hk fun k' hk' _ => hx.nn k' hk' l hl fun e' => hne ⟨e, e'.2⟩
  · left
    rw [← hx.row k hk]
    exact sumI_ge (f := fun l => x k l) hl fun l' hl' _ => hx.nn k hk l' hl' fun e' => e e'.1
theorem rowS_le {c : Int} (hc : ∀ k, k < h → ∀ l, l < w → t k l ≤ c) {k : Nat} (hk : k < h) : rowS w t k ≤ w * c := by
  rw [← sumI_const]
  exact sumI_mono fun l hl => hc k hk l hl
theorem colS_le {c : Int} (hc : ∀ k, k < h → ∀ l, l < w → t k l ≤ c) {l : Nat} (hl : l < w) : colS h t l ≤ h * c := by
  rw [← sumI_const]
  exact sumI_mono fun k hk => hc k hk l hl
theorem rowS_ge (ht : ∀ k, k < h → ∀ l, l < w → 0 ≤ t k l) {k : Nat} (hk : k < h) : 0 ≤ rowS w t k := sumI_nonneg fun l hl => ht k hk l hl
/-- The cell (i, j) is not very negative. -/
theorem Legal.ge_cell {x : Nat → Nat → Int} (hx : Legal h w i j m t x) (hi : i < h) (hj : j < w) {c : Int} (h0 : ∀ k, k < h → ∀ l, l < w → 0 ≤ t k l) (hc : ∀ k, k < h → ∀ l, l < w → t k l ≤ c) : -(w * (h * c)) ≤ x i j := by
  have h1 : rowS w t i ≤ x i j + w * (h * c) := by
    rw [← hx.row i hi, ← sumI_const]
    have e : rowS w x i - x i j ≤ sumI w (fun _ => (h : Int) * c) := by
      have hs : sumI w (fun l => if l = j then x i l + -(x i j) else x i l) = rowS w x i - x i j := by
        have := sumI_upd w (fun l => x i l) j (-(x i j))
        rw [if_pos hj] at this
        rw [this]
        rfl
      rw [← hs]
      refine sumI_mono fun l hl => ?_
      have hcl := colS_le (t := t) hc hl
      have h0c : 0 ≤ colS h t l := sumI_nonneg fun k hk => h0 k hk l hl
      by_cases e : l = j
      · rw [if_pos e, e]; rw [e] at hcl h0c; omega
      · rw [if_neg e]
        have : x i l ≤ colS h t l := by
          rw [← hx.col l hl]
          exact sumI_ge (f := fun k => x k l) hi fun k' hk' _ => hx.nn k' hk' l hl fun e' => e e'.2
        omega
    omega
  have := rowS_ge h0 hi
  omega

theorem int_max (P : Int → Prop) (B : Int) : ∀ (n : Nat) (v : Int), P v → (B - v).toNat ≤ n → (∀ u, P u → u ≤ B) → ∃ v, P v ∧ ∀ u, P u → u ≤ v := by
  intro n
  induction n with
  | zero => intro v hv hn hb; exact ⟨v, hv, fun u hu => by have := hb u hu; have := hb v hv; omega⟩
  | succ n ih =>
    intro v hv hn hb
    by_cases hm : ∃ u, P u ∧ v < u
    · obtain ⟨u, hu, hlt⟩ := hm
      exact ih u hu (by have := hb u hu; omega) hb
    · exact ⟨v, hv, fun u hu => by
        by_cases h : v < u
        · exact absurd ⟨u, hu, h⟩ hm
        · omega⟩

variable (h w i j m t) in
/-- The cell's extreme value. -/
def IsExt (raise : Bool) (v : Int) : Prop := (∃ x, Legal h w i j m t x ∧ x i j = v) ∧ ∀ y, Legal h w i j m t y → sg raise * y i j ≤ sg raise * v
theorem IsExt.unique {raise : Bool} {u v : Int} (h1 : IsExt h w i j m t raise u) (h2 : IsExt h w i j m t raise v) : u = v := by
  obtain ⟨x, hx, rfl⟩ := h1.1
  obtain ⟨y, hy, rfl⟩ := h2.1
  have e1 := h1.2 y hy
  have e2 := h2.2 x hx
  cases raise <;> simp [sg] at e1 e2 <;> omega
theorem exists_ext (raise : Bool) (hi : i < h) (hj : j < w) {c : Int} (h0 : ∀ k, k < h → ∀ l, l < w → 0 ≤ t k l) (hc : ∀ k, k < h → ∀ l, l < w → t k l ≤ c) : ∃ v, IsExt h w i j m t raise v := by
  have hB : ∀ u, (∃ x, Legal h w i j m t x ∧ sg raise * x i j = u) → u ≤ max (rowS w t i) (w * (h * c)) := by
    rintro u ⟨x, hx, rfl⟩
    have h1 := hx.le_row hi hj
    have h2 := hx.ge_cell hi hj h0 hc
    cases raise <;> simp [sg] <;> omega
  obtain ⟨v, ⟨x, hx, rfl⟩, hv⟩ := int_max (fun u => ∃ x, Legal h w i j m t x ∧ sg raise * x i j = u) _ _ _ ⟨t, Legal.self h0, rfl⟩ (Nat.le_refl _) hB
  exact ⟨x i j, ⟨x, hx, rfl⟩, fun y hy => hv _ ⟨y, hy, rfl⟩⟩

variable (h w i j m t) in
open Classical in
/-- .. as a number. -/
noncomputable def ext (raise : Bool) : Int := if h : ∃ v, IsExt h w i j m t raise v then Classical.choose h else 0
theorem ext_eq {raise : Bool} {v : Int} (h1 : IsExt h w i j m t raise v) : ext h w i j m t raise = v := by
  unfold ext
  rw [dif_pos ⟨v, h1⟩]
  exact IsExt.unique (Classical.choose_spec ⟨v, h1⟩) h1
theorem ext_is (raise : Bool) (hi : i < h) (hj : j < w) {c : Int} (h0 : ∀ k, k < h → ∀ l, l < w → 0 ≤ t k l) (hc : ∀ k, k < h → ∀ l, l < w → t k l ≤ c) : IsExt h w i j m t raise (ext h w i j m t raise) := by
  obtain ⟨v, hv⟩ := exists_ext (m := m) raise hi hj h0 hc
  rw [ext_eq hv]
  exact hv

/-- What a search for places gives: for each place the one from which it is first reached, or -1. -/
structure Reach (E : Nat → Nat → Prop) (N s : Nat) (rank : Nat → Nat) (P : List Int) : Prop where
  len : P.length = N
  start : P.getD s 0 = s
  none_ : ∀ v, v < N → P.getD v 0 < 0 → P.getD v 0 = -1
  from_ : ∀ v, v < N → 0 ≤ P.getD v 0 → v ≠ s → ∃ p : Nat, P.getD v 0 = p ∧ p < N ∧ 0 ≤ P.getD p 0 ∧ rank p < rank v ∧ E p v
  closed : ∀ u v, u < N → v < N → 0 ≤ P.getD u 0 → E u v → 0 ≤ P.getD v 0

theorem Reach.extreme {raise : Bool} {x : Nat → Nat → Int} {rank : Nat → Nat} {P : List Int} (hP : Reach (Edge h w i j m raise x) (h + w) i rank P) (hx : Legal h w i j m t x) (hi : i < h) (hj : j < w)
    (hno : P.getD (h + j) 0 < 0) : IsExt h w i j m t raise (x i j) := by
  refine ⟨⟨x, hx, rfl⟩, fun y hy => cut hx hi hj (fun v => decide (0 ≤ P.getD v 0)) ?_ ?_ ?_ hy⟩
  · simp only [decide_eq_true_eq]
    rw [hP.start]
    omega
  · simp only [decide_eq_false_iff_not]
    omega
  · intro u v hu hv h1 h2 he
    simp only [decide_eq_true_eq] at h1
    simp only [decide_eq_false_iff_not] at h2
    exact h2 (hP.closed u v hu hv h1 he)

/-- One step back on a path: the cell that changes, and by how much. -/
theorem Half.step {raise : Bool} {d : Int} {x0 x : Nat → Nat → Int} {rank : Nat → Nat} {p v : Nat} (hx : Half (h := h) (w := w) (i := i) (j := j) (m := m) (t := t) raise d x0 rank v x) (hd : 0 ≤ d)
    (hr : rank p < rank v) (he : Edge h w i j m raise x0 p v) (hroom : (p < h → raise = true → d ≤ x0 p (v - h)) ∧ (h ≤ p → raise = false → d ≤ x0 v (p - h))) :
    (p < h ∧ h ≤ v ∧ v < h + w ∧ Half (h := h) (w := w) (i := i) (j := j) (m := m) (t := t) raise d x0 rank p (upd x p (v - h) (-(sg raise * d)))) ∨
    (h ≤ p ∧ p < h + w ∧ v < h ∧ Half (h := h) (w := w) (i := i) (j := j) (m := m) (t := t) raise d x0 rank p (upd x v (p - h) (sg raise * d))) := by
  rcases he with ⟨h1, h2, h3, h4, h5, h6⟩ | ⟨h1, h2, h3, h4, h5, h6⟩
  · left
    obtain ⟨l, rfl⟩ : ∃ l, v = h + l := ⟨v - h, by omega⟩
    rw [Nat.add_sub_cancel_left] at h5 h6 hroom ⊢
    exact ⟨h1, h2, h3, hx.row_step hd h1 (by omega) hr h5 (fun e => h4 ⟨e.1, by omega⟩) (fun e => hroom.1 h1 e)⟩
  · right
    obtain ⟨l, rfl⟩ : ∃ l, p = h + l := ⟨p - h, by omega⟩
    rw [Nat.add_sub_cancel_left] at h5 h6 hroom ⊢
    exact ⟨h1, h2, h3, hx.col_step hd h3 (by omega) hr h5 (fun e => h4 ⟨e.1, by omega⟩) (fun e => hroom.2 h1 e)⟩

end
end Go.FlowMath
end

section
/-
  Contract: impl.cellsOf at whole numbers: the iterator over the places of all cells, row by row.
-/
namespace Go.Proofs.YtcjhenfofekofaaGreatDoor
open Go.RowKit Go.Shelf
attribute [local go_sem] Oper.semAt_some

/-- The places of rows of these lengths, row by row. -/
def poss (ls : List Nat) : List (Nat × Nat) := (List.range ls.length).flatMap fun i => (List.range (ls.getD i 0)).map fun j => (i, j)
/-- .. those before a place. -/
def upto (ls : List Nat) (i j : Nat) : List (Nat × Nat) := ((List.range i).flatMap fun i => (List.range (ls.getD i 0)).map fun j => (i, j)) ++ (List.range j).map fun j => (i, j)
theorem upto_zero (ls : List Nat) : upto ls 0 0 = [] := rfl
theorem upto_next (ls : List Nat) (i j : Nat) : upto ls i (j + 1) = upto ls i j ++ [(i, j)] := by
  unfold upto
  rw [List.range_succ, List.map_append, List.append_assoc]
  rfl
theorem upto_row (ls : List Nat) (i : Nat) : upto ls i (ls.getD i 0) = upto ls (i + 1) 0 := by
  unfold upto
  rw [List.range_succ, List.flatMap_append]
  simp
theorem upto_all (ls : List Nat) : upto ls ls.length 0 = poss ls := by
  unfold upto poss
  simp
theorem upto_prefix_row (ls : List Nat) (k : Nat) : ∀ i, upto ls i 0 <+: upto ls (i + k) 0 := by
  induction k with
  | zero => intro i; exact List.prefix_refl _
  | succ k ih =>
    intro i
    refine List.IsPrefix.trans (ih i) ?_
    rw [show i + (k + 1) = i + k + 1 by omega, ← upto_row]
    unfold upto
    simp
theorem upto_prefix (ls : List Nat) {i j : Nat} (hi : i < ls.length) (hj : j ≤ ls.getD i 0) : upto ls i j <+: poss ls := by
  have h1 : upto ls i j <+: upto ls (i + 1) 0 := by
    rw [← upto_row]
    unfold upto
    rw [List.prefix_append_right_inj]
    obtain ⟨d, hd⟩ : ∃ d, ls.getD i 0 = j + d := ⟨ls.getD i 0 - j, by omega⟩
    rw [hd, List.range_add, List.map_append]
    exact List.prefix_append _ _
  have h2 := upto_prefix_row ls (ls.length - (i + 1)) (i + 1)
  rw [show i + 1 + (ls.length - (i + 1)) = ls.length by omega, upto_all] at h2
  exact h1.trans h2
theorem upto_lt (ls : List Nat) {i j : Nat} (hi : i < ls.length) (hj : j < ls.getD i 0) : (upto ls i j).length < (poss ls).length := by
  have := (upto_prefix ls hi (show j + 1 ≤ _ from hj)).length_le
  rw [upto_next] at this
  simp at this
  omega
theorem mem_poss {ls : List Nat} {x : Nat × Nat} (h : x ∈ poss ls) : x.1 < ls.length ∧ x.2 < ls.getD x.1 0 := by
  unfold poss at h
  rw [List.mem_flatMap] at h
  obtain ⟨i, hi, h⟩ := h
  obtain ⟨j, hj, rfl⟩ := List.mem_map.1 h
  exact ⟨List.mem_range.1 hi, List.mem_range.1 hj⟩

/-- A slice whose cells hold slices of these lengths. -/
def Heads (w : World) (ao : Option Addr) (b off : Nat) (ls : List Nat) : Prop :=
  (0 < ls.length → ao = some ⟨b, off, none⟩) ∧ ∀ i, i < ls.length → (∃ a c, w.cell? ⟨b, off + i, none⟩ = some (.slice a (ls.getD i 0) c)) ∧ ls.getD i 0 ≤ 9223372036854775807

set_option maxRecDepth 100000 in
set_option maxHeartbeats 2000000 in
/-- The iterator's closure, for every loop body that keeps the rows' heads. -/
theorem cells1_in (F : Fence) (n : Nat) (hf : F.fn 95) (hro : F.round = none) (hn : 1 ≤ n) (l Bs : Nat) (ao : Option Addr) (b off cap : Nat) (ls : List Nat) (hls : ls.length ≤ 9223372036854775807) (Kp : World → World → Prop)
    (hKp : ∀ A B, Kp A B → ∀ o, o < off + ls.length → B.cell? ⟨b, o, none⟩ = A.cell? ⟨b, o, none⟩) (hKr : ∀ A, Kp A A) (hKt : ∀ A B C, Kp A B → Kp B C → Kp A C) (J Jx : List (Nat × Nat) → World → Prop)
    (hY : ∀ pre x W, J pre W → x.1 < ls.length → x.2 < ls.getD x.1 0 → pre.length < (poss ls).length → YieldAt F (n - 1) Tryz.prog l #[.int .i64 (x.1 : Int), .int .i64 (x.2 : Int)] W fun e W' =>
      (e = .returned (.bool true) ∧ J (pre ++ [x]) W' ∧ Kp W W') ∨ (e = .returned (.bool false) ∧ Jx (pre ++ [x]) W'))
    (W : World) (hBs : W.cell? ⟨Bs, 0, none⟩ = some (.slice ao ls.length cap)) (hH : Heads W ao b off ls) (h0 : J [] W) :
    CallsIn F n Tryz.prog 95 #[.func (.yield l) #[] #[], .pointer (some ⟨Bs, 0, none⟩)] W fun e W' => (∃ v, e = .returned v) ∧
      ((∃ ys, ys = poss ls ∧ J ys W') ∨ (∃ pre, pre <+: poss ls ∧ Jx pre W')) := by
  have HH := Lib.hid hH
  clear hH
  refine callsIn_of_wp Tryz.func95 rfl hf ?_ hro
  simp only [Tryz.ntmps95, List.size_toArray, List.length_cons, List.length_nil, Nat.reduceAdd, Nat.reduceSub, Array.replicate_succ, Array.replicate_zero, List.push_toArray, List.append_toArray, List.nil_append, List.cons_append]
  gi_wp2
  gi_loopw [8] (fun i wr => ∃ k : Nat, k ≤ ls.length ∧ i = .int .i64 k ∧ J (upto ls k 0) wr ∧ Kp W wr)
    (fun i _ => ls.length - (intOf i).toNat)
  case atStart => exact ⟨0, Nat.zero_le _, rfl, h0, hKr _⟩
  case round =>
    obtain ⟨k, hk, rfl, hJs, hnx⟩ := hrel
    have HN := Lib.hid hnx
    clear hnx
    by_cases hlt : k < ls.length
    · obtain rfl := HH.out.1 (by omega)
      obtain ⟨⟨ra, rc, hcell⟩, hrl⟩ := HH.out.2 k hlt
      have hcx : wr.cell? ⟨b, off + k, none⟩ = some (.slice ra (ls.getD k 0) rc) := (hKp _ _ HN.out (off + k) (by omega)).trans hcell
      have HUR := Lib.hid (upto_row ls k)
      have HUP := Lib.hid (fun j (hj : j ≤ ls.getD k 0) => upto_prefix ls hlt hj)
      have HUL := Lib.hid (fun j (hj : j < ls.getD k 0) => upto_lt ls hlt hj)
      have HYK := Lib.hid (fun j (hj : j < ls.getD k 0) (pre : List (Nat × Nat)) (W : World) (h1 : J pre W) (h2 : pre.length < (poss ls).length) => hY pre (k, j) W h1 hlt hj h2)
      obtain ⟨m, hm⟩ : ∃ m, ls.getD k 0 = m := ⟨_, rfl⟩
      rw [hm] at hcx hrl HUR HUP HUL HYK
      clear hcell hm
      gi_wp2
      gi_loopw [15] (fun j wq => ∃ q : Nat, q ≤ m ∧ j = .int .i64 q ∧ J (upto ls k q) wq ∧ Kp W wq)
        (fun j _ => m - (intOf j).toNat)
      case atStart => exact ⟨0, Nat.zero_le _, rfl, hJs, HN.out⟩
      case round =>
        obtain ⟨q, hq, rfl, hJq, hnq⟩ := hrel
        have HNQ := Lib.hid hnq
        clear hnq
        by_cases hqt : q < m
        · obtain ⟨fn, tmps, assign, body, hy, hR⟩ := HYK.out q hqt _ wr hJq (HUL.out q hqt)
          gi_wp2
          refine hR.mono ?_
          rintro e W3 (⟨rfl, hJ3, hk3⟩ | ⟨rfl, hJx3⟩)
          · gi_wp2
            go_roundw
            case rel => exact ⟨q + 1, by omega, by simp, by rw [upto_next]; exact hJ3, hKt _ _ _ HNQ.out hk3⟩
            case measure => simp [intOf]; omega
          · gi_wp2
            refine bodyPost_ret (results_none rfl _ _ _) rfl ?_
            exact ⟨⟨_, rfl⟩, .inr ⟨_, by rw [← upto_next]; exact HUP.out (q + 1) (by omega), hJx3⟩⟩
        · obtain rfl : q = m := by omega
          gi_wp2
          go_roundw
          case rel => exact ⟨k + 1, by omega, by simp, by rw [← HUR.out]; exact hJq, HNQ.out⟩
          case measure => simp [intOf]; omega
    · obtain rfl : k = ls.length := by omega
      gi_wp2
      go_end0
      exact ⟨⟨_, rfl⟩, .inl ⟨_, upto_all ls, hJs⟩⟩

set_option maxHeartbeats 1000000 in
/-- cellsOf: the slice is boxed; the function value captures the box. -/
theorem cells_in (F : Fence) (n : Nat) (hf : F.fn 81) (hro : F.round = none) (a : Option Addr) (len cap : Nat) (w : World) :
    CallsIn F n Tryz.prog 81 #[.slice a len cap] w fun e w' => e = .returned (.func (.func 95) #[] #[.pointer (some ⟨w.heap.size, 0, none⟩)]) ∧ w' = w.alloc (.cells #[.slice a len cap] 36) := by
  refine callsIn_of_wp Tryz.func81 rfl hf ?_ hro
  simp only [Tryz.ntmps81, List.size_toArray, List.length_cons, List.length_nil, Nat.reduceAdd, Nat.reduceSub, Array.replicate_succ, Array.replicate_zero, List.push_toArray, List.append_toArray, List.nil_append, List.cons_append]
  gi_wp2
  go_ret
  exact ⟨rfl, rfl⟩

/-- A place. -/
abbrev Pos (ls : List Nat) : Type := { x : Nat × Nat // x.1 < ls.length ∧ x.2 < ls.getD x.1 0 }
def Pos.vals {ls : List Nat} (xs : List (Pos ls)) : List (Nat × Nat) := xs.map Subtype.val
theorem Pos.vals_snoc {ls : List Nat} (xs : List (Pos ls)) (x : Pos ls) : Pos.vals (xs ++ [x]) = Pos.vals xs ++ [x.1] := by
  unfold Pos.vals
  rw [List.map_append]
  rfl

/-- cellsOf hands back an iterator over all places, in order. -/
theorem cells_stops (F : Fence) (n : Nat) (hf : F.fn 95) (hro : F.round = none) (hn : 1 ≤ n) (Bs : Nat) (ao : Option Addr) (b off cap : Nat) (ls : List Nat) (hls : ls.length ≤ 9223372036854775807) (Kp : World → World → Prop)
    (hKp : ∀ A B, Kp A B → ∀ o, o < off + ls.length → B.cell? ⟨b, o, none⟩ = A.cell? ⟨b, o, none⟩) (hKr : ∀ A, Kp A A) (hKt : ∀ A B C, Kp A B → Kp B C → Kp A C) (w : World) (hBs : Bs < w.heap.size) (hb : 0 < ls.length → b < w.heap.size)
    (hc : w.cell? ⟨Bs, 0, none⟩ = some (.slice ao ls.length cap)) (hH : Heads w ao b off ls) :
    SeqStopsK F n Tryz.prog 95 #[.pointer (some ⟨Bs, 0, none⟩)] (fun x : Pos ls => #[Value.int .i64 (x.1.1 : Int), Value.int .i64 (x.1.2 : Int)]) Kp (fun ys => Pos.vals ys = poss ls) (fun pre => Pos.vals pre <+: poss ls) (poss ls).length w :=
  fun l J Jx W hW _ _ hY h0 => by
    refine (cells1_in F n hf hro hn l Bs ao b off cap ls hls Kp hKp hKr hKt (fun pre W => ∃ p, Pos.vals p = pre ∧ J p W) (fun pre W => ∃ p, Pos.vals p = pre ∧ Jx p W) ?_ W ((hW.cell (p := ⟨Bs, 0, none⟩) hBs).trans hc)
      ⟨hH.1, fun i hi => by
        obtain ⟨⟨a, c, h1⟩, h2⟩ := hH.2 i hi
        exact ⟨⟨a, c, (hW.cell (p := ⟨b, off + i, none⟩) (hb (by omega))).trans h1⟩, h2⟩⟩ ⟨[], rfl, h0⟩).mono ?_
    · rintro pre x W1 ⟨p, rfl, hj⟩ h1 h2 h3
      obtain ⟨fn, tmps, assign, body, hy, hR⟩ := hY p ⟨x, h1, h2⟩ W1 hj (by unfold Pos.vals at h3; rw [List.length_map] at h3; exact h3)
      refine ⟨fn, tmps, assign, body, hy, hR.mono ?_⟩
      rintro e W' (⟨he, hj', hk⟩ | ⟨he, hj'⟩)
      · exact .inl ⟨he, ⟨_, Pos.vals_snoc _ _, hj'⟩, hk⟩
      · exact .inr ⟨he, ⟨_, Pos.vals_snoc _ _, hj'⟩⟩
    · rintro e W' ⟨hv, ⟨ys, rfl, p, hp, hj⟩ | ⟨pre, hpre, p, hp, hj⟩⟩
      · exact ⟨hv, .inl ⟨p, hp, hj⟩⟩
      · exact ⟨hv, .inr ⟨p, by show Pos.vals p <+: _; rw [hp]; exact hpre, hj⟩⟩
end Go.Proofs.YtcjhenfofekofaaGreatDoor
end

section
/-
  Plain mathematics of patterns: bounds of hidden cells, cells that are not safe, the cheapest rectangle, growing until all are safe.
-/
namespace Go.Proofs.YtcjhenfofekofaaGreatDoor
open Go.RowKit
open Go.TextMath (tvB mvB)
open Go.FlowMath (ext)

def flagM (M : List (List Bool)) (i j : Nat) : Bool := (M.getD i []).getD j false
def lensT {α : Type} (T : List (List α)) : List Nat := T.map List.length
/-- The extreme values of a cell. -/
noncomputable def extM (T : List (List Int)) (M : List (List Bool)) (i j : Nat) (raise : Bool) : Int := ext T.length (T.getD 0 []).length i j (flagM M) (cellT T) raise
noncomputable def highM (T : List (List Int)) (M : List (List Bool)) (i j : Nat) : Int := if flagM M i j then extM T M i j true else cellT T i j
noncomputable def lowM (T : List (List Int)) (M : List (List Bool)) (i j : Nat) : Int := if flagM M i j then max 0 (extM T M i j false) else cellT T i j
noncomputable def safeM (T : List (List Int)) (M : List (List Bool)) (n : Int) (i j : Nat) : Bool := decide (cellT T i j + n ≤ highM T M i j ∧ lowM T M i j ≤ max 0 (cellT T i j - n))
noncomputable def badM (T : List (List Int)) (F M : List (List Bool)) (n : Int) (x : Nat × Nat) : Bool := flagM F x.1 x.2 && !(flagM M x.1 x.2 && safeM T M n x.1 x.2)
noncomputable def badsM (T : List (List Int)) (F M : List (List Bool)) (n : Int) : List (Nat × Nat) := (poss (lensT T)).filter (badM T F M n)
def cellB (n : Int) : Bool := decide (0 ≤ n ∧ n ≤ 99)
noncomputable def needM (T : List (List Int)) (F M : List (List Bool)) (n : Int) : Int := if mvB T F && (mvB T M && cellB n) then (badsM T F M n).length else -1

/-- What a cell costs that is not set. -/
def costC (T : List (List Int)) (M : List (List Bool)) (i j : Nat) : Int := if flagM M i j then 0 else cellT T i j
def costM (T : List (List Int)) (M : List (List Bool)) (i j k l : Nat) : Int := costC T M i j + costC T M i l + costC T M k j + costC T M k l
def openM (M : List (List Bool)) (i j k l : Nat) : Bool := !(flagM M i j && flagM M i l && flagM M k j && flagM M k l)
/-- The cheapest rectangle till now: its cost, or -1; its row and column. -/
def sqN (T : List (List Int)) (M : List (List Bool)) (i j : Nat) (st : Int × Nat × Nat) (x : Nat × Nat) : Int × Nat × Nat :=
  if x.1 = i ∨ x.2 = j then st else if openM M i j x.1 x.2 = true ∧ (st.1 < 0 ∨ costM T M i j x.1 x.2 < st.1) then (costM T M i j x.1 x.2, x.1, x.2) else st
def sqM (T : List (List Int)) (M : List (List Bool)) (i j : Nat) (pre : List (Nat × Nat)) : Int × Nat × Nat := pre.foldl (sqN T M i j) (-1, 0, 0)
theorem sqM_nil (T : List (List Int)) (M : List (List Bool)) (i j : Nat) : sqM T M i j [] = (-1, 0, 0) := rfl
theorem sqM_snoc (T : List (List Int)) (M : List (List Bool)) (i j : Nat) (pre : List (Nat × Nat)) (x : Nat × Nat) : sqM T M i j (pre ++ [x]) = sqN T M i j (sqM T M i j pre) x := by
  unfold sqM
  rw [List.foldl_append]
  rfl
/-- Four cells set. -/
def setM (M : List (List Bool)) (i j k l : Nat) : List (List Bool) := putC (putC (putC (putC M i j true) i l true) k j true) k l true
def squareM (T : List (List Int)) (M : List (List Bool)) (i j : Nat) : Option (List (List Bool)) :=
  if (sqM T M i j (poss (lensT T))).1 < 0 then none else some (setM M i j (sqM T M i j (poss (lensT T))).2.1 (sqM T M i j (poss (lensT T))).2.2)
noncomputable def nextM (T : List (List Int)) (F M : List (List Bool)) (n : Int) : Option (List (List Bool)) := match badsM T F M n with
  | [] => none
  | x :: _ => squareM T M x.1 x.2

/-- How many cells are not set. -/
def openN (T : List (List Int)) (M : List (List Bool)) : Nat := (poss (lensT T)).countP fun x => !flagM M x.1 x.2
noncomputable def growN (T : List (List Int)) (F : List (List Bool)) (n : Int) : Nat → List (List Bool) → Option (List (List Bool))
  | 0, _ => none
  | f + 1, M => if badsM T F M n = [] then some M else match nextM T F M n with
    | none => none
    | some M' => growN T F n f M'
/-- A pattern grown until all cells are safe. -/
noncomputable def growM (T : List (List Int)) (F : List (List Bool)) (n : Int) : Option (List (List Bool)) := if mvB T F && cellB n then growN T F n (openN T F + 1) F else none
theorem countP_lt {α : Type} {p q : α → Bool} : ∀ {l : List α}, (∀ x ∈ l, p x = true → q x = true) → (∃ x ∈ l, q x = true ∧ p x = false) → l.countP p < l.countP q
  | [], _, h => by obtain ⟨x, hx, _⟩ := h; simp at hx
  | a :: l, h1, h2 => by
    have hle : l.countP p ≤ l.countP q := List.countP_mono_left fun x hx => h1 x (by simp [hx])
    rw [List.countP_cons, List.countP_cons]
    have ha := h1 a (by simp)
    obtain ⟨x, hx, hq, hp⟩ := h2
    rcases List.mem_cons.1 hx with rfl | hx
    · rw [hq, hp]; simp; omega
    · have := countP_lt (l := l) (fun x hx => h1 x (by simp [hx])) ⟨x, hx, hq, hp⟩
      cases hpa : p a
      · simp; omega
      · rw [ha hpa]; simp; omega

theorem lensT_len {α : Type} (T : List (List α)) : (lensT T).length = T.length := List.length_map _
theorem lensT_at {α : Type} (T : List (List α)) {i : Nat} (hi : i < T.length) : (lensT T).getD i 0 = (T.getD i []).length := by
  simp [lensT, List.getD_eq_getElem?_getD, List.getElem?_eq_getElem hi]
theorem poss_tv {T : List (List Int)} (h : tvB T = true) {x : Nat × Nat} : x ∈ poss (lensT T) ↔ x.1 < T.length ∧ x.2 < (T.getD 0 []).length := by
  constructor
  · intro hx
    obtain ⟨h1, h2⟩ := mem_poss hx
    rw [lensT_len] at h1
    rw [lensT_at T h1, ((tv_t.1 h).2.2.2.2 x.1 h1).1] at h2
    exact ⟨h1, h2⟩
  · rintro ⟨h1, h2⟩
    unfold poss
    rw [List.mem_flatMap]
    refine ⟨x.1, List.mem_range.2 (by rw [lensT_len]; exact h1), List.mem_map.2 ⟨x.2, List.mem_range.2 ?_, rfl⟩⟩
    rw [lensT_at T h1, ((tv_t.1 h).2.2.2.2 x.1 h1).1]
    exact h2

/-- The size of a mask that fits. -/
def FitM (T : List (List Int)) (M : List (List Bool)) : Prop := M.length = T.length ∧ ∀ i, i < T.length → (M.getD i []).length = (T.getD 0 []).length
theorem fitM_of {T : List (List Int)} {M : List (List Bool)} (h : mvB T M = true) : FitM T M := ⟨(mv_t.1 h).2.1, fun i hi => (mv_t.1 h).2.2 i (by rw [(mv_t.1 h).2.1]; exact hi)⟩
theorem fitM_mv {T : List (List Int)} {M : List (List Bool)} (ht : tvB T = true) (h : FitM T M) : mvB T M = true := mv_t.2 ⟨ht, h.1, fun i hi => h.2 i (by rw [← h.1]; exact hi)⟩
theorem FitM.put {T : List (List Int)} {M : List (List Bool)} (h : FitM T M) {a b : Nat} (ha : a < T.length) (v : Bool) : FitM T (putC M a b v) :=
  ⟨by rw [putC_len]; exact h.1, fun i hi => by rw [putC_row M a b i v (by rw [h.1]; exact ha)]; exact h.2 i hi⟩
theorem flag_put {T : List (List Int)} {M : List (List Bool)} (h : FitM T M) {a b : Nat} (ha : a < T.length) (hb : b < (T.getD 0 []).length) (v : Bool) (i j : Nat) : flagM (putC M a b v) i j = if i = a ∧ j = b then v else flagM M i j :=
  putC_at M i j v false (by rw [h.1]; exact ha) (by rw [h.2 a ha]; exact hb)
theorem FitM.set {T : List (List Int)} {M : List (List Bool)} (h : FitM T M) {i j k l : Nat} (hi : i < T.length) (hk : k < T.length) : FitM T (setM M i j k l) :=
  (((h.put hi true).put hi true).put hk true).put hk true
theorem flag_set {T : List (List Int)} {M : List (List Bool)} (h : FitM T M) {i j k l : Nat} (hi : i < T.length) (hj : j < (T.getD 0 []).length) (hk : k < T.length) (hl : l < (T.getD 0 []).length) (a b : Nat) :
    flagM (setM M i j k l) a b = true ↔ flagM M a b = true ∨ (a = i ∧ b = j) ∨ (a = i ∧ b = l) ∨ (a = k ∧ b = j) ∨ (a = k ∧ b = l) := by
  unfold setM
  rw [flag_put (((h.put hi true).put hi true).put hk true) hk hl, flag_put ((h.put hi true).put hi true) hk hj, flag_put (h.put hi true) hi hl, flag_put h hi hj]
  by_cases e1 : a = k ∧ b = l
  · simp [e1]
  · rw [if_neg e1]
    by_cases e2 : a = k ∧ b = j
    · simp [e2]
    · rw [if_neg e2]
      by_cases e3 : a = i ∧ b = l
      · simp [e3]
      · rw [if_neg e3]
        by_cases e4 : a = i ∧ b = j
        · simp [e4]
        · rw [if_neg e4]
          constructor
          · exact .inl
          · rintro (h | h | h | h | h)
            · exact h
            · exact absurd h e4
            · exact absurd h e3
            · exact absurd h e2
            · exact absurd h e1
theorem open_less {T : List (List Int)} {M : List (List Bool)} (ht : tvB T = true) (h : FitM T M) {i j k l : Nat} (hi : i < T.length) (hj : j < (T.getD 0 []).length) (hk : k < T.length) (hl : l < (T.getD 0 []).length) (ho : openM M i j k l = true) :
    openN T (setM M i j k l) < openN T M := by
  unfold openN
  refine countP_lt (fun x _ hp => ?_) ?_
  · simp only [Bool.not_eq_true'] at hp ⊢
    rw [Bool.eq_false_iff] at hp ⊢
    exact fun hh => hp ((flag_set h hi hj hk hl _ _).2 (.inl hh))
  · have : ∃ a b, a < T.length ∧ b < (T.getD 0 []).length ∧ flagM M a b = false ∧ ((a = i ∧ b = j) ∨ (a = i ∧ b = l) ∨ (a = k ∧ b = j) ∨ (a = k ∧ b = l)) := by
      unfold openM at ho
      simp only [Bool.not_eq_true', Bool.and_eq_false_iff] at ho
      rcases ho with ((ho | ho) | ho) | ho
      · exact ⟨i, j, hi, hj, ho, by simp⟩
      · exact ⟨i, l, hi, hl, ho, by simp⟩
      · exact ⟨k, j, hk, hj, ho, by simp⟩
      · exact ⟨k, l, hk, hl, ho, by simp⟩
    obtain ⟨a, b, ha, hb, hf, hw⟩ := this
    refine ⟨(a, b), (poss_tv ht).2 ⟨ha, hb⟩, by simp [hf], ?_⟩
    simp only [Bool.not_eq_false']
    exact (flag_set h hi hj hk hl a b).2 (.inr hw)

theorem cost_nn {T : List (List Int)} {M : List (List Bool)} (ht : tvB T = true) {i j : Nat} (hi : i < T.length) (hj : j < (T.getD 0 []).length) : 0 ≤ costC T M i j ∧ costC T M i j ≤ 99 := by
  have hr := (tv_t.1 ht).2.2.2.2 i hi
  have := hr.2 j (by rw [hr.1]; exact hj)
  unfold costC cellT
  split
  · omega
  · exact this
/-- What the search for a rectangle has found. -/
theorem sq_inv {T : List (List Int)} {M : List (List Bool)} (ht : tvB T = true) {i j : Nat} (hi : i < T.length) (hj : j < (T.getD 0 []).length) (pre : List (Nat × Nat)) (hp : ∀ x ∈ pre, x.1 < T.length ∧ x.2 < (T.getD 0 []).length) :
    (sqM T M i j pre = (-1, 0, 0)) ∨ (0 ≤ (sqM T M i j pre).1 ∧ (sqM T M i j pre).1 ≤ 396 ∧ (sqM T M i j pre).2.1 < T.length ∧ (sqM T M i j pre).2.2 < (T.getD 0 []).length ∧ openM M i j (sqM T M i j pre).2.1 (sqM T M i j pre).2.2 = true) := by
  induction pre using snoc_ind with
  | h0 => exact .inl rfl
  | hs l x ih =>
    have ih := ih fun y hy => hp y (by simp [hy])
    have hx := hp x (by simp)
    rw [sqM_snoc]
    unfold sqN
    split
    · exact ih
    · split
      · rename_i h
        have c1 := cost_nn (M := M) ht hi hj
        have c2 := cost_nn (M := M) ht hi hx.2
        have c3 := cost_nn (M := M) ht hx.1 hj
        have c4 := cost_nn (M := M) ht hx.1 hx.2
        refine .inr ⟨?_, ?_, hx.1, hx.2, h.1⟩ <;> (show _ ≤ _; unfold costM; omega)
      · exact ih
theorem bads_mem {T : List (List Int)} {F M : List (List Bool)} {n : Int} (ht : tvB T = true) {x : Nat × Nat} (h : x ∈ badsM T F M n) : x.1 < T.length ∧ x.2 < (T.getD 0 []).length :=
  (poss_tv ht).1 (List.mem_filter.1 h).1
theorem next_some {T : List (List Int)} {F M M' : List (List Bool)} {n : Int} (ht : tvB T = true) (hM : FitM T M) (h : nextM T F M n = some M') : FitM T M' ∧ openN T M' < openN T M := by
  unfold nextM at h
  split at h
  · cases h
  · rename_i x r hb
    obtain ⟨h1, h2⟩ := bads_mem (F := F) (M := M) (n := n) ht (x := x) (by rw [hb]; simp)
    unfold squareM at h
    split at h
    · cases h
    · rename_i hn
      simp only [Option.some.injEq] at h
      subst h
      rcases sq_inv (M := M) ht h1 h2 (poss (lensT T)) (fun y hy => (poss_tv ht).1 hy) with e | ⟨_, _, h3, h4, h5⟩
      · rw [e] at hn; simp at hn
      · exact ⟨hM.set h1 h3, open_less ht hM h1 h2 h3 h4 h5⟩
theorem grow_fuel {T : List (List Int)} {F : List (List Bool)} {n : Int} (ht : tvB T = true) : ∀ (f : Nat) (M : List (List Bool)) (g : Nat), FitM T M → openN T M < f → openN T M < g → growN T F n f M = growN T F n g M := by
  intro f
  induction f with
  | zero => intro M g _ h; omega
  | succ f ih =>
    intro M g hM hf hg
    obtain ⟨g, rfl⟩ : ∃ k, g = k + 1 := ⟨g - 1, by omega⟩
    unfold growN
    split
    · rfl
    · cases hn : nextM T F M n with
      | none => rfl
      | some M' =>
        obtain ⟨h1, h2⟩ := next_some ht hM hn
        exact ih M' g h1 (by omega) (by omega)
theorem grow_done {T : List (List Int)} {F M : List (List Bool)} {n : Int} (h : badsM T F M n = []) : growN T F n (openN T M + 1) M = some M := by
  unfold growN
  rw [if_pos h]
theorem grow_none {T : List (List Int)} {F M : List (List Bool)} {n : Int} (h : badsM T F M n ≠ []) (hn : nextM T F M n = none) : growN T F n (openN T M + 1) M = none := by
  unfold growN
  rw [if_neg h, hn]
theorem grow_next {T : List (List Int)} {F M M' : List (List Bool)} {n : Int} (ht : tvB T = true) (hM : FitM T M) (h : badsM T F M n ≠ []) (hn : nextM T F M n = some M') : growN T F n (openN T M + 1) M = growN T F n (openN T M' + 1) M' := by
  obtain ⟨h1, h2⟩ := next_some ht hM hn
  conv => lhs; unfold growN
  rw [if_neg h, hn]
  exact grow_fuel ht _ _ _ h1 (by omega) (by omega)
end Go.Proofs.YtcjhenfofekofaaGreatDoor
end
