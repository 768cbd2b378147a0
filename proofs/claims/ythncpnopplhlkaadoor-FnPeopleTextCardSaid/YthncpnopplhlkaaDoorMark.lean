/-
  Contracts: laws.markIntSS, laws.heldIntSS: consecutive numbers are written into rows, and found there.
-/
import Derived.Test.YthncpnopplhlkaaDoorMt
import Derived.Test.YthncpnopplhlkaaDoorMtOwn
namespace Go.Proofs.YthncpnopplhlkaaDoor
open Go.RowKit

/-- How many cells lie ahead of row i. -/
def off (T : List (List Int)) (i : Nat) : Nat := ((T.take i).map List.length).sum
theorem off_zero (T : List (List Int)) : off T 0 = 0 := rfl
theorem off_succ (T : List (List Int)) {i : Nat} (h : i < T.length) : off T (i + 1) = off T i + (T.getD i []).length := by
  unfold off
  rw [List.take_succ_eq_append_getElem h, List.map_append, List.sum_append]
  simp [List.getD_eq_getElem?_getD, List.getElem?_eq_getElem h]
/-- A row's block. -/
def RowN (w : World) (b n : Nat) : Prop := ∃ c f, w.rowIs b 3 c f ∧ n ≤ c
/-- .. with numbers from k on. -/
def RowK (w : World) (b n k : Nat) : Prop := ∃ c f, w.rowIs b 3 c f ∧ n ≤ c ∧ ∀ j, j < n → f j = .int .i64 ((k + j : Nat) : Int)
theorem RowK.row {w : World} {b n k : Nat} (h : RowK w b n k) : RowN w b n := by obtain ⟨c, f, h1, h2, _⟩ := h; exact ⟨c, f, h1, h2⟩
theorem RowN.of_block {w w' : World} {b n : Nat} (h : RowN w b n) (e : w'.heap[b]? = w.heap[b]?) : RowN w' b n := by obtain ⟨c, f, h1, h2⟩ := h; exact ⟨c, f, h1.of_block e, h2⟩
theorem RowK.of_block {w w' : World} {b n k : Nat} (h : RowK w b n k) (e : w'.heap[b]? = w.heap[b]?) : RowK w' b n k := by obtain ⟨c, f, h1, h2⟩ := h; exact ⟨c, f, h1.of_block e, h2⟩

set_option maxHeartbeats 1000000 in
theorem markI (b n c0 k : Nat) (w : World) (hr : RowN w b n) (hn : n ≤ 1000000) (hk : k ≤ 1000000) :
    Calls Tryd.prog 44 #[.slice (some ⟨b, 0, none⟩) n c0, .int .i64 k] w fun e w' => e = .returned (.int .i64 ((k + n : Nat) : Int)) ∧ RowK w' b n k ∧ Only b w w' := by
  obtain ⟨c, f, hrow, hnc⟩ := hr
  have HR := Lib.hid hrow
  clear hrow
  go_enter Tryd.func44, Tryd.ntmps44
  go_wp2_with fail
  go_loopw [1, 5] (fun x i wr => ∃ q : Nat, q ≤ n ∧ i = .int .i64 q ∧ x = .int .i64 ((k + q : Nat) : Int) ∧ wr.rowIs b 3 c (fun j => if j < q then .int .i64 ((k + j : Nat) : Int) else f j) ∧ Only b w wr) (fun _ i _ => n - (intOf i).toNat)
  case atStart => exact ⟨0, Nat.zero_le _, rfl, rfl, HR.out.congr fun j _ => by rw [if_neg (by omega)], ⟨rfl, rfl, rfl, rfl, fun _ _ => rfl⟩⟩
  case round =>
    obtain ⟨q, hq, rfl, rfl, hrow, ho⟩ := hrel
    have HW := Lib.hid hrow
    have HO := Lib.hid ho
    clear hrow ho
    by_cases hlt : q < n
    · have hc := HW.out.cell (i := q) (by omega)
      have hf := HW.out.frozen q
      rw [if_neg (Nat.lt_irrefl _)] at hc
      have hqi : (q : Int) < (n : Int) := by omega
      go_wp2_with fail
      go_roundw
      case rel =>
        refine ⟨q + 1, by omega, by go_num, by go_num, (HW.out.set q _).congr fun j _ => ?_, ?_⟩
        · by_cases e : j = q
          · subst e; rw [if_pos rfl, if_pos (by omega)]; exact int_eq (by omega)
          · rw [if_neg e]
            by_cases e2 : j < q
            · rw [if_pos e2, if_pos (by omega)]
            · rw [if_neg e2, if_neg (by omega)]
        · obtain ⟨o1, o2, o3, o4, o5⟩ := HO.out
          exact ⟨o1, o2, o3, by rw [World.size_setCell]; exact o4, fun j hj => (Below.heap_setCell _ _ _ _ hj).trans (o5 j hj)⟩
      case measure => simp [intOf]; omega
    · obtain rfl : q = n := by omega
      go_wp2_with fail
      go_ret
      exact ⟨rfl, ⟨c, _, HW.out, hnc, fun j hj => by rw [if_pos hj]⟩, HO.out⟩

set_option maxHeartbeats 1000000 in
theorem heldI (b n c0 k : Nat) (w : World) (hr : RowK w b n k) (hn : n ≤ 1000000) (hk : k ≤ 1000000) :
    Calls Tryd.prog 45 #[.slice (some ⟨b, 0, none⟩) n c0, .int .i64 k] w fun e w' => e = .returned (.int .i64 ((k + n : Nat) : Int)) ∧ w = w' := by
  obtain ⟨c, f, hrow, hnc, hf⟩ := hr
  have HR := Lib.hid hrow
  have HF := Lib.hid hf
  clear hrow hf
  go_enter Tryd.func45, Tryd.ntmps45
  go_wp2_with fail
  go_loop [1, 5] (fun x i => ∃ q : Nat, q ≤ n ∧ i = .int .i64 q ∧ x = .int .i64 ((k + q : Nat) : Int)) (fun _ i => n - (intOf i).toNat)
  case atStart => exact ⟨0, Nat.zero_le _, rfl, rfl⟩
  case round =>
    obtain ⟨q, hq, rfl, rfl⟩ := hrel
    by_cases hlt : q < n
    · have hc := HR.out.cell (i := q) (by omega)
      rw [HF.out q hlt] at hc
      have hqi : (q : Int) < (n : Int) := by omega
      go_wp2_with fail
      go_round
      case rel => exact ⟨q + 1, by omega, by go_num, by go_num⟩
      case measure => simp [intOf]; omega
    · obtain rfl : q = n := by omega
      go_wp2_with fail
      go_ret
      exact ⟨rfl, rfl⟩

/-- Rows in their blocks. -/
def HeadsT (w : World) (tb : Nat) (T : List (List Int)) (g : Nat → Nat) : Prop := ∀ i, i < T.length → ∃ c, w.cell? ⟨tb, i, none⟩ = some (.slice (some ⟨g i, 0, none⟩) (T.getD i []).length c)
theorem HeadsT.of_block {w w' : World} {tb : Nat} {T : List (List Int)} {g : Nat → Nat} (h : HeadsT w tb T g) (e : w'.heap[tb]? = w.heap[tb]?) : HeadsT w' tb T g := fun i hi => by
  obtain ⟨c, hc⟩ := h i hi
  exact ⟨c, (World.cell?_of_block e).trans hc⟩

theorem HeadsT.keep {w w' : World} {tb : Nat} {T : List (List Int)} {g : Nat → Nat} (h : HeadsT w tb T g) (hb : Below w.heap.size w w') : HeadsT w' tb T g := fun i hi => by
  obtain ⟨c, hc⟩ := h i hi
  exact ⟨c, (hb.cell (p := ⟨tb, i, none⟩) (World.block_lt_of_cell? _ _ hc)).trans hc⟩
theorem RowK.keep {w w' : World} {b n k : Nat} (h : RowK w b n k) (hb : Below w.heap.size w w') : RowK w' b n k := by
  have h2 := h
  obtain ⟨c, f, h1, _⟩ := h2
  exact h.of_block (hb.block b h1.lt)

set_option maxHeartbeats 1000000 in
theorem markII (ao : Option Addr) (tb cap base k : Nat) (T : List (List Int)) (g : Nat → Nat) (w : World) (ha : 0 < T.length → ao = some ⟨tb, 0, none⟩) (hh : HeadsT w tb T g) (hr : ∀ i, i < T.length → RowN w (g i) (T.getD i []).length) (hne : ∀ i, i < T.length → tb ≠ g i)
    (hinj : ∀ i j, i < T.length → j < T.length → g i = g j → i = j) (hlow : ∀ i, i < T.length → base ≤ g i) (hT : T.length ≤ 100) (hT2 : ∀ i, i < T.length → (T.getD i []).length ≤ 100) (hk : k ≤ 100) :
    Calls Tryd.prog 21 #[.slice ao T.length cap, .int .i64 k] w fun e w' => e = .returned (.int .i64 ((k + off T T.length : Nat) : Int)) ∧ HeadsT w' tb T g ∧ (∀ i, i < T.length → RowK w' (g i) (T.getD i []).length (k + off T i)) ∧ Below base w w' := by
  have HH := Lib.hid hh
  have HR := Lib.hid hr
  have HNE := Lib.hid hne
  have HI := Lib.hid hinj
  have HLW := Lib.hid hlow
  have HT2 := Lib.hid hT2
  clear hh hr hne hinj hlow hT2
  go_enter Tryd.func21, Tryd.ntmps21
  go_wp2_with fail
  go_loopw [1, 5] (fun x i wr => ∃ q : Nat, q ≤ T.length ∧ i = .int .i64 q ∧ x = .int .i64 ((k + off T q : Nat) : Int) ∧ off T q ≤ 100 * q ∧ HeadsT wr tb T g ∧ (∀ i, i < T.length → RowN wr (g i) (T.getD i []).length) ∧ (∀ i, i < q → RowK wr (g i) (T.getD i []).length (k + off T i)) ∧ Below base w wr) (fun _ i _ => T.length - (intOf i).toNat)
  case atStart => exact ⟨0, Nat.zero_le _, rfl, rfl, Nat.zero_le _, HH.out, HR.out, fun i hi => absurd hi (by omega), Below.refl _ _⟩
  case round =>
    obtain ⟨q, hq, rfl, rfl, hoff, hh, hr, hk2, hb⟩ := hrel
    have HH2 := Lib.hid hh
    have HR2 := Lib.hid hr
    have HK2 := Lib.hid hk2
    have HB2 := Lib.hid hb
    clear hh hr hk2 hb
    by_cases hlt : q < T.length
    · obtain rfl := ha (by omega)
      obtain ⟨c0, hc⟩ := HH2.out q hlt
      have hrl := HT2.out q hlt
      have HOS := Lib.hid (off_succ T hlt)
      have HMK := Lib.hid (markI (g q) (T.getD q []).length c0 (k + off T q) wr (HR2.out q hlt) (by omega) (by omega))
      obtain ⟨m, hm⟩ : ∃ m, (T.getD q []).length = m := ⟨_, rfl⟩
      obtain ⟨f, hf⟩ : ∃ f, off T q = f := ⟨_, rfl⟩
      rw [hm] at hc hrl HOS HMK
      rw [hf] at HOS HMK hoff ⊢
      have HM := Lib.hid hm
      have HF := Lib.hid hf
      clear hm hf
      go_wp2_with fail
      refine (HMK.out).mono ?_
      rintro e w2 ⟨rfl, hrk, ho⟩
      have HRK := Lib.hid hrk
      have HO := Lib.hid ho
      clear hrk ho
      go_wp2_with fail
      go_roundw
      case rel =>
        obtain ⟨o1, o2, o3, o4, o5⟩ := HO.out
        refine ⟨q + 1, by omega, by go_num, by rw [HOS.out]; exact int_eq (by omega), by rw [HOS.out]; omega, HH2.out.of_block (o5 tb (HNE.out q hlt)), fun i hi => ?_, fun i hi => ?_, ?_⟩
        · by_cases e : i = q
          · subst e; rw [HM.out]; exact HRK.out.row
          · exact (HR2.out i hi).of_block (o5 _ (fun e2 => e (HI.out i q hi hlt e2)))
        · by_cases e : i = q
          · subst e; rw [HM.out, HF.out]; exact HRK.out
          · exact (HK2.out i (by omega)).of_block (o5 _ (fun e2 => e (HI.out i q (by omega) hlt e2)))
        · exact HB2.out.trans ⟨o1, o2, o3, Nat.le_of_eq o4.symm, fun j hj => o5 j (by have := HLW.out q hlt; omega)⟩
      case measure => simp [intOf]; omega
    · obtain rfl : q = T.length := by omega
      go_wp2_with fail
      go_ret
      exact ⟨rfl, HH2.out, HK2.out, HB2.out⟩

set_option maxHeartbeats 1000000 in
theorem heldII (ao : Option Addr) (tb cap k : Nat) (T : List (List Int)) (g : Nat → Nat) (w : World) (ha : 0 < T.length → ao = some ⟨tb, 0, none⟩) (hh : HeadsT w tb T g) (hr : ∀ i, i < T.length → RowK w (g i) (T.getD i []).length (k + off T i))
    (hT : T.length ≤ 100) (hT2 : ∀ i, i < T.length → (T.getD i []).length ≤ 100) (hk : k ≤ 100) :
    Calls Tryd.prog 22 #[.slice ao T.length cap, .int .i64 k] w fun e w' => e = .returned (.int .i64 ((k + off T T.length : Nat) : Int)) ∧ w = w' := by
  have HH := Lib.hid hh
  have HR := Lib.hid hr
  have HT2 := Lib.hid hT2
  clear hh hr hT2
  go_enter Tryd.func22, Tryd.ntmps22
  go_wp2_with fail
  go_loop [1, 5] (fun x i => ∃ q : Nat, q ≤ T.length ∧ i = .int .i64 q ∧ x = .int .i64 ((k + off T q : Nat) : Int) ∧ off T q ≤ 100 * q) (fun _ i => T.length - (intOf i).toNat)
  case atStart => exact ⟨0, Nat.zero_le _, rfl, rfl, Nat.zero_le _⟩
  case round =>
    obtain ⟨q, hq, rfl, rfl, hoff⟩ := hrel
    by_cases hlt : q < T.length
    · obtain rfl := ha (by omega)
      obtain ⟨c0, hc⟩ := HH.out q hlt
      have hrl := HT2.out q hlt
      have HOS := Lib.hid (off_succ T hlt)
      have HHD := Lib.hid (heldI (g q) (T.getD q []).length c0 (k + off T q) w (HR.out q hlt) (by omega) (by omega))
      obtain ⟨m, hm⟩ : ∃ m, (T.getD q []).length = m := ⟨_, rfl⟩
      obtain ⟨f, hf⟩ : ∃ f, off T q = f := ⟨_, rfl⟩
      rw [hm] at hc hrl HOS HHD
      rw [hf] at HOS HHD hoff ⊢
      clear hm hf
      go_wp2_with fail
      refine (HHD.out).mono ?_
      rintro e w2 ⟨rfl, rfl⟩
      go_wp2_with fail
      go_round
      case rel => exact ⟨q + 1, by omega, by go_num, by rw [HOS.out]; exact int_eq (by omega), by rw [HOS.out]; omega⟩
      case measure => simp [intOf]; omega
    · obtain rfl : q = T.length := by omega
      go_wp2_with fail
      go_ret
      exact ⟨rfl, rfl⟩
end Go.Proofs.YthncpnopplhlkaaDoor
