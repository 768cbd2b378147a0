/-
  The walk of laws.FnPeopleTextLines.
-/
import Derived.Test.YtgnmfbgoacfjeaaDoorDrawPpl
import Derived.Test.YtgnmfbgoacfjeaaDoorPplText
import Derived.Test.YtgnmfbgoacfjeaaDoorTextMore
import Derived.Test.YtgnmfbgoacfjeaaDoorCount
namespace Go.Proofs.YtgnmfbgoacfjeaaDoor
open Go.RowKit
open Go.TextMath (text)

theorem isE (s : ByteArray) : s.toList.isEmpty = s.data.toList.isEmpty := by rw [Lib.toList_data]
theorem tp_lines {L : List Per} (h : pplB L = true) : (tp L).data.toList.count 10 = L.length := by
  rw [tp_t h]
  have := Go.TextMath.text_lines (rowsOf L) [] (fun i hi => by rw [rowsOf_at (by rw [rowsOf_len] at hi; exact hi)]; exact Nat.le_of_ble_eq_true rfl)
  rw [rowsOf_len] at this
  exact this
theorem tp_spaces {L : List Per} (h : pplB L = true) : (tp L).data.toList.count 32 = L.length * 3 := by
  rw [tp_t h]
  have := Go.TextMath.text_spaces (rowsOf L) [] 3 (fun i hi => by rw [rowsOf_at (by rw [rowsOf_len] at hi; exact hi)]; rfl)
  rw [rowsOf_len] at this
  exact this

theorem tp_size (L : List Per) (h : L.length ≤ 12) : (tp L).size ≤ 9223372036854775807 := by
  cases hv : pplB L with
  | false => rw [tp_f hv]; exact Nat.zero_le _
  | true =>
    rw [tp_t hv]
    have h := text_short (M := []) (ppl_fit hv) (rowsOf L).length (Nat.le_refl _)
    rw [List.take_length, rowsOf_len] at h
    simp [ByteArray.size]
    omega
theorem tp_nil {L : List Per} (h : L.length = 0) : tp L = ⟨#[]⟩ := by
  obtain rfl : L = [] := List.eq_nil_of_length_eq_zero h
  unfold tp
  split <;> rfl
theorem tp_ne {L : List Per} (h : pplB L = true) (h0 : 0 < L.length) : (tp L).toList.isEmpty = false := by
  have h1 := tp_lines h
  rw [isE]
  cases ht : (tp L).data.toList with
  | nil => rw [ht] at h1; simp at h1; omega
  | cons a r => rfl

set_option maxHeartbeats 1000000 in
theorem peopleTextLines (a0 : Option Addr) (b0 o0 cap0 : Nat) (xs0 : List Int) (w : World) (hr0 : Row .u8 w a0 b0 o0 xs0) (hl0 : xs0.length ≤ cap0 ∧ cap0 ≤ 9223372036854775807) (hw0 : ∀ i, i < xs0.length → (Lit.int .u8 (xs0.getD i 0)).wf = true) (ht : PowTab w) :
    Calls Tryd.prog 4 #[.slice a0 xs0.length cap0] w fun e w' => e = .returned (.bool true) ∧ Below w.heap.size w w' := by
  have HP := Lib.hid ht
  have HD := Lib.hid (drawPT a0 b0 o0 cap0 xs0 w hr0 hl0 hw0)
  clear hr0 hw0 ht
  by_cases hbig : 1048576 < xs0.length
  · go_enter Tryd.func4, Tryd.ntmps4
    go_wp2_with fail
    go_ret
    exact ⟨rfl, Below.refl _ _⟩
  · have hs0 : xs0.length ≤ 1048576 := by omega
    clear hbig
    go_enter Tryd.func4, Tryd.ntmps4
    go_wp2_with fail
    refine (HD.out).mono ?_
    rintro e w1 ⟨ao, b, cap, L, rfl, hT, hc1, hc2, hT4, hb1⟩
    have HT := Lib.hid hT
    have HB1 := Lib.hid hb1
    have HP1 := Lib.hid (HP.out.keep hb1 (Nat.le_refl _))
    clear hT hb1
    go_wp2_with fail
    refine (peopleTextI ao b 0 cap L w1 HT.out (by omega) HP1.out).mono ?_
    rintro e w2 ⟨rfl, hb2⟩
    have HT2 := Lib.hid (HT.out.keep hb2 (Nat.le_refl _))
    have HB2 := Lib.hid (HB1.out.trans (hb2.mono HB1.out.size))
    clear hb2
    go_wp2_with fail
    refine (peopleTextS ao b 0 cap L w2 HT2.out (by omega)).mono ?_
    rintro e w3 ⟨rfl, hb3⟩
    have HB3 := Lib.hid (HB2.out.trans (hb3.mono HB2.out.size))
    clear hb3 HT2 HB2 HP1 HT HB1 HD HP
    have hno : (pplB L = false ∨ L.length = 0) ∨ (pplB L = true ∧ 0 < L.length) := by
      cases pplB L with
      | false => exact .inl (.inl rfl)
      | true =>
        by_cases h : L.length = 0
        · exact .inl (.inr h)
        · exact .inr ⟨rfl, by omega⟩
    rcases hno with hv | ⟨hv, hpos⟩
    · rw [show tp L = ⟨#[]⟩ from hv.elim tp_f tp_nil]
      clear hv
      go_wp2_with fail
      go_ret
      exact ⟨rfl, HB3.out⟩
    · have hne := tp_ne hv hpos
      have hsz := tp_size L hT4
      have HLN := Lib.hid (tp_lines hv)
      have HSP := Lib.hid (tp_spaces hv)
      obtain ⟨S, hS⟩ : ∃ S, tp L = S := ⟨_, rfl⟩
      rw [hS] at hne hsz HLN HSP ⊢
      clear hS hv
      go_wp2_with fail
      go_loop [6, 7, 8] (fun a c i => ∃ j : Nat, j ≤ S.size ∧ i = .int .i64 j ∧ a = .int .i64 ((S.data.toList.take j).count 10 : Nat) ∧ c = .int .i64 ((S.data.toList.take j).count 32 : Nat)) (fun _ _ i => S.size - (intOf i).toNat)
      case atStart => exact ⟨0, Nat.zero_le _, rfl, rfl, rfl⟩
      case round =>
        obtain ⟨j, hj, rfl, rfl, rfl⟩ := hrel
        by_cases hlt : j < S.size
        · have hst := count_step S 32 hlt
          have hle := count_le S 32 j
          have hsu := count_step S 10 hlt
          have hme := count_le S 10 j
          obtain ⟨n, hn⟩ : ∃ n, (S.data.toList.take j).count 32 = n := ⟨_, rfl⟩
          obtain ⟨m, hm⟩ : ∃ m, (S.data.toList.take j).count 10 = m := ⟨_, rfl⟩
          rw [hn] at hst hle ⊢
          rw [hm] at hsu hme ⊢
          by_cases hx : S[j]'hlt = 32
          · have hy : ¬ S[j]'hlt = 10 := by rw [hx]; decide
            rw [if_pos hx] at hst
            rw [if_neg hy] at hsu
            have hq : (((S[j]'hlt).toNat : Int) == 32) = true := byte_yes (c := 32) (n := 32) rfl hx
            have hp : (((S[j]'hlt).toNat : Int) == 10) = false := byte_no (c := 10) (n := 10) rfl hy
            have HST := Lib.hid hst
            have HSU := Lib.hid hsu
            clear hst hsu hx hn hm hy
            go_wp2_with fail
            go_round
            case rel => exact ⟨j + 1, by omega, by go_num, by rw [HSU.out]; rfl, by rw [HST.out]; go_num⟩
            case measure => simp [intOf]; omega
          · rw [if_neg hx] at hst
            have hq : (((S[j]'hlt).toNat : Int) == 32) = false := byte_no (c := 32) (n := 32) rfl hx
            have HST := Lib.hid hst
            by_cases hy : S[j]'hlt = 10
            · rw [if_pos hy] at hsu
              have hp : (((S[j]'hlt).toNat : Int) == 10) = true := byte_yes (c := 10) (n := 10) rfl hy
              have HSU := Lib.hid hsu
              clear hst hsu hx hn hm hy
              go_wp2_with fail
              go_round
              case rel => exact ⟨j + 1, by omega, by go_num, by rw [HSU.out]; go_num, by rw [HST.out]; rfl⟩
              case measure => simp [intOf]; omega
            · rw [if_neg hy] at hsu
              have hp : (((S[j]'hlt).toNat : Int) == 10) = false := byte_no (c := 10) (n := 10) rfl hy
              have HSU := Lib.hid hsu
              clear hst hsu hx hn hm hy
              go_wp2_with fail
              go_round
              case rel => exact ⟨j + 1, by omega, by go_num, by rw [HSU.out]; rfl, by rw [HST.out]; rfl⟩
              case measure => simp [intOf]; omega
        · obtain rfl : j = S.size := by omega
          rw [count_all, count_all, HLN.out, HSP.out]
          have hb1 : ((L.length : Int) == (L.length : Int)) = true := by simp
          have hb2 : (((L.length * 3 : Nat) : Int) == (3 : Int) * (L.length : Int)) = true := by simp; omega
          have hb3 : (((L.length * 3 : Nat) : Int) == (L.length : Int) * 3) = true := by simp
          go_wp2_with fail
          go_ret
          exact ⟨by simp; omega, HB3.out⟩
end Go.Proofs.YtgnmfbgoacfjeaaDoor
