/-
  Contracts: spec.l41Cut, spec.l41Number.
-/
import Derived.Test.YthncpnopplhlkaaDoorSplit
import Derived.Test.YthncpnopplhlkaaDoorIn
import Derived.Test.YthncpnopplhlkaaDoorGrow
import Derived.Test.YthncpnopplhlkaaDoorCount
namespace Go.Proofs.YthncpnopplhlkaaDoor
open Go.RowKit
open Go.ParseMath (cutL numS digS)

theorem cut_step {s : ByteArray} {c : UInt8} {f k : Nat} (hf : f ≤ k) (hk : k < s.size) (hn : c ∉ (s.data.toList.take k).drop f) (hx : s[k]'hk = c) :
    cutB c (s.extract f s.size) = s.extract f k :: cutB c (s.extract (k + 1) s.size) := by
  have hk2 : k < s.data.toList.length := by rw [Array.length_toList]; exact hk
  have hsz : s.data.toList.length = s.size := Array.length_toList
  have e : s.data.toList.drop f = (s.data.toList.take k).drop f ++ c :: s.data.toList.drop (k + 1) := by
    conv => lhs; rw [← List.take_append_drop k s.data.toList, List.drop_append_of_le_length (by rw [List.length_take]; omega), List.drop_eq_getElem_cons hk2]
    congr 2
  unfold cutB
  rw [ex_list, ex_list, List.take_of_length_le (by omega), e, Go.ParseMath.cutL_at hn, List.map_cons]
  congr 1
  apply ByteArray.ext
  apply Array.toList_inj.1
  rw [ex_list]
theorem cut_end {s : ByteArray} {c : UInt8} {f : Nat} (hn : c ∉ (s.data.toList.take s.size).drop f) : cutB c (s.extract f s.size) = [s.extract f s.size] := by
  unfold cutB
  rw [ex_list, Go.ParseMath.cutL_none hn]
  show [(⟨_⟩ : ByteArray)] = _
  congr 1
  apply ByteArray.ext
  apply Array.toList_inj.1
  rw [ex_list]
theorem not_more {s : ByteArray} {c : UInt8} {f k : Nat} (hf : f ≤ k) (hk : k < s.size) (hn : c ∉ (s.data.toList.take k).drop f) (hx : s[k]'hk ≠ c) : c ∉ (s.data.toList.take (k + 1)).drop f := by
  have hk2 : k < s.data.toList.length := by rw [Array.length_toList]; exact hk
  rw [List.take_succ_eq_append_getElem hk2, List.drop_append_of_le_length (by rw [List.length_take]; omega), List.mem_append, List.mem_singleton, not_or]
  exact ⟨hn, fun e => hx e.symm⟩
theorem not_none {s : ByteArray} {c : UInt8} (k : Nat) : c ∉ (s.data.toList.take k).drop k := by
  rw [List.drop_of_length_le (by rw [List.length_take]; omega)]
  simp
theorem cutB_all {s : ByteArray} {c : UInt8} : cutB c (s.extract 0 s.size) = cutB c s := by
  unfold cutB
  rw [ex_list, List.drop_zero, List.take_of_length_le (by rw [Array.length_toList]; exact Nat.le_refl _)]
theorem cutB_len (c : UInt8) (s : ByteArray) : (cutB c s).length ≤ s.size + 1 := by
  unfold cutB
  rw [List.length_map, Go.ParseMath.cutL_length]
  have : s.data.toList.count c ≤ s.data.toList.length := List.count_le_length
  rw [Array.length_toList] at this
  exact Nat.succ_le_succ this
theorem cutB_size {c : UInt8} {s x : ByteArray} (h : x ∈ cutB c s) : x.size ≤ s.size := by
  unfold cutB at h
  obtain ⟨l, hl, rfl⟩ := List.mem_map.1 h
  have := (Go.ParseMath.cutL_mem hl).2
  rw [Array.length_toList] at this
  show l.toArray.size ≤ s.data.size
  rw [List.size_toArray]
  exact this

set_option maxHeartbeats 1000000 in
theorem cutS (s : ByteArray) (hs : s.size ≤ 100000000) (c : UInt8) (w : World) :
    Calls Tryd.prog 63 #[.string s, .int .u8 c.toNat] w fun e w' => ∃ v, e = .returned v ∧ OwnS w' w.heap.size v (cutB c s) ∧ Below w.heap.size w w' := by
  obtain ⟨cn, hcn⟩ : ∃ cn, c.toNat = cn := ⟨_, rfl⟩
  rw [hcn]
  have HCN := Lib.hid hcn
  clear hcn
  go_enter Tryd.func63, Tryd.ntmps63
  go_wp2_with fail
  go_loopw [5, 6, 7] (fun v a i wr => ∃ (pre : List ByteArray) (f k : Nat), i = .int .i64 k ∧ a = .int .i64 f ∧ f ≤ k ∧ k ≤ s.size ∧ Hid (cutB c s = pre ++ cutB c (s.extract f s.size)) ∧ Hid (c ∉ (s.data.toList.take k).drop f) ∧ pre.length ≤ k ∧
    OwnS wr w.heap.size v pre ∧ Below w.heap.size w wr) (fun _ _ i _ => s.size - (intOf i).toNat)
  case atStart =>
    refine ⟨[], 0, 0, rfl, rfl, Nat.le_refl _, Nat.zero_le _, Lib.hid (by rw [cutB_all]; rfl), Lib.hid (not_none 0), Nat.le_refl _, ?_, (Below.refl _ _).alloc (Nat.le_refl _) _⟩
    have := World.ownsRow_lit (base := w.heap.size) (e := 9) (size := 1) w #[] 0 (Nat.le_refl _) (by unfold maxLen; omega) (by simp)
    simpa [OwnS] using this
  case round =>
    obtain ⟨pre, f, k, rfl, rfl, hfk, hk, HC, HN, hpl, ho, hb⟩ := hrel
    have HO := Lib.hid ho
    have HB := Lib.hid hb
    have hsz := hb.size
    clear ho hb
    by_cases hlt : k < s.size
    · by_cases hx : s[k]'hlt = c
      · have hq : (((s[k]'hlt).toNat : Int) == (cn : Int)) = true := byte_yes HCN.out hx
        have HCS := Lib.hid (cut_step hfk hlt HN.out hx)
        have hfki : (f : Int) ≤ (k : Int) := by omega
        have hks : k ≤ s.size := by omega
        clear hx
        go_wp2_with (at_builtin; refine wpList_appH eltS rfl (.tmp 20) (.tmp 25) rfl w.heap.size _ _ _ rfl HO.out [.string (s.extract f k)] rfl (by intro u hu; simp at hu; subst hu; rfl) rfl wr.heap.size (by simp) rfl ?c1 hsz ?_)
        case c1 => omega
        intro v' w2 ho2 hb2 _
        have HO2 : Hid (OwnS w2 w.heap.size v' (pre ++ [s.extract f k])) := Lib.hid (by unfold OwnS; rw [List.length_append, List.map_append]; exact ho2)
        have HB2 := Lib.hid (HB.out.trans hb2)
        clear ho2 hb2
        go_wp2_with fail
        go_roundw
        case rel => exact ⟨pre ++ [s.extract f k], k + 1, k + 1, by go_num, by go_num, Nat.le_refl _, by omega, Lib.hid (by rw [HC.out, HCS.out, List.append_assoc]; rfl), Lib.hid (not_none _), by simp; omega, HO2.out, HB2.out⟩
        case measure => simp [intOf]; omega
      · have hq : (((s[k]'hlt).toNat : Int) == (cn : Int)) = false := byte_no HCN.out hx
        have HN2 := Lib.hid (not_more hfk hlt HN.out hx)
        clear hx
        go_wp2_with fail
        go_roundw
        case rel => exact ⟨pre, f, k + 1, by go_num, rfl, by omega, by omega, HC, HN2, by omega, HO.out, HB.out⟩
        case measure => simp [intOf]; omega
    · obtain rfl : k = s.size := by omega
      have HCE := Lib.hid (cut_end HN.out)
      have hfki : (f : Int) ≤ (s.size : Int) := by omega
      go_wp2_with (at_builtin; refine wpList_appH eltS rfl (.tmp 29) (.tmp 33) rfl w.heap.size _ _ _ rfl HO.out [.string (s.extract f s.size)] rfl (by intro u hu; simp at hu; subst hu; rfl) rfl wr.heap.size (by simp) rfl ?c1 hsz ?_)
      case c1 => omega
      intro v' w2 ho2 hb2 _
      have HO2 : Hid (OwnS w2 w.heap.size v' (pre ++ [s.extract f s.size])) := Lib.hid (by unfold OwnS; rw [List.length_append, List.map_append]; exact ho2)
      have HB2 := Lib.hid (HB.out.trans hb2)
      clear ho2 hb2
      go_wp2_with fail
      go_ret
      exact ⟨v', rfl, by rw [HC.out, HCE.out]; exact HO2.out, HB2.out⟩

theorem digS_neg {l : List UInt8} {k : Nat} (h : ∃ x, l[k]? = some x ∧ (x.toNat < 48 ∨ 57 < x.toNat)) : ∀ n, digS n l = -1 := by
  induction l generalizing k with
  | nil => obtain ⟨x, hx, _⟩ := h; simp at hx
  | cons a r ih =>
    intro n
    rw [Go.ParseMath.digS_cons]
    by_cases ha : a.toNat < 48 ∨ 57 < a.toNat
    · rw [if_pos ha]
    · rw [if_neg ha]
      obtain ⟨x, hx, hb⟩ := h
      cases k with
      | zero => simp at hx; subst hx; exact absurd hb ha
      | succ k => exact ih ⟨x, by simpa using hx, hb⟩ _

set_option maxHeartbeats 1000000 in
theorem numS_any (s : ByteArray) (hs : s.size ≤ 100000000) (w : World) :
    Calls Tryd.prog 64 #[.string s] w fun e w' => e = .returned (.int .i64 (numS s.data.toList)) ∧ w = w' := by
  by_cases h4 : 1 ≤ s.size ∧ s.size ≤ 4
  · have HNS := Lib.hid (show numS s.data.toList = digS 0 s.data.toList by unfold numS; rw [Array.length_toList]; exact if_pos h4)
    obtain ⟨h1, h2⟩ := h4
    go_enter Tryd.func64, Tryd.ntmps64
    go_wp2_with fail
    refine (in_yes _ _ _ _ (by omega) (by omega)).mono ?_
    rintro e w' ⟨rfl, rfl⟩
    go_wp2_with fail
    go_loop [3, 4] (fun a i => ∃ (k n : Nat), i = .int .i64 k ∧ a = .int .i64 n ∧ k ≤ s.size ∧ n < 10 ^ k ∧ Hid (digS 0 s.data.toList = digS n (s.data.toList.drop k))) (fun _ i => s.size - (intOf i).toNat)
    case atStart => exact ⟨0, 0, rfl, rfl, Nat.zero_le _, by decide, Lib.hid rfl⟩
    case round =>
      obtain ⟨k, n, rfl, rfl, hk, hn, HD⟩ := hrel
      by_cases hlt : k < s.size
      · have hn9 : n ≤ 999 := by
          have : k = 0 ∨ k = 1 ∨ k = 2 ∨ k = 3 := by omega
          rcases this with rfl | rfl | rfl | rfl <;> omega
        have hcons : s.data.toList.drop k = s[k]'hlt :: s.data.toList.drop (k + 1) := List.drop_eq_getElem_cons (by rw [Array.length_toList]; exact hlt)
        have hxb : (s[k]'hlt).toNat < 256 := (s[k]'hlt).toNat_lt
        obtain ⟨x, hx⟩ : ∃ x, (s[k]'hlt).toNat = x := ⟨_, rfl⟩
        have HDC := Lib.hid (show digS n (s.data.toList.drop k) = if x < 48 ∨ 57 < x then -1 else digS (10 * n + ((x : Int) - 48)) (s.data.toList.drop (k + 1)) by rw [hcons, Go.ParseMath.digS_cons, hx])
        rw [hx] at hxb
        have HX := Lib.hid hx
        have HPW := Lib.hid hn
        clear hn hcons
        by_cases hlo : x < 48
        · have HV := Lib.hid (show numS s.data.toList = -1 by rw [HNS.out, HD.out, HDC.out, if_pos (.inl hlo)])
          have hloi : (x : Int) < 48 := by omega
          go_wp2_with fail
          go_ret
          exact ⟨by rw [HV.out]; rfl, rfl⟩
        · by_cases hhi : 57 < x
          · have HV := Lib.hid (show numS s.data.toList = -1 by rw [HNS.out, HD.out, HDC.out, if_pos (.inr hhi)])
            go_wp2_with fail
            go_ret
            exact ⟨by rw [HV.out]; rfl, rfl⟩
          · have HV := Lib.hid (show digS 0 s.data.toList = digS ((10 * n + (x - 48) : Nat) : Int) (s.data.toList.drop (k + 1)) by
              rw [HD.out, HDC.out, if_neg (by omega)]
              congr 1
              omega)
            go_wp2_with fail
            go_round
            case rel =>
              refine ⟨k + 1, 10 * n + (x - 48), by go_num, int_eq (by omega), by omega, ?_, HV⟩
              have hp := HPW.out
              rw [Nat.pow_succ]
              obtain ⟨P, hP⟩ : ∃ P, 10 ^ k = P := ⟨_, rfl⟩
              rw [hP] at hp ⊢
              omega
            case measure => simp [intOf]; omega
      · obtain rfl : k = s.size := by omega
        have HV := Lib.hid (show numS s.data.toList = n by rw [HNS.out, HD.out, List.drop_of_length_le (by rw [Array.length_toList]; exact Nat.le_refl _)]; rfl)
        clear hn
        go_wp2_with fail
        go_ret
        exact ⟨by rw [HV.out]; rfl, rfl⟩
  · have HNS := Lib.hid (show numS s.data.toList = -1 by unfold numS; rw [Array.length_toList]; exact if_neg h4)
    have h4i : ¬ ((1 : Int) ≤ (s.size : Int) ∧ (s.size : Int) ≤ 4) := by omega
    go_enter Tryd.func64, Tryd.ntmps64
    go_wp2_with fail
    refine (in_no _ _ _ _ h4i).mono ?_
    rintro e w' ⟨rfl, rfl⟩
    go_wp2_with fail
    go_ret
    exact ⟨by rw [HNS.out]; rfl, rfl⟩
end Go.Proofs.YthncpnopplhlkaaDoor
