/-
  Contracts: PeopleText of the program and of the reference.
-/
import Derived.Test.YthncpnopplhlkaaDoorPpl
import Derived.Test.YthncpnopplhlkaaDoorMt
import Derived.Test.YthncpnopplhlkaaDoorTexts
namespace Go.Proofs.YthncpnopplhlkaaDoor
open Go.RowKit
open Go.TextMath (text line rowW cellW word)

def rowOf (p : Per) : List Int := [p.area, p.job, p.sex, p.pay]
def rowsOf (L : List Per) : List (List Int) := L.map rowOf
theorem rowsOf_len (L : List Per) : (rowsOf L).length = L.length := List.length_map _
theorem rowsOf_at {L : List Per} {i : Nat} (h : i < L.length) : (rowsOf L).getD i [] = rowOf (L.getD i per0) := by
  simp [rowsOf, List.getD_eq_getElem?_getD, List.getElem?_eq_getElem h]
theorem rowsOf_take {L : List Per} {k : Nat} (h : k < L.length) : rowsOf (L.take (k + 1)) = rowsOf (L.take k) ++ [rowOf (L.getD k per0)] := by
  unfold rowsOf
  rw [List.take_succ_eq_append_getElem h, List.map_append]
  simp [List.getD_eq_getElem?_getD, List.getElem?_eq_getElem h]
theorem rowsOf_tk (L : List Per) (k : Nat) : rowsOf (L.take k) = (rowsOf L).take k := by unfold rowsOf; rw [List.map_take]
/-- The text of people; none if they are none. -/
def tp (L : List Per) : ByteArray := ⟨(if pplB L then text (rowsOf L) [] else []).toArray⟩
theorem tp_t {L : List Per} (h : pplB L = true) : tp L = ⟨(text (rowsOf L) []).toArray⟩ := by unfold tp; rw [if_pos h]
theorem tp_f {L : List Per} (h : pplB L = false) : tp L = ⟨#[]⟩ := by unfold tp; rw [h]; rfl
theorem rowOf_ok {p : Per} (h : PerOk p) : ∀ j, j < (rowOf p).length → 0 ≤ (rowOf p).getD j 0 ∧ (rowOf p).getD j 0 ≤ 1000000 := by
  obtain ⟨h1, h2, h3, h4⟩ := h
  intro j hj
  have : j = 0 ∨ j = 1 ∨ j = 2 ∨ j = 3 := by simp [rowOf] at hj; omega
  rcases this with rfl | rfl | rfl | rfl <;> simp [rowOf] <;> omega
theorem ppl_fit {L : List Per} (h : pplB L = true) : Fit (rowsOf L) := by
  obtain ⟨h1, h2⟩ := ppl_t.1 h
  refine ⟨by rw [rowsOf_len]; omega, fun i hi => ?_⟩
  rw [rowsOf_len] at hi
  rw [rowsOf_at hi]
  exact ⟨by simp [rowOf], by simp [rowOf], rowOf_ok (h2 i hi)⟩

set_option maxHeartbeats 2000000 in
set_option maxRecDepth 100000 in
theorem peopleTextI (ao : Option Addr) (b off cap : Nat) (L : List Per) (w : World) (hr : Ppl w ao b off L) (hl : L.length ≤ 9223372036854775807) (ht : PowTab w) :
    Calls Tryd.prog 10 #[.slice ao L.length cap] w fun e w' => e = .returned (.string (tp L)) ∧ Below w.heap.size w w' := by
  have HR := Lib.hid hr
  have HP := Lib.hid ht
  clear hr ht
  cases hv : pplB L with
  | false =>
    have HV := Lib.hid hv
    have HT := Lib.hid (tp_f hv)
    clear hv
    go_enter Tryd.func10, Tryd.ntmps10
    go_wp2_with fail
    refine (peopleI ao b off cap L w HR.out hl).mono ?_
    rintro e w' ⟨rfl, hb⟩
    rw [HV.out]
    have HB := Lib.hid hb
    clear hb
    go_wp2_with fail
    go_ret
    exact ⟨by rw [HT.out]; rfl, HB.out⟩
  | true =>
    have HV := Lib.hid hv
    have HT := Lib.hid (tp_t hv)
    have HF := Lib.hid (ppl_fit hv)
    have h40 := (ppl_t.1 hv).1
    clear hv
    go_enter Tryd.func10, Tryd.ntmps10
    go_wp2_with fail
    refine (peopleI ao b off cap L w HR.out hl).mono ?_
    rintro e w0 ⟨rfl, hb⟩
    rw [HV.out]
    have HB0 := Lib.hid hb
    clear hb
    go_wp2_with fail
    go_loopw [3, 11] (fun v i wr => ∃ (k : Nat) (g : Nat → Nat), k ≤ L.length ∧ i = .int .i64 k ∧ MtI wr w.heap.size v (rowsOf (L.take k)) g ∧ Below w.heap.size w wr) (fun _ i _ => L.length - (intOf i).toNat)
    case atStart => exact ⟨0, fun _ => 0, Nat.zero_le _, rfl, MtG.nil _ _ _, HB0.out⟩
    case round =>
      obtain ⟨k, g, hk, rfl, hm, hb⟩ := hrel
      have HM := Lib.hid hm
      have HB := Lib.hid hb
      have hsz := hb.size
      clear hm hb
      by_cases hlt : k < L.length
      · have h2 := (HR.out.keep HB.out (Nat.le_refl _)).2 k hlt
        obtain rfl := HR.out.1 (by omega)
        obtain ⟨p, hp⟩ : ∃ p, L.getD k per0 = p := ⟨_, rfl⟩
        rw [hp] at h2
        have HPE := Lib.hid hp
        clear hp
        obtain ⟨a, j, s, y⟩ := p
        obtain ⟨c0, c1, c2, c3⟩ := h2
        simp only at c0 c1 c2 c3
        obtain ⟨W0, hW0⟩ : ∃ W0, (wr.alloc (.cells #[.int .i64 a, .int .i64 j, .int .i64 s, .int .i64 y] 47)).alloc (.cells #[.int .i64 a, .int .i64 j, .int .i64 s, .int .i64 y] 3) = W0 := ⟨_, rfl⟩
        have hb0 : Below wr.heap.size wr W0 := by rw [← hW0]; exact ((Below.refl _ _).alloc (Nat.le_refl _) _).alloc (by simp) _
        have hrow : W0.rowIs (wr.heap.size + 1) 3 4 (fun i => (rowOf ⟨a, j, s, y⟩).map (Value.int .i64) |>.getD i undef) := by
          rw [← hW0]
          have := World.rowIs_alloc (wr.alloc (.cells #[.int .i64 a, .int .i64 j, .int .i64 s, .int .i64 y] 47)) #[.int .i64 a, .int .i64 j, .int .i64 s, .int .i64 y] 3 (fun i => (rowOf ⟨a, j, s, y⟩).map (Value.int .i64) |>.getD i undef) (fun i hi => by
            have : i = 0 ∨ i = 1 ∨ i = 2 ∨ i = 3 := by simp at hi; omega
            rcases this with rfl | rfl | rfl | rfl <;> rfl)
          simpa using this
        have hL : Hid ((rowsOf (L.take k)).length = k) := by show _ = _; rw [rowsOf_len, List.length_take]; omega
        have hm0 := HM.out.below hb0
        obtain ⟨cs, hown, hcs⟩ := hm0.top
        have HOWN := Lib.hid hown
        have hsw : w.heap.size ≤ W0.heap.size := Nat.le_trans hsz hb0.size
        have HSN := Lib.hid (fun (v' : Value) (w2 : World) => hm0.snoc (v' := v') (w2 := w2) (by decide) hown hcs (r := rowOf ⟨a, j, s, y⟩) (c := 4) (fun i hi => by have := HM.out.lt hi; omega) (by omega) hrow (fun j' x hx => by
          have hj := (List.getElem?_eq_some_iff.1 hx).1
          simp [List.getD_eq_getElem?_getD, hx]) (by simp [rowOf]) (by omega))
        have HBW := Lib.hid (HB.out.trans (hb0.mono hsz))
        clear hown hcs hrow hb0 hm0
        rw [← hW0] at HOWN HSN HBW hsw
        clear hW0
        have HSW := Lib.hid hsw
        clear hsw
        go_wp2_with (at_builtin; refine wpList_appH eltR rfl (.tmp 15) (.tmp 25) rfl w.heap.size _ _ _ rfl HOWN.out [.slice (some ⟨wr.heap.size + 1, 0, none⟩) 4 4] rfl (by intro u hu; simp at hu; subst hu; rfl) rfl (wr.heap.size + 1 + 1) (by simp) rfl ?c1 HSW.out ?_)
        case c1 => rw [hL.out]; omega
        intro v' w2 ho2 hb2 hg2
        have HM2 := Lib.hid (HSN.out v' w2 ho2 hg2)
        have HB2 := Lib.hid (HBW.out.trans hb2)
        clear ho2 hb2 hg2
        go_wp2_with fail
        go_roundw
        case rel =>
          have hm2 := HM2.out
          rw [← HPE.out, ← rowsOf_take hlt] at hm2
          exact ⟨k + 1, _, by omega, by go_num, hm2, HB2.out⟩
        case measure => simp [intOf]; omega
      · obtain rfl : k = L.length := by omega
        have hme := HM.out
        rw [List.take_length] at hme
        obtain ⟨ao2, b2, c2, hv, hv1, hv2, hv3⟩ := hme.tab
        subst hv
        have HV3 := Lib.hid hv3
        have HPW := Lib.hid (HP.out.keep HB.out (Nat.le_refl _))
        clear hme hv3 HM
        go_wp2_with fail
        refine (cellsI ao2 b2 0 c2 (rowsOf L) _ [] wr HV3.out HF.out (.inl ⟨rfl, rfl⟩) HPW.out).mono ?_
        rintro e w1 ⟨rfl, hb1⟩
        have HB1 := Lib.hid hb1
        clear hb1
        go_wp2_with fail
        go_ret
        exact ⟨by rw [HT.out]; rfl, HB.out.trans (HB1.out.mono hsz)⟩

set_option maxHeartbeats 2000000 in
set_option maxRecDepth 100000 in
theorem peopleTextS (ao : Option Addr) (b off cap : Nat) (L : List Per) (w : World) (hr : Ppl w ao b off L) (hl : L.length ≤ 9223372036854775807) :
    Calls Tryd.prog 11 #[.slice ao L.length cap] w fun e w' => e = .returned (.string (tp L)) ∧ Below w.heap.size w w' := by
  have HR := Lib.hid hr
  clear hr
  cases hv : pplB L with
  | false =>
    have HV := Lib.hid hv
    have HT := Lib.hid (tp_f hv)
    clear hv
    go_enter Tryd.func11, Tryd.ntmps11
    go_wp2_with fail
    go_loopw [3, 4] (fun o i wr => i = .int .i64 0 ∧ o = .string ⟨#[]⟩ ∧ wr = w) (fun _ _ _ => 0)
    case atStart => exact ⟨rfl, rfl, rfl⟩
    case round =>
      obtain ⟨rfl, rfl, rfl⟩ := hrel
      by_cases h0 : 0 < L.length
      · go_wp2_with fail
        refine (peopleS ao b off cap L _ HR.out hl).mono ?_
        rintro e w' ⟨rfl, hb⟩
        rw [HV.out]
        have HB := Lib.hid hb
        clear hb
        go_wp2_with fail
        go_ret
        exact ⟨by rw [HT.out]; rfl, HB.out⟩
      · go_wp2_with fail
        go_ret
        exact ⟨by rw [HT.out]; rfl, Below.refl _ _⟩
  | true =>
    have HV := Lib.hid hv
    have HT := Lib.hid (tp_t hv)
    have HF := Lib.hid (ppl_fit hv)
    have h40 := (ppl_t.1 hv).1
    clear hv
    go_enter Tryd.func11, Tryd.ntmps11
    go_wp2_with fail
    go_loopw [3, 4] (fun o i wr => ∃ k : Nat, k ≤ L.length ∧ i = .int .i64 k ∧ o = .string (bs (text (rowsOf (L.take k)) [])) ∧ Below w.heap.size w wr) (fun _ i _ => L.length - (intOf i).toNat)
    case atStart => exact ⟨0, Nat.zero_le _, rfl, rfl, Below.refl _ _⟩
    case round =>
      obtain ⟨k, hk, rfl, rfl, hb⟩ := hrel
      have HB := Lib.hid hb
      have hsz := hb.size
      clear hb
      have hts := text_short (M := []) HF.out k (by rw [rowsOf_len]; exact hk)
      rw [← rowsOf_tk] at hts
      have hbz : (bs (text (rowsOf (L.take k)) [])).size ≤ 1640 := by rw [bs_size]; omega
      by_cases hlt : k < L.length
      · have HRW := Lib.hid (HR.out.keep HB.out (Nat.le_refl _))
        go_wp2_with fail
        refine (peopleS ao b off cap L _ HRW.out hl).mono ?_
        rintro e w1 ⟨rfl, hb1⟩
        rw [HV.out]
        have h2 := (HRW.out.keep hb1 (Nat.le_refl _)).2 k hlt
        have HB1 := Lib.hid (HB.out.trans (hb1.mono hsz))
        have hs1 : w.heap.size ≤ w1.heap.size := HB1.out.size
        clear hb1
        obtain rfl := HR.out.1 (by omega)
        obtain ⟨hf1, hf4, hf⟩ := HF.out.2 k (by rw [rowsOf_len]; exact hlt)
        rw [rowsOf_at hlt] at hf1 hf4 hf
        obtain ⟨p, hp⟩ : ∃ p, L.getD k per0 = p := ⟨_, rfl⟩
        rw [hp] at h2 hf1 hf4 hf
        have HPE := Lib.hid hp
        clear hp
        obtain ⟨a, j, s, y⟩ := p
        obtain ⟨c0, c1, c2, c3⟩ := h2
        simp only at c0 c1 c2 c3
        have hrow : Row .i64 ((w1.alloc (.cells #[.int .i64 a, .int .i64 j, .int .i64 s, .int .i64 y] 47)).alloc (.cells #[.int .i64 a, .int .i64 j, .int .i64 s, .int .i64 y] 3)) (some ⟨w1.heap.size + 1, 0, none⟩) (w1.heap.size + 1) 0 (rowOf ⟨a, j, s, y⟩) := by
          have := World.rowIs_alloc (w1.alloc (.cells #[.int .i64 a, .int .i64 j, .int .i64 s, .int .i64 y] 47)) #[.int .i64 a, .int .i64 j, .int .i64 s, .int .i64 y] 3 (fun i => .int .i64 ((rowOf ⟨a, j, s, y⟩).getD i 0)) (fun i hi => by
            have : i = 0 ∨ i = 1 ∨ i = 2 ∨ i = 3 := by simp at hi; omega
            rcases this with rfl | rfl | rfl | rfl <;> rfl)
          have h3 := Row.of_rowIs (xs := rowOf ⟨a, j, s, y⟩) this
          simpa using h3
        have hls := lnW_size hf hf4
        have hnum := numbersW (some ⟨w1.heap.size + 1, 0, none⟩) (w1.heap.size + 1) 0 4 (rowOf ⟨a, j, s, y⟩) _ hrow (by omega) hf
        rw [show (rowOf ⟨a, j, s, y⟩).length = 4 from rfl] at hnum
        obtain ⟨ln, hln⟩ : ∃ ln, lnW (rowOf ⟨a, j, s, y⟩) = ln := ⟨_, rfl⟩
        rw [hln] at hls hnum
        have HLN := Lib.hid hln
        have HN := Lib.hid hnum
        clear hrow hf hln hnum
        go_wp2_with fail
        refine (HN.out).mono ?_
        rintro e w2 ⟨rfl, hb2⟩
        have HB2 := Lib.hid (((HB1.out.alloc hs1 (.cells #[.int .i64 a, .int .i64 j, .int .i64 s, .int .i64 y] 47)).alloc (by simp; omega) (.cells #[.int .i64 a, .int .i64 j, .int .i64 s, .int .i64 y] 3)).trans (hb2.mono (by simp; omega)))
        clear hb2
        go_wp2_with fail
        go_roundw
        case rel =>
          refine ⟨k + 1, by omega, by go_num, ?_, HB2.out⟩
          rw [rowsOf_take hlt, Go.TextMath.text_snoc, HPE.out, ← HLN.out]
          unfold lnW
          rw [bs_add]
          rw [List.getD_nil, Go.TextMath.rowW_none]
        case measure => simp [intOf]; omega
      · obtain rfl : k = L.length := by omega
        go_wp2_with fail
        go_ret
        exact ⟨by rw [HT.out, List.take_length]; rfl, HB.out⟩
end Go.Proofs.YthncpnopplhlkaaDoor
