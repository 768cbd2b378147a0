/-
  Contracts: slices.Clone of a row of flags, impl.copyTable of flags.
-/
import Derived.Test.YtlmlchkolcmhpaaGreatDoorJ4
import Derived.Test.YtlmlchkolcmhpaaGreatDoorYDrawMask
import Derived.Lib.SliceRun
namespace Go.Proofs.YtlmlchkolcmhpaaGreatDoor
open Go.RowKit

theorem wpList_copyB {ops : Array Oper} {rest : List Oper} {o : Oper} {a : Act} {Q : Exit → Act → World → Prop} {w : World} (hgd : o.guard = none) (s x : Operand)
    (ho : o.op = .call { callee := .builtin .append, args := #[s, x], argTypes := #[98, 98] }) (base : Nat) (v : Value) (hs : a.eval s = v) (hown : w.ownsRow base 4 1 v 0 [])
    {b off c : Nat} {r : List Bool} (hr : RowB w (some ⟨b, off, none⟩) b off r) (hx : a.eval x = .slice (some ⟨b, off, none⟩) r.length c) (hl : r.length ≤ 1000000000) (hbase : base ≤ w.heap.size)
    (h : ∀ v' w', w'.ownsRow base 4 1 v' r.length (r.map Value.bool) → Below base w w' → wpList Tryz.prog ops Q rest (a.put o.dst v') w') : wpList Tryz.prog ops Q (o :: rest) a w := by
  obtain ⟨i0, hi, hz0, hz1, hz2⟩ := info_parts eltB.info
  refine wpList_append_own w hgd s x 98 ho base 4 i0 (.bool false) 1 1 eltB.und hi hz0 hz1 hz2 eltB.zs eltB.pos v 0 [] hs hown ⟨b, off, none⟩ r.length c (r.map Value.bool) hx (by rw [List.length_map, Nat.mul_one]) ?_ ?_ ?_ ?_ hbase ?_
  · intro j u hu
    rw [add_none]
    rw [List.getElem?_map] at hu
    obtain ⟨y, hy, rfl⟩ := Option.map_eq_some_iff.1 hu
    have hj := (List.getElem?_eq_some_iff.1 hy).1
    have h1 := hr.2 j hj
    rw [get_of (d := false) hj] at hy
    have hy2 := Option.some.inj hy
    rw [h1, hy2]
  · intro u hu
    obtain ⟨y, _, rfl⟩ := List.mem_map.1 hu
    rfl
  · unfold maxLen; omega
  · omega
  · intro v' w' h1 h2 _
    rw [Nat.zero_add, List.nil_append] at h1
    refine h v' w' h1 ⟨h2.os, h2.tape, h2.output, h2.size, fun k hk => h2.block k (by omega) (fun e => ?_)⟩
    have := (World.ownsRow.lt hown k e.symm).1
    omega

set_option maxHeartbeats 1000000 in
set_option maxRecDepth 100000 in
theorem cloneB (b off cap : Nat) (r : List Bool) (w : World) (hr : RowB w (some ⟨b, off, none⟩) b off r) (h1 : 1 ≤ r.length) (hl : r.length ≤ 1000) :
    Calls Tryz.prog 116 #[.slice (some ⟨b, off, none⟩) r.length cap] w fun e w' => ∃ gb c f, e = .returned (.slice (some ⟨gb, 0, none⟩) r.length c) ∧ w'.rowIs gb 4 c f ∧ (∀ j x, r[j]? = some x → f j = Value.bool x) ∧ r.length ≤ c ∧ c ≤ 9223372036854775807 ∧ w.heap.size ≤ gb ∧ Below w.heap.size w w' := by
  have q22 : ∀ (w : World) (a : Option Addr) (n c n' c' : Nat), (binOp .eql 98 (.slice a n c) (.slice none n' c')).run Tryz.prog w = .ok (.bool a.isNone) w := fun w a n c n' c' => Lib.run_eql_slice_nil w _ _ a n c n' c' Tryz.underlying98
  have hb1 := (Below.refl w.heap.size w).alloc (Nat.le_refl _) (.cells #[] 4)
  have HB1 := Lib.hid hb1
  have HR := Lib.hid (hr.keep hb1 (Nat.le_refl _))
  have HN := Lib.hid (own_lit (base := w.heap.size) w (Nat.le_refl _) rfl)
  have H1 := Lib.hid h1
  have HL := Lib.hid hl
  clear hr hb1 h1 hl
  go_enter Tryz.func116, Tryz.ntmps116
  go_wp2_with (at_builtin; refine wpList_copyB rfl (.tmp 5) (.tmp 6) rfl w.heap.size _ rfl HN.out HR.out rfl (by have := HL.out; omega) (by simp) ?_)
  intro v' w2 ho2 hb2
  have HO2 := Lib.hid ho2
  have HB2 := Lib.hid (HB1.out.trans hb2)
  clear ho2 hb2
  go_wp2_with fail
  go_ret
  rcases HO2.out.2 with ⟨hv, h0⟩ | ⟨g', cap', cur, hv, -⟩
  · have := H1.out
    first
      | omega
      | (have h2 := h0.1; omega)
      | (simp at h0; have := HO2.out.1; simp_all)
  · subst hv
    obtain ⟨f, q1, q2, q3, q4, q5, q6⟩ := own_rowIs HO2.out
    exact ⟨g', cap', f, rfl, q1, q2, q4, q5, q6, HB2.out⟩

set_option maxHeartbeats 2000000 in
theorem copyB (b cap : Nat) (M : List (List Bool)) (w : World) (hr : TabB w (some ⟨b, 0, none⟩) b 0 M) (hl : M.length ≤ 100) (hl2 : ∀ i, i < M.length → 1 ≤ (M.getD i []).length ∧ (M.getD i []).length ≤ 100) :
    Calls Tryz.prog 79 #[.slice (some ⟨b, 0, none⟩) M.length cap] w fun e w' => ∃ g, e = .returned (.slice (some ⟨w.heap.size, 0, none⟩) M.length M.length) ∧ MtB w' w.heap.size (.slice (some ⟨w.heap.size, 0, none⟩) M.length M.length) M g ∧ Below w.heap.size w w' := by
  have HR := Lib.hid hr
  have HL2 := Lib.hid hl2
  obtain ⟨h, hh⟩ : ∃ h, M.length = h := ⟨_, rfl⟩
  have HH := Lib.hid hh
  rw [hh] at hl ⊢
  clear hr hl2 hh
  have hmt : ∀ W : World, (Instr.makeSlice 75 (.int .i64 (h : Int)) (.int .i64 (h : Int))).run Tryz.prog W = .ok (.slice (some ⟨W.heap.size, 0, none⟩) h h) (W.alloc (.cells (madeCells #[.slice none 0 0] h) 98)) :=
    fun W => run_make_row' 75 98 _ 24 Tryz.underlying75 eltRB.info rfl .i64 .i64 h (by omega) (by omega) W
  go_enter Tryz.func79, Tryz.ntmps79
  go_wp2_with fail
  go_loopw [11] (fun i wr => ∃ (k : Nat) (g c : Nat → Nat), k ≤ h ∧ i = .int .i64 k ∧ Below w.heap.size w wr ∧
      wr.rowIs w.heap.size 98 h (fun i => if i < k then .slice (some ⟨g i, 0, none⟩) (M.getD i []).length (c i) else .slice none 0 0) ∧
      (∀ i, i < k → w.heap.size + 1 ≤ g i ∧ (M.getD i []).length ≤ c i ∧ c i ≤ 9223372036854775807 ∧ ∃ f, wr.rowIs (g i) 4 (c i) f ∧ ∀ j x, (M.getD i [])[j]? = some x → f j = Value.bool x) ∧ (∀ i j, i < k → j < k → g i = g j → i = j)) (fun i _ => h - (intOf i).toNat)
  case atStart =>
    exact ⟨0, fun _ => 0, fun _ => 0, Nat.zero_le _, rfl, (Below.refl _ _).alloc (Nat.le_refl _) _, (World.rowIs_made w _ _ _).congr fun i _ => by rw [if_neg (by omega)], fun i hi => absurd hi (by omega), fun i j hi => absurd hi (by omega)⟩
  case round =>
    obtain ⟨k, g, c, hk, rfl, hb, ht, hrw, hin⟩ := hrel
    have HB := Lib.hid hb
    have HT := Lib.hid ht
    have HRW := Lib.hid hrw
    have HIN := Lib.hid hin
    clear hb ht hrw hin
    by_cases hlt : k < h
    · obtain ⟨a1, b1, o1, c1, e1, e2, -, -⟩ := (HR.out.keep HB.out (Nat.le_refl _)).2 k (by rw [HH.out]; exact hlt)
      rw [Nat.zero_add] at e1
      obtain ⟨l1, l2⟩ := HL2.out k (by rw [HH.out]; exact hlt)
      obtain rfl := e2.1 (by omega)
      have HCL := Lib.hid (cloneB b1 o1 c1 (M.getD k []) wr e2 l1 (by omega))
      have hli : (k : Int) < (h : Int) := by omega
      obtain ⟨m, hm⟩ : ∃ m, (M.getD k []).length = m := ⟨_, rfl⟩
      rw [hm] at e1 HCL
      have HM := Lib.hid hm
      clear e2 l1 l2 hm
      go_wp2_with fail
      refine (HCL.out).mono ?_
      rintro e w2 ⟨gb, cb, f, rfl, hrb, hrx, hc1, hc2, hgb, hb2⟩
      have hrlt := hrb.lt
      have htw : w2.rowIs w.heap.size 98 h (fun i => if i < k then .slice (some ⟨g i, 0, none⟩) (M.getD i []).length (c i) else .slice none 0 0) := HT.out.of_block (hb2.block _ HT.out.lt)
      have HTW := Lib.hid htw
      have hcell := htw.cell hlt
      have hfr := htw.frozen k
      rw [if_neg (Nat.lt_irrefl _)] at hcell
      have HB2 := Lib.hid hb2
      have HRB := Lib.hid hrb
      have HRX := Lib.hid hrx
      have HCC := Lib.hid (And.intro hc1 hc2)
      have HGB := Lib.hid hgb
      clear hb2 htw hrb hrx hc1 hc2 hgb hrlt
      go_wp2_with fail
      go_roundw
      case rel =>
        have hws : w.heap.size + 1 ≤ wr.heap.size := HT.out.lt
        have hgb := HGB.out
        have hfresh : ∀ i, i < k → g i < wr.heap.size := fun i hi => by
          obtain ⟨_, _, _, f, hf, _⟩ := HRW.out i hi
          exact hf.lt
        refine ⟨k + 1, fun i => if i = k then gb else g i, fun i => if i = k then cb else c i, by omega, by go_num, (HB.out.trans (HB2.out.mono (by omega))).setCell (p := ⟨w.heap.size, k, none⟩) (Nat.le_refl _) _, ?_, fun i hi => ?_, fun i j hi hj e => ?_⟩
        · refine (HTW.out.set k _).congr fun i hi => ?_
          by_cases e : i = k
          · subst e
            rw [if_pos rfl, if_pos (by omega)]
            dsimp only
            rw [if_pos rfl, if_pos rfl, HM.out]
          · rw [if_neg e]
            by_cases e2 : i < k
            · rw [if_pos e2, if_pos (by omega)]
              dsimp only
              rw [if_neg e, if_neg e]
            · rw [if_neg e2, if_neg (by omega)]
        · dsimp only
          by_cases e : i = k
          · subst e
            rw [if_pos rfl, if_pos rfl]
            refine ⟨by omega, by rw [HM.out]; exact HCC.out.1, HCC.out.2, f, HRB.out.setOther (by simp only; omega) _, HRX.out⟩
          · rw [if_neg e, if_neg e]
            obtain ⟨h1, h2, h3, f', h4, h5⟩ := HRW.out i (by omega)
            exact ⟨h1, h2, h3, f', (h4.of_block (HB2.out.block _ h4.lt)).setOther (by simp only; omega) _, h5⟩
        · dsimp only at e
          by_cases e1 : i = k
          · by_cases e2 : j = k
            · omega
            · rw [if_pos e1, if_neg e2] at e
              have := hfresh j (by omega)
              omega
          · by_cases e2 : j = k
            · rw [if_neg e1, if_pos e2] at e
              have := hfresh i (by omega)
              omega
            · rw [if_neg e1, if_neg e2] at e
              exact HIN.out i j (by omega) (by omega) e
      case measure => simp [intOf]; omega
    · obtain rfl : k = h := by omega
      go_wp2_with fail
      go_ret
      refine ⟨g, rfl, ?_, HB.out⟩
      have := mt_of_rows (enc := Value.bool) (RT := 98) (ET := 4) (w := wr) (base := w.heap.size) (b := w.heap.size) (T := M) (g := g) (c := c) (Nat.le_refl _) (by rw [HH.out]; omega)
        (by rw [HH.out]; exact HT.out.congr fun i hi => by rw [if_pos hi]) (fun i hi => by have := (HRW.out i (by rw [← HH.out]; exact hi)).1; omega) (fun i j hi hj e => HIN.out i j (by rw [← HH.out]; exact hi) (by rw [← HH.out]; exact hj) e)
        (fun i hi => by
          rw [HH.out] at hi
          obtain ⟨_, h2, h3, f, h4, h5⟩ := HRW.out i hi
          exact ⟨h2, h3, f, h4, h5⟩)
      rw [HH.out] at this
      exact this
end Go.Proofs.YtlmlchkolcmhpaaGreatDoor
