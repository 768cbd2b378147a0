/-
  Contract: laws.copyRows.
-/
import Derived.Test.YtcjhenfofekofaaGreatDoorYDrawMask
namespace Go.Proofs.YtcjhenfofekofaaGreatDoor
open Go.RowKit

theorem own_lit_n {base : Nat} (w : World) (hb : base ≤ w.heap.size) : (w.alloc (.cells #[] 3)).ownsRow base 3 1 (.slice (some ⟨w.heap.size, 0, none⟩) 0 0) 0 ([] : List Value) := by
  have := World.ownsRow_lit (base := base) (e := 3) (size := 1) w #[] 0 hb (by unfold maxLen; omega) (by simp)
  simpa using this
/-- append(lit, row...) of numbers that are read: a row of its own. -/
theorem wpList_copy {ops : Array Oper} {rest : List Oper} {o : Oper} {a : Act} {Q : Exit → Act → World → Prop} {w : World} (hgd : o.guard = none) (s x : Operand)
    (ho : o.op = .call { callee := .builtin .append, args := #[s, x], argTypes := #[50, 50] }) (base : Nat) (v : Value) (hs : a.eval s = v) (hown : w.ownsRow base 3 1 v 0 [])
    {b off c : Nat} {r : List Int} (hr : Row .i64 w (some ⟨b, off, none⟩) b off r) (hx : a.eval x = .slice (some ⟨b, off, none⟩) r.length c) (hl : r.length ≤ 1000000000) (hbase : base ≤ w.heap.size)
    (h : ∀ v' w', w'.ownsRow base 3 1 v' r.length (r.map (Value.int .i64)) → Below base w w' → wpList Tryz.prog ops Q rest (a.put o.dst v') w') : wpList Tryz.prog ops Q (o :: rest) a w := by
  obtain ⟨i0, hi, hz0, hz1, hz2⟩ := info_parts eltI.info
  refine wpList_append_own w hgd s x 50 ho base 3 i0 (.int .i64 0) 1 8 eltI.und hi hz0 hz1 hz2 eltI.zs eltI.pos v 0 [] hs hown ⟨b, off, none⟩ r.length c (r.map (Value.int .i64)) hx (by rw [List.length_map, Nat.mul_one]) ?_ ?_ ?_ ?_ hbase ?_
  · intro j u hu
    rw [add_none]
    rw [List.getElem?_map] at hu
    obtain ⟨y, hy, rfl⟩ := Option.map_eq_some_iff.1 hu
    have hj := (List.getElem?_eq_some_iff.1 hy).1
    have h1 := hr.2 j hj
    rw [get_of (d := 0) hj] at hy
    have hy2 := Option.some.inj hy
    rw [h1, hy2]
  · intro u hu
    obtain ⟨y, _, rfl⟩ := List.mem_map.1 hu
    rfl
  · unfold maxLen; omega
  · omega
  · intro v' w' h1 h2 _
    rw [Nat.zero_add, List.nil_append] at h1
    refine h v' w' h1 ⟨h2.os, h2.tape, h2.output, h2.size, fun k hk => h2.block k (by omega) (fun e => ?_)⟩
    have := (World.ownsRow.lt hown k e.symm).1
    omega
theorem take_next {T : List (List Int)} {k : Nat} (hk : k < T.length) : T.take k ++ [T.getD k []] = T.take (k + 1) := by
  rw [List.take_add_one, List.getD_eq_getElem?_getD, List.getElem?_eq_getElem hk]
  rfl
theorem own_rowI {w : World} {base gb n c : Nat} {r : List Int} (h : w.ownsRow base 3 1 (.slice (some ⟨gb, 0, none⟩) n c) r.length (r.map (Value.int .i64))) :
    ∃ f, w.rowIs gb 3 c f ∧ (∀ j x, r[j]? = some x → f j = Value.int .i64 x) ∧ n = r.length ∧ r.length ≤ c ∧ c ≤ 9223372036854775807 ∧ base ≤ gb := by
  have hcl := fun i u hu => World.ownsRow.cells (g := gb) h rfl i u hu
  rcases h.2 with ⟨h0, _⟩ | ⟨g2, cap2, cur2, hv2, hb2, hh2, hn2, hm2, hs2, _⟩
  · cases h0
  · injection hv2 with e1 e2 e3
    injection e1 with e1
    injection e1 with e1 _ _
    subst e1
    subst e3
    have hr2 : w.rowIs gb 3 c (fun j => cur2.getD j undef) := ⟨cur2, hh2, by rw [hs2, Nat.mul_one], fun j hj => by
      have : j < cur2.size := by rw [hs2]; omega
      simp [Array.getD, this]⟩
    refine ⟨_, hr2, fun j x hx => ?_, e2, hn2, by unfold maxLen at hm2; omega, hb2⟩
    have h1 := hcl j (Value.int .i64 x) (by rw [List.getElem?_map, hx]; rfl)
    rw [add_none, Nat.zero_add] at h1
    have hj := (List.getElem?_eq_some_iff.1 hx).1
    rw [hr2.cell (by omega)] at h1
    injection h1

set_option maxHeartbeats 2000000 in
theorem copyI (ao : Option Addr) (b off cap : Nat) (T : List (List Int)) (w : World) (hr : Tab .i64 w ao b off T) (hl : T.length ≤ 1000) (hl2 : ∀ i, i < T.length → 1 ≤ (T.getD i []).length ∧ (T.getD i []).length ≤ 1000) :
    Calls Tryz.prog 34 #[.slice ao T.length cap] w fun e w' => ∃ v g, e = .returned v ∧ MtI w' w.heap.size v T g ∧ Below w.heap.size w w' := by
  have HT := Lib.hid hr
  have HL2 := Lib.hid hl2
  clear hr hl2
  have HM1 := Lib.hid (MtG.lit (α := Int) (enc := Value.int .i64) (RT := 50) (ET := 3) w w.heap.size (fun _ => 0) (Nat.le_refl _) rfl)
  have HF1 := Lib.hid ((Below.refl w.heap.size w).alloc (Nat.le_refl _) (.cells #[] 50))
  go_enter Tryz.func34, Tryz.ntmps34
  go_wp2_with fail
  go_loopw [3, 4] (fun s i wr => ∃ (k : Nat) (g : Nat → Nat), k ≤ T.length ∧ i = .int .i64 k ∧ MtI wr w.heap.size s (T.take k) g ∧ Below w.heap.size w wr) (fun _ i _ => T.length - (intOf i).toNat)
  case atStart => exact ⟨0, _, Nat.zero_le _, rfl, HM1.out, HF1.out⟩
  case round =>
    clear HM1 HF1
    obtain ⟨k, g, hk, rfl, hm, hf⟩ := hrel
    have HM := Lib.hid hm
    have HF := Lib.hid hf
    have hsw := hf.size
    have hML : Hid ((T.take k).length = k) := Lib.hid (by rw [List.length_take]; omega)
    clear hm hf
    by_cases hlt : k < T.length
    · have hT2 := HT.out.keep HF.out (Nat.le_refl _)
      obtain ⟨a', b', o', c', hcell, hrow, hc1, hc2⟩ := hT2.2 k hlt
      obtain rfl := HT.out.1 (by omega)
      obtain ⟨hn1, hn2⟩ := HL2.out k hlt
      have HTK := Lib.hid (take_next hlt)
      obtain ⟨r, hrr⟩ : ∃ r, T.getD k [] = r := ⟨_, rfl⟩
      rw [hrr] at hcell hrow hc1 hn1 hn2 HTK
      obtain rfl := hrow.1 (by omega)
      obtain ⟨MT, hMT⟩ : ∃ MT, T.take k = MT := ⟨_, rfl⟩
      rw [hMT] at HM hML HTK
      obtain ⟨n, hn⟩ : ∃ n, r.length = n := ⟨_, rfl⟩
      rw [hn] at hcell hc1 hn1 hn2
      have hRa := hrow.keep ((Below.refl wr.heap.size wr).alloc (Nat.le_refl _) (.cells #[] 3)) (Nat.le_refl _)
      have hcellA : (wr.alloc (.cells #[] 3)).cell? ⟨b, off + k, none⟩ = some (.slice (some ⟨b', o', none⟩) n c') := (World.cell?_of_block (a := ⟨b, off + k, none⟩) (Below.heap_alloc wr _ b (World.block_lt_of_cell? _ _ hcell))).trans hcell
      have HO1 := Lib.hid (own_lit_n (base := wr.heap.size) wr (Nat.le_refl _))
      have HRA := Lib.hid hRa
      have HN := Lib.hid hn
      have HBa := Lib.hid ((Below.refl wr.heap.size wr).alloc (Nat.le_refl _) (.cells #[] 3))
      have hsa : wr.heap.size ≤ (wr.alloc (.cells #[] 3)).heap.size := HBa.out.size
      have HSA := Lib.hid hsa
      have hr9 : Hid (r.length ≤ 1000000000) := Lib.hid (by omega)
      clear hrow hRa hsa hn hrr hMT
      go_wp2_with (at_builtin; refine wpList_copy rfl (.tmp 13) (.tmp 17) rfl wr.heap.size _ rfl HO1.out HRA.out (by rw [HN.out]; rfl) hr9.out HSA.out ?_)
      intro v1 w1 ho1 hb1
      obtain ⟨ao1, b1, cap1, hv1, -, -, h31, -⟩ := orow_cells ho1
      obtain ⟨rfl, -, -⟩ := h31 (by rw [HN.out]; omega)
      subst hv1
      have HB1 := Lib.hid (HBa.out.trans hb1)
      have HMx := Lib.hid (HM.out.below HB1.out)
      obtain ⟨f, hrow, hfr, -, hd1, hd2, hbg⟩ := own_rowI ho1
      obtain ⟨cs, hown, hcs⟩ := HMx.out.top
      have HO := Lib.hid hown
      have hwx : w.heap.size ≤ w1.heap.size := Nat.le_trans hsw HB1.out.size
      have HSN := Lib.hid (fun (v' : Value) (w2 : World) => HMx.out.snoc (v' := v') (w2 := w2) (by decide) hown hcs (r := r) (c := cap1) (fun i hi => by have := HM.out.lt hi; omega) (by omega) hrow hfr hd1 hd2)
      rw [HTK.out] at HSN
      have hm4 : Hid (MT.length ≤ 1000000000) := Lib.hid (by rw [hML.out]; omega)
      have HWX := Lib.hid hwx
      have HFO := Lib.hid (HF.out.trans (HB1.out.mono hsw))
      clear hown hcs hrow hfr hd1 ho1 hb1 h31
      go_wp2_with (at_builtin; refine wpList_app eltR rfl (.tmp 12) (.tmp 19) rfl w.heap.size _ _ _ rfl HO.out [_] rfl (by intro u hu; simp at hu; subst hu; rfl) rfl rfl hm4.out HWX.out ?_)
      intro v' w4 ho4 hb4 hg4
      have HM4 := Lib.hid (HSN.out v' w4 ho4 hg4)
      have HF4 := Lib.hid (HFO.out.trans hb4)
      clear ho4 hb4 hg4
      go_wp2_with fail
      go_roundw
      case rel => exact ⟨k + 1, _, by omega, by go_num, HM4.out, HF4.out⟩
      case measure => simp [intOf]; omega
    · obtain rfl : k = T.length := by omega
      have hmf := HM.out
      rw [List.take_of_length_le (Nat.le_refl _)] at hmf
      have HMF := Lib.hid hmf
      clear hmf
      go_wp2_with fail
      go_ret
      exact ⟨_, _, rfl, HMF.out, HF.out⟩
end Go.Proofs.YtcjhenfofekofaaGreatDoor
