/-
  Contract: spec.l33Rows: questions as rows of zeros and ones.
-/
import Derived.Test.YtjglikccikeejabRankS2
import Derived.Test.YtjglikccikeejabPow2
import Derived.Deep.RegionLaw
namespace Go.Proofs.Ytjglikccikeejab
open Go.RowKit
open Go.AskMath (Mat)

theorem Try.info22 : (Try.prog.info? 23).map (fun i => (i.zero, i.size, i.bytes)) = some (some (.slice none 0 0), 1, 24) := by kernel_rfl

/-- append of one number as a step of a region that draws its order. -/
theorem step_app1 {ops : Array Oper} {o : Oper} {a : Act} {w0 : World} {ob : Obj} {K : Act → World → Prop} {Q : Exit → Act → World → Prop} {E : Prop} (hg : o.guard = none) (s x : Operand)
    (ho : o.op = .call { callee := .builtin .append, args := #[s, x], argTypes := #[23, 23] }) (base : Nat) (v : Value) (zs : List Int) (hs : a.eval s = v) (hown : Own w0 base v zs)
    (z : Int) (hob : ob = .cells #[.int .i64 z] 3) (hx : a.eval x = .slice (some ⟨w0.heap.size, 0, none⟩) 1 1) (hl : zs.length ≤ 1000000000) (hbase : base ≤ w0.heap.size)
    (h : ∀ v' w', Own w' base v' (zs ++ [z]) → Below base w0 w' → w0.grownBy w' v.ownBlock → K (a.put o.dst v') w') :
    if Region.wanted o (yielded ops a.tmps) = true then o.wp Try.prog a (w0.alloc ob) K Q else E := by
  have hw : Region.wanted o (yielded ops a.tmps) = true := by simp [Region.wanted, hg]
  rw [if_pos hw]
  exact wp_app1 s x ho base v zs hs hown z hob hx hl hbase h

/-- The first k rows of a matrix that is being made. -/
structure Part (w : World) (base : Nat) (v : Value) (k n : Nat) (g cp : Nat → Nat) (X : Mat) : Prop where
  top : w.ownsRow base 23 1 v k ((List.range k).map fun i => Value.slice (some ⟨g i, 0, none⟩) n (cp i))
  row : ∀ i, i < k → ∃ f, w.rowIs (g i) 3 (cp i) f ∧ ∀ j, j < n → f j = .int .i64 (X i j)
  nle : ∀ i, i < k → n ≤ cp i
  baseG : ∀ i, i < k → base ≤ g i
  inj : ∀ i j, i < k → j < k → g i = g j → i = j

theorem Part.ltR {w : World} {base : Nat} {v : Value} {k n : Nat} {g cp : Nat → Nat} {X : Mat} (h : Part w base v k n g cp X) {i : Nat} (hi : i < k) : g i < w.heap.size := by
  obtain ⟨f, hf, _⟩ := h.row i hi
  exact hf.lt

theorem Part.below {w w' : World} {base : Nat} {v : Value} {k n : Nat} {g cp : Nat → Nat} {X : Mat} (h : Part w base v k n g cp X) {B : Nat} (hb : Below B w w') (hB : w.heap.size ≤ B) : Part w' base v k n g cp X := by
  refine ⟨World.ownsRow.kept (row := none) h.top ⟨hb.os, hb.tape, hb.output, hb.size, fun i hi _ => hb.block i (by omega)⟩ (by cases hv : v.ownBlock <;> simp), fun i hi => ?_, h.nle, h.baseG, h.inj⟩
  obtain ⟨f, hf, he⟩ := h.row i hi
  exact ⟨f, hf.of_block (hb.block _ (Nat.lt_of_lt_of_le hf.lt hB)), he⟩

/-- The matrix's own block is none of the rows'. -/
theorem own_ne {w : World} {base : Nat} {tb k c : Nat} {mc : Nat} {l : List Value} {f : Nat → Value} {x : Nat} (h : w.ownsRow base 23 1 (.slice (some ⟨tb, 0, none⟩) k mc) k l) (hr : w.rowIs x 3 c f) : x ≠ tb := by
  rintro rfl
  rcases h.2 with ⟨h1, _⟩ | ⟨g, cap, cur, hv, _, hh, _⟩
  · cases h1
  · injection hv with hv
    injection hv with hv
    injection hv with hv
    subst hv
    obtain ⟨c2, h2, _⟩ := hr
    rw [hh] at h2
    injection h2 with h2
    injection h2 with _ h2
    simp at h2

theorem own_shape {w : World} {base : Nat} {v : Value} {zs : List Int} (h : Own w base v zs) (h0 : 0 < zs.length) :
    ∃ x c f, v = .slice (some ⟨x, 0, none⟩) zs.length c ∧ base ≤ x ∧ w.rowIs x 3 c f ∧ zs.length ≤ c ∧ ∀ j, j < zs.length → f j = .int .i64 (zs.getD j 0) := by
  rcases h.2 with ⟨_, h1⟩ | ⟨g, cap, cur, hv, hb, hh, hn, hm, hs, ht⟩
  · omega
  · refine ⟨g, cap, fun i => cur[i]?.getD (.bool false), hv, hb, ⟨cur, hh, by omega, fun i hi => ?_⟩, hn, fun j hj => ?_⟩
    · have hi2 : i < cur.size := by omega
      simp [hi2]
    · have h4 := congrArg (fun l => l[j]?) ht
      simp only [Nat.mul_one, List.getElem?_take, hj, if_true, List.getElem?_map, Array.getElem?_toList] at h4
      show cur[j]?.getD (.bool false) = _
      rw [h4, List.getElem?_eq_getElem hj]
      simp [List.getD_eq_getElem?_getD, List.getElem?_eq_getElem hj]

/-- One row more. -/
theorem Part.snoc {w w' : World} {base : Nat} {v v' : Value} {k n : Nat} {g cp : Nat → Nat} {X : Mat} (h : Part w base v k n g cp X) {x c : Nat} {f : Nat → Value} (hf : w.rowIs x 3 c f) (hX : ∀ j, j < n → f j = .int .i64 (X k j)) (hc : n ≤ c) (hb : base ≤ x) (hx : ∀ i, i < k → g i ≠ x)
    (ht : w'.ownsRow base 23 1 v' (k + 1) ((List.range k).map (fun i => Value.slice (some ⟨g i, 0, none⟩) n (cp i)) ++ [Value.slice (some ⟨x, 0, none⟩) n c])) (hg : w.grownBy w' v.ownBlock) :
    Part w' base v' (k + 1) n (upd g k x) (upd cp k c) X := by
  have hkeep : ∀ y d (e : Nat → Value), w.rowIs y 3 d e → w'.rowIs y 3 d e := fun y d e hy => by
    refine hy.of_block (hg.block y hy.lt fun e2 => ?_)
    rcases h.top.2 with ⟨h1, _⟩ | ⟨tb, mc, cur, hv, r1, r2, r3⟩
    · rw [h1] at e2; simp [Value.ownBlock] at e2
    · have h2 := h.top
      rw [hv] at e2 h2
      simp [Value.ownBlock] at e2
      exact own_ne h2 hy e2
  refine ⟨?_, fun i hi => ?_, fun i hi => ?_, fun i hi => ?_, fun i j hi hj e => ?_⟩
  · rw [List.range_succ, List.map_append]
    have e1 : (List.range k).map (fun i => Value.slice (some ⟨upd g k x i, 0, none⟩) n (upd cp k c i)) = (List.range k).map (fun i => Value.slice (some ⟨g i, 0, none⟩) n (cp i)) := by
      refine List.map_congr_left fun i hi => ?_
      have := List.mem_range.1 hi
      unfold upd; rw [if_neg (by omega), if_neg (by omega)]
    rw [e1]
    simp only [List.map_cons, List.map_nil, upd, if_true]
    exact ht
  · by_cases e : i = k
    · subst e
      exact ⟨f, by unfold upd; rw [if_pos rfl, if_pos rfl]; exact hkeep _ _ _ hf, hX⟩
    · obtain ⟨fr, hfr, her⟩ := h.row i (by omega)
      exact ⟨fr, by unfold upd; rw [if_neg e, if_neg e]; exact hkeep _ _ _ hfr, her⟩
  · unfold upd; split
    · exact hc
    · exact h.nle i (by omega)
  · unfold upd; split
    · exact hb
    · exact h.baseG i (by omega)
  · unfold upd at e
    by_cases e1 : i = k
    · by_cases e2 : j = k
      · omega
      · rw [if_pos e1, if_neg e2] at e; exact absurd e.symm (hx j (by omega))
    · by_cases e2 : j = k
      · rw [if_neg e1, if_pos e2] at e; exact absurd e (hx i (by omega))
      · rw [if_neg e1, if_neg e2] at e; exact h.inj i j (by omega) (by omega) e

/-- The whole matrix. -/
theorem Part.mx {w : World} {base : Nat} {v : Value} {k n : Nat} {g cp : Nat → Nat} {X : Mat} (h : Part w base v k n g cp X) {tb mc : Nat} (hv : v = .slice (some ⟨tb, 0, none⟩) k mc) : Mx w base tb mc k n g cp X := by
  subst hv
  obtain ⟨tb', mc', cur, hv, hb, hh, hk, hm, hs, ht⟩ : ∃ tb' mc' cur, Value.slice (some ⟨tb, 0, none⟩) k mc = .slice (some ⟨tb', 0, none⟩) k mc' ∧ base ≤ tb' ∧ w.heap[tb']? = some (.cells cur 23 (0, 0)) ∧ k ≤ mc' ∧ mc' ≤ maxLen ∧ cur.size = mc' * 1 ∧ cur.toList.take (k * 1) = (List.range k).map fun i => Value.slice (some ⟨g i, 0, none⟩) n (cp i) := by
    rcases h.top.2 with ⟨h1, _⟩ | ⟨a, b, c, h1⟩
    · cases h1
    · exact ⟨a, b, c, h1⟩
  injection hv with h1 h2 h3
  injection h1 with h1
  injection h1 with h1
  subst h1; subst h3
  refine ⟨⟨fun i => cur[i]?.getD (.bool false), ⟨cur, hh, by omega, fun i hi => ?_⟩, fun i hi => ?_⟩, hk, h.row, h.nle, hb, h.baseG, fun i hi => ?_, h.inj⟩
  · have hi2 : i < cur.size := by omega
    simp [hi2]
  · have h4 := congrArg (fun l => l[i]?) ht
    simp only [Nat.mul_one, List.getElem?_take, hi, if_true, List.getElem?_map, List.getElem?_range hi, Option.map_some, Array.getElem?_toList] at h4
    show cur[i]?.getD (.bool false) = _
    rw [h4]; rfl
  · obtain ⟨f, hf, _⟩ := h.row i hi
    exact own_ne h.top hf

/-- append of one row to a slice of rows of the call's own: the row's header lies in a block of its own. -/
theorem wp_appR {o : Oper} {a : Act} {K : Act → World → Prop} {Q : Exit → Act → World → Prop} {w0 : World} {ob : Obj} (s x : Operand)
    (ho : o.op = .call { callee := .builtin .append, args := #[s, x], argTypes := #[47, 47] }) (base : Nat) (v : Value) (k : Nat) (l : List Value) (hs : a.eval s = v) (hown : w0.ownsRow base 23 1 v k l)
    (zb zn zc : Nat) (hob : ob = .cells #[.slice (some ⟨zb, 0, none⟩) zn zc] 23) (hx : a.eval x = .slice (some ⟨w0.heap.size, 0, none⟩) 1 1) (hl : k ≤ 1000000000) (hbase : base ≤ w0.heap.size)
    (h : ∀ v' w', w'.ownsRow base 23 1 v' (k + 1) (l ++ [.slice (some ⟨zb, 0, none⟩) zn zc]) → Below base w0 w' → w0.grownBy w' v.ownBlock → K (a.put o.dst v') w') : o.wp Try.prog a (w0.alloc ob) K Q := by
  subst hob
  obtain ⟨i0, hi, hz0, hz1, hz2⟩ := info_parts Try.info22
  refine wp_append_own _ s x 47 ho base 23 i0 (.slice none 0 0) 1 24 Try.underlying47 hi hz0 hz1 hz2 rfl (by decide) v k _ hs (World.ownsRow.alloc hown _) ⟨w0.heap.size, 0, none⟩ 1 1 [.slice (some ⟨zb, 0, none⟩) zn zc] hx rfl ?_ ?_ ?_ ?_ (by simp; omega) ?_
  · intro j u hj
    match j, hj with
    | 0, hj => simp at hj; subst hj; simp [Addr.add]
  · intro u hu; simp at hu; subst hu; rfl
  · unfold maxLen; omega
  · omega
  · intro v' w' h1 h2 _
    have hsz := h2.size
    simp only [World.size_alloc] at hsz
    have hg : w0.grownBy w' v.ownBlock := ⟨h2.os, h2.tape, h2.output, by omega, fun k hk hne => (h2.block k (by simp; omega) hne).trans (Below.heap_alloc _ _ _ hk)⟩
    refine h v' w' ?_ ?_ hg
    · simpa using h1
    · refine ⟨h2.os, h2.tape, h2.output, by omega, fun k hk => hg.block k (by omega) (fun e => ?_)⟩
      have := (World.ownsRow.lt hown k e.symm).1
      omega

theorem wpList_appR {ops : Array Oper} {rest : List Oper} {o : Oper} {a : Act} {Q : Exit → Act → World → Prop} {w0 : World} {ob : Obj} (hw : Region.wanted o (yielded ops a.tmps) = true) (s x : Operand)
    (ho : o.op = .call { callee := .builtin .append, args := #[s, x], argTypes := #[47, 47] }) (base : Nat) (v : Value) (k : Nat) (l : List Value) (hs : a.eval s = v) (hown : w0.ownsRow base 23 1 v k l)
    (zb zn zc : Nat) (hob : ob = .cells #[.slice (some ⟨zb, 0, none⟩) zn zc] 23) (hx : a.eval x = .slice (some ⟨w0.heap.size, 0, none⟩) 1 1) (hl : k ≤ 1000000000) (hbase : base ≤ w0.heap.size)
    (h : ∀ v' w', w'.ownsRow base 23 1 v' (k + 1) (l ++ [.slice (some ⟨zb, 0, none⟩) zn zc]) → Below base w0 w' → w0.grownBy w' v.ownBlock → wpList Try.prog ops Q rest (a.put o.dst v') w') : wpList Try.prog ops Q (o :: rest) a (w0.alloc ob) :=
  wpList_want hw fun _ hK => wp_appR s x ho base v k l hs hown zb zn zc hob hx hl hbase fun v' w' h1 h2 h3 => hK _ _ (h v' w' h1 h2 h3)

set_option maxHeartbeats 2000000 in
theorem rowsS_any (n : Nat) (ao : Option Addr) (b off cap : Nat) (xs : List Int) (w : World) (hr : Row .i64 w ao b off xs) (hn1 : 1 ≤ n) (hn : n ≤ 6) (hl : xs.length ≤ 1000) (hx : ∀ i, i < xs.length → 0 ≤ xs.getD i 0 ∧ xs.getD i 0 ≤ 1000) :
    Calls Try.prog 44 #[.int .i64 n, .slice ao xs.length cap] w fun e w' => ∃ tb mc g cp, e = .returned (.slice (some ⟨tb, 0, none⟩) xs.length mc) ∧
      Mx w' w.heap.size tb mc xs.length n g cp (fun i j => Go.AskMath.bits n (xs.getD i 0) j) ∧ Below w.heap.size w w' := by
  obtain ⟨ha, hc⟩ := hr
  obtain ⟨i1, hi, hz0, hz1, hz2⟩ := info_parts Try.info22
  have HX := Lib.hid hx
  have HC := Lib.hid hc
  have HA := Lib.hid ha
  have HI := Lib.hid (show _ ∧ _ ∧ _ ∧ _ from ⟨hi, hz0, hz1, hz2⟩)
  clear hx hc ha hi hz0 hz1 hz2
  go_enter Try.func44, Try.ntmps44
  go_wp2_with fail
  go_loopw [5, 6] (fun v si wr => ∃ (k : Nat) (g cp : Nat → Nat), k ≤ xs.length ∧ si = .int .i64 k ∧ (∃ tb mc, v = .slice (some ⟨tb, 0, none⟩) k mc) ∧ Part wr w.heap.size v k n g cp (fun i j => Go.AskMath.bits n (xs.getD i 0) j) ∧ Below w.heap.size w wr) (fun _ si _ => xs.length - (intOf si).toNat)
  case atStart =>
    refine ⟨0, fun _ => 0, fun _ => 0, Nat.zero_le _, rfl, ⟨_, _, rfl⟩, ⟨?_, fun i hi => absurd hi (by omega), fun i hi => absurd hi (by omega), fun i hi => absurd hi (by omega), fun i j hi => absurd hi (by omega)⟩, (Below.refl _ _).alloc (Nat.le_refl _) _⟩
    have := World.ownsRow_lit (base := w.heap.size) (e := 23) (size := 1) w #[] 0 (Nat.le_refl _) (by unfold maxLen; omega) (by simp)
    simpa using this
  case round =>
    obtain ⟨k, g, cp, hk, rfl, hvs, hP, hB⟩ := hrel
    have HVS := Lib.hid hvs
    clear hvs
    have HP := Lib.hid hP
    have HB := Lib.hid hB
    clear hP hB
    by_cases hlt : k < xs.length
    · have hxk := HX.out k hlt
      obtain ⟨x, hxe⟩ : ∃ x, xs.getD k 0 = x := ⟨_, rfl⟩
      have hck := HC.out k hlt
      have hbw := World.block_lt_of_cell? _ _ hck
      rw [hxe] at hxk hck
      have HXE := Lib.hid hxe
      have HCK := Lib.hid hck
      obtain rfl := HA.out (by omega)
      clear hxe hck
      obtain ⟨hx0, hx1⟩ := hxk
      go_wp2_with fail
      have hsz := HB.out.size
      obtain ⟨wo, hwo⟩ : ∃ wo : World, wo = wr := ⟨_, rfl⟩
      obtain ⟨B0, hB0⟩ : ∃ B0, wo.heap.size = B0 := ⟨_, rfl⟩
      rw [← hwo] at HP HB hsz ⊢
      have HO0 := Lib.hid (Own.lit (w := wo) (base := wo.heap.size) [] (Nat.le_refl _) (by simp))
      have HB00 := Lib.hid ((Below.refl wo.heap.size wo).alloc (Nat.le_refl _) (.cells #[] 3))
      rw [hB0] at HO0 HB00 hsz ⊢
      have HB0 := Lib.hid hB0
      clear hB0 hwo
      go_loopw [7, 8] (fun v sj wj => ∃ (j : Nat), j ≤ n ∧ sj = .int .i64 j ∧ Own wj B0 v ((List.range j).map fun l => Go.AskMath.bits n x l) ∧ Below B0 wo wj) (fun _ sj _ => n - (intOf sj).toNat)
      case atStart => exact ⟨0, Nat.zero_le _, rfl, HO0.out, HB00.out⟩
      case round =>
        clear HO0 HB00
        obtain ⟨j, hj, rfl, hO, hBj⟩ := hrel
        have HO := Lib.hid hO
        have HBj := Lib.hid hBj
        clear hO hBj
        by_cases hjn : j < n
        · have hcx : wr.cell? ⟨b, off + k, none⟩ = some (.int .i64 x) := by
            rw [HBj.out.cell (p := ⟨b, off + k, none⟩) (show b < B0 by omega), HB.out.cell (p := ⟨b, off + k, none⟩) hbw]; exact HCK.out
          have hjl : ((List.range j).map fun l => Go.AskMath.bits n x l).length = j := by simp
          have pw := fun W => power2_any (j : Int) W (by omega) (by omega)
          simp only [Int.toNat_natCast] at pw
          have hpp : (0 : Int) < 2 ^ j := Int.pow_pos (by omega)
          have hb : Go.AskMath.bits n x j = (x / 2 ^ j) % 2 := by unfold Go.AskMath.bits; rw [if_pos hjn]
          obtain ⟨P, hP⟩ : ∃ P : Int, (2 : Int) ^ j = P := ⟨_, rfl⟩
          rw [hP] at pw hpp hb
          have e1 : Int.tdiv x P = x / P := Int.tdiv_eq_ediv_of_nonneg hx0
          have hq0 : 0 ≤ x / P := Int.ediv_nonneg hx0 (by omega)
          have hq1 : x / P ≤ x := Int.ediv_le_self _ hx0
          obtain ⟨Q, hQ⟩ : ∃ Q : Int, x / P = Q := ⟨_, rfl⟩
          rw [hQ] at e1 hq0 hq1 hb
          have e2 : IntKind.i64.wrap Q = Q := IntWalk.i64_in _ ⟨by omega, by omega⟩
          have e3 : Int.tmod Q 2 = Q % 2 := Int.tmod_eq_emod_of_nonneg hq0
          obtain ⟨z, hz⟩ : ∃ z : Int, Q % 2 = z := ⟨_, rfl⟩
          rw [hz] at e3 hb
          have hPz : (P == 0) = false := by rw [beq_eq_false_iff_ne]; omega
          have hPn : ¬ P = 0 := by omega
          have hPf : (P = 0) = False := by simp [hPn]
          have HPW := Lib.hid pw
          have HZ := Lib.hid hb
          have HJL := Lib.hid hjl
          have hjlen : j ≤ 6 := by omega
          have hkz : (k : Int) < (xs.length : Int) := by omega
          have hszB : B0 ≤ wr.heap.size := by have := HBj.out.size; rw [HB0.out] at this; exact this
          clear pw hP hQ hz hb hjl
          go_wp2_with fail
          go_region_law (first | (go_simp; go_at_call 35; refine (HPW.out _).mono ?_; rintro e w' ⟨rfl, rfl⟩) | (refine step_app1 (w0 := wr.drew) rfl (.tmp 22) (.tmp 31) rfl B0 _ _ (by rfl) HO.out z rfl (by rfl) (by rw [HJL.out]; omega) hszB ?_; intro v' w' hO2 hB2 _))
          all_goals
            have HO2 := Lib.hid hO2
            have HB2 := Lib.hid (show Below B0 wr w' from ⟨hB2.os, hB2.tape, hB2.output, hB2.size, fun i hi => hB2.block i hi⟩)
            clear hO2 hB2
            go_wp2_with fail
            go_roundw
            case rel =>
              refine ⟨j + 1, by omega, by go_num, ?_, HBj.out.trans HB2.out⟩
              rw [List.range_succ, List.map_append, List.map_singleton, HZ.out]
              exact HO2.out
            case measure => simp [intOf]; omega
        · obtain rfl : j = n := by omega
          obtain ⟨xb, xc, f, hv, hxb, hrow, hlc, hf⟩ := own_shape HO.out (by simp; omega)
          subst hv
          have hjl : ((List.range j).map fun l => Go.AskMath.bits j x l).length = j := by simp
          rw [hjl] at hlc hf ⊢
          have HPj := Lib.hid (HP.out.below HBj.out (Nat.le_of_eq HB0.out))
          have hszB : B0 ≤ wr.heap.size := by have := HBj.out.size; rw [HB0.out] at this; exact this
          have HSN := Lib.hid (fun (v' : Value) (w' : World) => HPj.out.snoc (v' := v') (w' := w') hrow (fun j' hj' => by
            rw [hf j' hj', HXE.out]; congr 1; simp [List.getD_eq_getElem?_getD, hj']) hlc (by omega) (fun i hi => by
            have h1 := HP.out.ltR hi
            rw [HB0.out] at h1; omega))
          clear hrow hf hjl
          go_wp2_with (at_builtin; refine wpList_appR rfl (.tmp 33) (.tmp 35) rfl w.heap.size _ k _ rfl HPj.out.top xb j xc rfl rfl ?c2 ?c3 ?_)
          case c2 => omega
          case c3 => omega
          intro v' w' ht hb hg
          have HN := Lib.hid (HSN.out v' w' ht hg)
          have HBN := Lib.hid ((HB.out.trans (HBj.out.mono hsz)).trans hb)
          clear ht hb hg
          go_wp2_with fail
          go_roundw
          case rel =>
            refine ⟨k + 1, _, _, by omega, by go_num, ?_, HN.out, HBN.out⟩
            rcases HN.out.top.2 with ⟨_, h1⟩ | ⟨a1, a2, _, h1, _⟩
            · omega
            · exact ⟨a1, a2, h1⟩
          case measure => simp [intOf]; omega
    · obtain rfl : k = xs.length := by omega
      go_wp2_with fail
      obtain ⟨tb, mc, hvs⟩ := HVS.out
      subst hvs
      go_ret
      exact ⟨tb, mc, g, cp, rfl, HP.out.mx rfl, HB.out⟩
end Go.Proofs.Ytjglikccikeejab
