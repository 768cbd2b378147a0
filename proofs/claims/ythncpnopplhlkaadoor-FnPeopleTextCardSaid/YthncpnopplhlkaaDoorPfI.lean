/-
  Contract: impl.PeopleFrom.
-/
import Derived.Test.YthncpnopplhlkaaDoorTfI
import Derived.Test.YthncpnopplhlkaaDoorPpl
import Derived.Test.YthncpnopplhlkaaDoorPplParse
import Derived.Test.YthncpnopplhlkaaDoorDrawPpl
namespace Go.Proofs.YthncpnopplhlkaaDoor
open Go.RowKit
open Go.ParseMath
attribute [local go_sem] Oper.semAt_some

theorem own_set {W : World} {base size n B : Nat} {e : TypeId} {v u : Value} {cs : List Value} (h : W.ownsRow base e size v n cs) (hB : B < base) : (W.setCell ⟨B, 0, none⟩ u).ownsRow base e size v n cs := by
  refine World.ownsRow.kept (row := some B) h (grownBy_setCell' W B u) ?_
  cases hv : v.ownBlock with
  | none => exact .inl rfl
  | some k => exact .inr (fun e => by have := World.ownsRow.lt h k hv; injection e with e; omega)
theorem own_ne_any {RT ET : TypeId} {w : World} {base size n m b : Nat} {v : Value} {cs : List Value} {f : Nat → Value} (hne : RT ≠ ET) (h : w.ownsRow base RT size v n cs) (hr : w.rowIs b ET m f) : v.ownBlock ≠ some b := by
  intro hk
  rcases h.2 with ⟨rfl, _⟩ | ⟨g', cap, cur, rfl, _, hh, _⟩
  · simp [Value.ownBlock] at hk
  · have : g' = b := by simpa [Value.ownBlock] using hk
    subst this
    obtain ⟨c, hc, _⟩ := hr
    rw [hh] at hc
    injection hc with hc
    injection hc with _ ht
    exact hne ht
theorem own_shut {W : World} {base size n D : Nat} {o : Obj} {e : TypeId} {v : Value} {cs : List Value} (h : W.ownsRow base e size v n cs) (hD : W.heap[D]? = some (.deferred (some []))) : (W.putObj D o).ownsRow base e size v n cs :=
  orow_keptO h (grownBy_putObj' _ D o) (fun r e => by cases e; exact ⟨_, hD, rfl⟩)
/-- What a reading of people comes to. -/
def PfP (l : List UInt8) (w : World) (e : Ending) (w' : World) : Prop :=
  ∃ v, e = .returned (.tuple #[v, .bool (pfB l)]) ∧ OwnPpl w' w.heap.size v (pfL l) ∧ Below w.heap.size w w'
theorem own_nil (w : World) (base : Nat) : OwnPpl w base (.slice none 0 0) [] := World.ownsRow_nil _ _ _ _
theorem pl_len (xs : List ByteArray) : ((lvals xs).map perR).length = xs.length := by rw [List.length_map, lvals_len]

/-- A line that is a person's. -/
def perOkL (l : List UInt8) : Bool := lineOk 4 l && ((lineV l).length == 4)
/-- The people of the lines that were read. -/
def plv (xs : List ByteArray) : List Per := (lvals xs).map perR
theorem plv_snoc (xs : List ByteArray) (x : ByteArray) : plv (xs ++ [x]) = plv xs ++ [perR (lineV x.data.toList)] := by unfold plv; rw [lvals_snoc, List.map_append]; rfl
theorem plv_len (xs : List ByteArray) : (plv xs).length = xs.length := pl_len xs
theorem bad_line {s t : ByteArray} (ht : t.data.toList = trim s.data.toList) (hne : s.data.toList ≠ []) (h : (∃ x ∈ cutB 10 t, perOkL x.data.toList = false) ∨ 40 < (cutB 10 t).length) : pfB s.data.toList = false := by
  rw [pf_iff hne]
  by_cases hr : readOk 40 s.data.toList = true
  · obtain ⟨h1, h2⟩ := (readOk_iff 40 s t ht).1 hr
    rcases h with ⟨x, hx, hxo⟩ | h
    · have h4 : all4 (readV s.data.toList) = false := by
        rw [Bool.eq_false_iff]
        intro h4
        rw [← lvals_of s t ht] at h4
        have := all4_t.1 h4 (lineV x.data.toList) (List.mem_map.2 ⟨x, hx, rfl⟩)
        unfold perOkL at hxo
        rw [h2 x hx, this] at hxo
        cases hxo
      rw [h4]
      simp
    · omega
  · rw [Bool.eq_false_iff.2 hr]
    rfl
theorem good_lines {s t : ByteArray} (ht : t.data.toList = trim s.data.toList) (h : ∀ x ∈ cutB 10 t, perOkL x.data.toList = true) (h2 : (cutB 10 t).length ≤ 40) : readOk 40 s.data.toList = true ∧ all4 (readV s.data.toList) = true ∧ plv (cutB 10 t) = (readV s.data.toList).map perR := by
  have key : ∀ x ∈ cutB 10 t, lineOk 4 x.data.toList = true ∧ (lineV x.data.toList).length = 4 := fun x hx => by
    have := h x hx
    unfold perOkL at this
    rw [Bool.and_eq_true] at this
    exact ⟨this.1, eq_of_beq this.2⟩
  refine ⟨(readOk_iff 40 s t ht).2 ⟨h2, fun x hx => (key x hx).1⟩, ?_, ?_⟩
  · rw [← lvals_of s t ht]
    refine all4_t.2 fun r hr => ?_
    obtain ⟨x, hx, rfl⟩ := List.mem_map.1 hr
    exact (key x hx).2
  · unfold plv
    rw [lvals_of s t ht]
/-- Between two rounds. -/
def PfI (w : World) (pre : List ByteArray) (W : World) : Prop :=
  (∃ v, Boxed W (w.heap.size + 2) 23 v ∧ OwnPpl W (w.heap.size + 6) v (plv pre)) ∧ ((∀ x ∈ pre, perOkL x.data.toList = true) ∧ pre.length ≤ 40) ∧
  (Boxed W w.heap.size 23 (.slice none 0 0) ∧ Boxed W (w.heap.size + 1) 4 (.bool false)) ∧ Below w.heap.size w W ∧ w.heap.size + 6 ≤ W.heap.size
/-- A round has returned. -/
def PfX (w : World) (pre : List ByteArray) (W : World) : Prop :=
  (Boxed W w.heap.size 23 (.slice none 0 0) ∧ Boxed W (w.heap.size + 1) 4 (.bool false)) ∧ ((∃ x ∈ pre, perOkL x.data.toList = false) ∨ 40 < pre.length) ∧ Below w.heap.size w W
theorem pf_own {M : Nat} {w : World} {B : Nat} (hB : w.heap.size ≤ B) : OwnFrom B (fun (pre : List (Piece M)) W => PfI w (Piece.vals pre) W) := by
  rintro s A C row ⟨⟨v, hv, ho⟩, hp, ⟨h1, h2⟩, hb, hs⟩ hg hr
  have hr' : ∀ r, row = some r → ∃ o : Obj, A.heap[r]? = some o ∧ o.isCells = false := fun r e => (hr r e).2
  exact ⟨⟨v, boxed_keptO hv hg hr', orow_keptO ho hg hr'⟩, hp, ⟨boxed_keptO h1 hg hr', boxed_keptO h2 hg hr'⟩, ownFrom_below (β := Unit) (Nat.le_refl _) hB () A C row hb hg hr, Nat.le_trans hs hg.size⟩
theorem pfX_own {M : Nat} {w : World} {B : Nat} (hB : w.heap.size ≤ B) : OwnFrom B (fun (pre : List (Piece M)) W => PfX w (Piece.vals pre) W) := by
  rintro s A C row ⟨⟨h2, h3⟩, hp, hb⟩ hg hr
  have hr' : ∀ r, row = some r → ∃ o : Obj, A.heap[r]? = some o ∧ o.isCells = false := fun r e => (hr r e).2
  exact ⟨⟨boxed_keptO h2 hg hr', boxed_keptO h3 hg hr'⟩, hp, ownFrom_below (β := Unit) (Nat.le_refl _) hB () A C row hb hg hr⟩

set_option maxHeartbeats 2000000 in
set_option maxRecDepth 100000 in
theorem pfI (s : ByteArray) (hs : s.size ≤ 281474976710656) (w : World) (he : ErrL w) (hp : PowTab w) :
    Calls Tryd.prog 12 #[.string s] w (PfP s.data.toList w) := by
  have HE := Lib.hid he
  have HP := Lib.hid hp
  clear he hp
  refine (callsIn_wide (n := 10)).1 ?_
  refine callsIn_of_wp_marks Tryd.func12 rfl trivial (wpIn_wide.2 ?_) rfl
  simp only [Tryd.ntmps12, List.size_toArray, List.length_cons, List.length_nil, Nat.reduceAdd, Nat.reduceSub, Array.replicate_succ, Array.replicate_zero, List.push_toArray, List.append_toArray, List.nil_append, List.cons_append]
  by_cases hempty : s.data.toList = []
  · have he1 : s.toList = [] := by rw [Lib.toList_data]; exact hempty
    have he2 : s.toList.isEmpty = true := by rw [he1]; rfl
    have HEM := Lib.hid hempty
    clear hempty
    go_wp2_with fail
    have b0 := Boxed.new w 23 (.slice none 0 0)
    have b1 := Boxed.new (w.alloc (.cells #[.slice none 0 0] 23)) 4 (.bool true)
    have c1 := (b0.alloc (.cells #[.bool true] 4)).cell
    have c2 := b1.cell
    simp only [World.size_alloc] at c2
    refine ⟨.tuple #[.slice none 0 0, .bool true], by simp [results, Tryd.results12, go_sem, c1, c2], .slice none 0 0, by rw [HEM.out, pf_nil], by rw [HEM.out, pfl_nil]; exact own_nil _ _, ((Below.refl _ _).alloc (Nat.le_refl _) _).alloc (by simp) _⟩
  have he2 : s.toList.isEmpty = false := by rw [Lib.toList_data]; cases h : s.data.toList with
    | nil => exact absurd h hempty
    | cons a r => rfl
  have HNE := Lib.hid hempty
  clear hempty
  go_wp2_with fail
  obtain ⟨W0, hW0⟩ : ∃ W0, ((w.alloc (.cells #[.slice none 0 0] 23)).alloc (.cells #[.bool false] 4)).alloc (.cells #[.slice none 0 0] 23) = W0 := ⟨_, rfl⟩
  have b0 := Boxed.new w 23 (.slice none 0 0)
  have b1 := Boxed.new (w.alloc (.cells #[.slice none 0 0] 23)) 4 (.bool false)
  have b2 := Boxed.new ((w.alloc (.cells #[.slice none 0 0] 23)).alloc (.cells #[.bool false] 4)) 23 (.slice none 0 0)
  simp only [World.size_alloc] at b1 b2
  have k0 := (b0.alloc (.cells #[.bool false] 4)).alloc (.cells #[.slice none 0 0] 23)
  have k1 := b1.alloc (.cells #[.slice none 0 0] 23)
  have hbw : Below w.heap.size w W0 := by rw [← hW0]; exact (((Below.refl _ _).alloc (Nat.le_refl _) _).alloc (by simp) _).alloc (by simp; omega) _
  have hsz : W0.heap.size = w.heap.size + 3 := by rw [← hW0]; simp
  rw [hW0] at k0 k1 b2
  rw [hW0]
  clear b0 b1 hW0
  obtain ⟨t, ht⟩ : ∃ t, (⟨(Lib.trimSuffix s.data.toList [10]).toArray⟩ : ByteArray) = t := ⟨_, rfl⟩
  have hts := trim_size s
  rw [ht] at hts
  have HTL := Lib.hid (show t.data.toList = trim s.data.toList by rw [← ht]; rfl)
  have HTR : Hid (Calls Tryd.prog 37 #[.string s, .string ⟨#[10]⟩] W0 fun e w' => e = .returned (.string t) ∧ w' = W0) := Lib.hid (by rw [← ht]; exact Tryd.strings_TrimSuffix s ⟨#[10]⟩ W0 (by omega))
  clear ht
  refine (HTR.out).mono ?_
  rintro e w' ⟨rfl, rfl⟩
  go_wp2_with fail
  refine ((callsIn_wide (n := 9)).1 (split_in 9 t 10 w')).mono ?_
  rintro e W1 ⟨rfl, hbx, hb1, hs1⟩
  have HBX := Lib.hid hbx
  have hb01 := hbw.trans (hb1.mono (by omega))
  have HB01 := Lib.hid hb01
  have hk : ∀ {B : Nat} {t : TypeId} {v : Value}, Boxed w' B t v → Boxed W1 B t v := fun h => (hb1.block _ h.lt).trans h
  have HST := Lib.hid (show PfI w [] W1 from ⟨⟨_, hk b2, own_nil _ _⟩, ⟨fun x hx => by simp at hx, Nat.zero_le _⟩, ⟨hk k0, hk k1⟩, hb01, by omega⟩)
  obtain ⟨lo, hlo⟩ : ∃ lo, w'.heap.size = lo := ⟨_, rfl⟩
  rw [hlo] at HBX hs1 hsz ⊢
  have g1 : w.heap.size + 3 ≤ lo := by omega
  have g2 : lo ≤ w.heap.size + 3 := by omega
  have g3 : lo + 3 ≤ W1.heap.size := by omega
  clear hb01 hb1 hbw b2 k0 k1 hk hbx hlo hs1 hsz HTR
  go_wp2_with fail
  refine (wpIn_wide (n := 10)).1 ?_
  refine range_state (n := 10) (gf := 70) (lb := #[.pointer (some ⟨lo + 1, 0, none⟩), .pointer (some ⟨lo, 0, none⟩), .pointer (some ⟨lo + 2, 0, none⟩)]) rfl (enters_of Tryd.func70 (by kernel_rfl) rfl) (B := lo) (by omega)
    (split_iter 9 lo t 10 (by omega) W1 HBX.out (by omega)) (fun X Y Z h k => h.trans k) (fun W o => keepB_put (by omega) W o) (fun _ => rfl)
    (fun pre W => PfI w (Piece.vals pre) W) (fun pre W => PfX w (Piece.vals pre) W) (pf_own (by omega)) (pfX_own (by omega)) ?set HST.out
    (fun x => { tmps := #[.string s, undef, .pointer (some ⟨w.heap.size, 0, none⟩), .pointer (some ⟨w.heap.size + 1, 0, none⟩), .pointer (some ⟨w.heap.size + 1 + 1, 0, none⟩), .string x.1, undef, undef, .string s, .bool false, .string s, .string t,
      .func (.func 70) #[] #[.pointer (some ⟨lo + 1, 0, none⟩), .pointer (some ⟨lo, 0, none⟩), .pointer (some ⟨lo + 2, 0, none⟩)], .string x.1, undef, undef, undef, undef, undef, undef, undef, undef, undef, undef, undef, undef, undef, undef, undef, undef, undef, undef, undef, undef, undef, undef, undef, undef, undef, undef, undef, undef, undef, undef, undef, undef, undef, undef, undef, undef, undef, undef, undef, undef, undef, undef, undef], defers := [] }) ?assign ?body ?done ?stop
  case set =>
    rintro pre W v ⟨⟨v', hv, ho⟩, hp, ⟨h1, h2⟩, hb, hs⟩
    exact ⟨⟨v', hv.other (by omega) v, own_set ho (by omega)⟩, hp, ⟨h1.other (by omega) v, h2.other (by omega) v⟩, hb.setCell (p := ⟨lo, 0, none⟩) (by show w.heap.size ≤ lo; omega) _, by rw [World.size_setCell]; exact hs⟩
  case assign =>
    intro l x W K hK
    gi_wp2
    exact hK
  case body =>
    rintro l pre ⟨x, hx⟩ W ⟨⟨v, hv, ho⟩, ⟨hok, hlen⟩, ⟨hr1, hr2⟩, hb, hs⟩
    have HB := Lib.hid hb
    have HV := Lib.hid hv
    have HOK := Lib.hid hok
    have HR1 := Lib.hid hr1
    have HR2 := Lib.hid hr2
    have HER := Lib.hid (HE.out.keep hb (Nat.le_refl _))
    have hbl := plv_len (Piece.vals pre)
    obtain ⟨zs, hzs⟩ : ∃ zs, plv (Piece.vals pre) = zs := ⟨_, rfl⟩
    rw [hzs] at ho hbl
    have HO := Lib.hid ho
    have hz40 : zs.length ≤ 40 := by omega
    have HZS := Lib.hid hzs
    have HBL := Lib.hid hbl
    obtain ⟨ao, bo, cap, hvv, hc1, hc2, -, -⟩ := ho.ppl
    subst hvv
    have fin : ∀ (V : World), Below W.heap.size W V → ((∃ y ∈ Piece.vals (pre ++ [(⟨x, hx⟩ : Piece t.size)]), perOkL y.data.toList = false) ∨ 40 < (Piece.vals (pre ++ [(⟨x, hx⟩ : Piece t.size)])).length) →
        KeepsFrom W1.heap.size W ((V.setCell ⟨w.heap.size, 0, none⟩ (.slice none 0 0)).setCell ⟨w.heap.size + 1, 0, none⟩ (.bool false)) ∧ PfX w (Piece.vals (pre ++ [(⟨x, hx⟩ : Piece t.size)])) ((V.setCell ⟨w.heap.size, 0, none⟩ (.slice none 0 0)).setCell ⟨w.heap.size + 1, 0, none⟩ (.bool false)) := fun V hbV hbad => by
      have q1 := boxed_below hbV HR1.out
      have q2 := boxed_below hbV HR2.out
      refine ⟨(((below_others hbV).trans (KeepsOthers.setCell _ _ _)).trans (KeepsOthers.setCell _ _ _)).from _, ⟨?_, ?_⟩, hbad, ?_⟩
      · exact (q1.set (.slice none 0 0)).other (by omega) _
      · exact Boxed.set (.bool false) (q2.other (by omega) _)
      · exact ((HB.out.trans (hbV.mono HB.out.size)).setCell (p := ⟨w.heap.size, 0, none⟩) (Nat.le_refl _) _).setCell (p := ⟨w.heap.size + 1, 0, none⟩) (by show w.heap.size ≤ w.heap.size + 1; omega) _
    have FIN := Lib.hid fin
    have HAT := Lib.hid (numsI x (by omega) W HER.out)
    clear hv ho hok hlen hr1 hr2 hb hzs hbl fin HST
    gi_wp2
    refine ⟨trivial, (CallsIn.inRound l (callsIn_wide.2 HAT.out)).mono ?_⟩
    rintro e W2 ⟨row, rfl, hrow, hb2⟩
    have q1 := (boxed_below hb2 HR1.out).cell
    have q2 := (boxed_below hb2 HR2.out).cell
    have f1 := (boxed_below hb2 HR1.out).frozen
    have f2 := (boxed_below hb2 HR2.out).frozen
    have HV2 := Lib.hid (boxed_below hb2 HV.out)
    have qv := HV2.out.cell
    have qf := HV2.out.frozen
    have HO2 := Lib.hid (show OwnPpl W2 (w.heap.size + 6) (.slice ao zs.length cap) zs from orow_below HO.out hb2)
    have HB2 := Lib.hid hb2
    have hs2 := hb2.size
    have HROW := Lib.hid hrow
    clear hb2 hrow HAT
    cases hlo : lineOk 4 x.data.toList with
    | false =>
      have HLO := Lib.hid (show perOkL x.data.toList = false by unfold perOkL; rw [hlo]; rfl)
      clear hlo
      gi_wp2
      exact FIN.out W2 HB2.out (.inl ⟨x, by rw [Piece.vals_snoc]; simp, HLO.out⟩)
    | true =>
      have HLO := Lib.hid hlo
      have hown := HROW.out hlo
      obtain ⟨g0, c0, f0, hrv, hg0, hri, hrf, hrc, hrc2⟩ := own_block hown (lineV_pos _)
      subst hrv
      have HRI := Lib.hid hri
      have HRF := Lib.hid hrf
      obtain ⟨nr, hnr⟩ : ∃ nr, (lineV x.data.toList).length = nr := ⟨_, rfl⟩
      rw [hnr] at hrc ⊢
      clear hown hri hrf
      by_cases hn4 : nr = 4
      · subst hn4
        have HLO2 := Lib.hid (show perOkL x.data.toList = true by unfold perOkL; rw [hlo, hnr]; rfl)
        clear hlo
        by_cases h4 : zs.length = 40
        · have hq : ((zs.length : Int) == 40) = true := by rw [h4]; rfl
          clear h4 hnr
          gi_wp2
          exact FIN.out W2 HB2.out (.inr (by rw [Piece.vals_snoc, List.length_append, ← HBL.out]; have := eq_of_beq hq; simp; omega))
        · have hq : ((zs.length : Int) == 40) = false := by rw [beq_eq_false_iff_ne]; omega
          have hn40 : zs.length ≤ 39 := by omega
          obtain ⟨y0, y1, y2, y3, hy⟩ : ∃ y0 y1 y2 y3, lineV x.data.toList = [y0, y1, y2, y3] := by
            revert hnr
            generalize lineV x.data.toList = r
            intro hnr
            match r, hnr with
            | [a, b, c, d], _ => exact ⟨a, b, c, d, rfl⟩
          have HY := Lib.hid hy
          have HPR := Lib.hid (show perR (lineV x.data.toList) = ⟨y0, y1, y2, y3⟩ by rw [hy]; rfl)
          have z0 : W2.cell? ⟨g0, 0, none⟩ = some (.int .i64 y0) := by rw [HRI.out.cell (by omega), HRF.out 0 y0 (by rw [hy]; rfl)]
          have z1 : W2.cell? ⟨g0, 1, none⟩ = some (.int .i64 y1) := by rw [HRI.out.cell (by omega), HRF.out 1 y1 (by rw [hy]; rfl)]
          have z2 : W2.cell? ⟨g0, 2, none⟩ = some (.int .i64 y2) := by rw [HRI.out.cell (by omega), HRF.out 2 y2 (by rw [hy]; rfl)]
          have z3 : W2.cell? ⟨g0, 3, none⟩ = some (.int .i64 y3) := by rw [HRI.out.cell (by omega), HRF.out 3 y3 (by rw [hy]; rfl)]
          have HO2d := Lib.hid (show W2.drew.ownsRow (w.heap.size + 6) 47 4 (.slice ao zs.length cap) zs.length (pc zs) from orow_below HO2.out (Below.refl _ _).drew)
          clear h4 hnr hy
          have hzl : zs.length ≤ 1000000000 := by omega
          gi_wp2
          have hS0 : (fun V => V.cell? ⟨g0, 0, none⟩ = some (.int .i64 y0) ∧ V.cell? ⟨g0, 1, none⟩ = some (.int .i64 y1) ∧ V.cell? ⟨g0, 2, none⟩ = some (.int .i64 y2) ∧ V.cell? ⟨g0, 3, none⟩ = some (.int .i64 y3)) W2.drew := ⟨z0, z1, z2, z3⟩
          have qvd : W2.drew.cell? ⟨w.heap.size + 1 + 1, 0, none⟩ = some (.slice ao zs.length cap) := qv
          have HVd := Lib.hid (show Boxed W2.drew (w.heap.size + 2) 23 (.slice ao zs.length cap) from HV2.out)
          have HBD := Lib.hid (show Below W2.heap.size W2 W2.drew from (Below.refl _ _).drew)
          have HRId := Lib.hid (show W2.drew.rowIs g0 3 c0 f0 from HRI.out.of_block rfl)
          have hsd : W2.drew.heap.size = W2.heap.size := rfl
          refine region_round (by kernel_rfl) (by kernel_rfl) (wpAny_of_held (S := (fun V => V.cell? ⟨g0, 0, none⟩ = some (.int .i64 y0) ∧ V.cell? ⟨g0, 1, none⟩ = some (.int .i64 y1) ∧ V.cell? ⟨g0, 2, none⟩ = some (.int .i64 y2) ∧ V.cell? ⟨g0, 3, none⟩ = some (.int .i64 y3))) _ _ _ _ ?_)
          change wpAnyH _ _ _ _ _ _ _ _ W2.drew
          obtain ⟨Wd, hWd⟩ : ∃ Wd, W2.drew = Wd := ⟨_, rfl⟩
          rw [hWd] at hS0 qvd HVd HBD HRId hsd HO2d ⊢
          refine wpAnyH_take (i := 1) (v := .slice (some ⟨g0, 0, none⟩) 4 c0) rfl (by kernel_rfl) (by kernel_rfl) (by kernel_rfl) (fun _ _ _ h => h) (Or.inl ⟨by rfl, fun V hV => ?_⟩) hS0 ?_
          · obtain ⟨u0, u1, u2, u3⟩ := hV
            go_simp
          simp only [Act.put, List.setIfInBounds_toArray, List.set_cons_zero, List.set_cons_succ]
          refine wpAnyH_take (i := 2) (v := .pointer (some ⟨g0, 0, none⟩)) rfl (by kernel_rfl) (by kernel_rfl) (by kernel_rfl) (fun _ _ _ h => h) (Or.inl ⟨by rfl, fun V hV => ?_⟩) hS0 ?_
          · obtain ⟨u0, u1, u2, u3⟩ := hV
            go_simp
          simp only [Act.put, List.setIfInBounds_toArray, List.set_cons_zero, List.set_cons_succ]
          refine wpAnyH_take (i := 3) (v := .int .i64 y0) rfl (by kernel_rfl) (by kernel_rfl) (by kernel_rfl) (fun _ _ _ h => h) (Or.inl ⟨by rfl, fun V hV => ?_⟩) hS0 ?_
          · obtain ⟨u0, u1, u2, u3⟩ := hV
            go_simp
          simp only [Act.put, List.setIfInBounds_toArray, List.set_cons_zero, List.set_cons_succ]
          refine wpAnyH_take (i := 4) (v := .slice (some ⟨g0, 0, none⟩) 4 c0) rfl (by kernel_rfl) (by kernel_rfl) (by kernel_rfl) (fun _ _ _ h => h) (Or.inl ⟨by rfl, fun V hV => ?_⟩) hS0 ?_
          · obtain ⟨u0, u1, u2, u3⟩ := hV
            go_simp
          simp only [Act.put, List.setIfInBounds_toArray, List.set_cons_zero, List.set_cons_succ]
          refine wpAnyH_take (i := 5) (v := .pointer (some ⟨g0, 1, none⟩)) rfl (by kernel_rfl) (by kernel_rfl) (by kernel_rfl) (fun _ _ _ h => h) (Or.inl ⟨by rfl, fun V hV => ?_⟩) hS0 ?_
          · obtain ⟨u0, u1, u2, u3⟩ := hV
            go_simp
          simp only [Act.put, List.setIfInBounds_toArray, List.set_cons_zero, List.set_cons_succ]
          refine wpAnyH_take (i := 6) (v := .int .i64 y1) rfl (by kernel_rfl) (by kernel_rfl) (by kernel_rfl) (fun _ _ _ h => h) (Or.inl ⟨by rfl, fun V hV => ?_⟩) hS0 ?_
          · obtain ⟨u0, u1, u2, u3⟩ := hV
            go_simp
          simp only [Act.put, List.setIfInBounds_toArray, List.set_cons_zero, List.set_cons_succ]
          refine wpAnyH_take (i := 7) (v := .slice (some ⟨g0, 0, none⟩) 4 c0) rfl (by kernel_rfl) (by kernel_rfl) (by kernel_rfl) (fun _ _ _ h => h) (Or.inl ⟨by rfl, fun V hV => ?_⟩) hS0 ?_
          · obtain ⟨u0, u1, u2, u3⟩ := hV
            go_simp
          simp only [Act.put, List.setIfInBounds_toArray, List.set_cons_zero, List.set_cons_succ]
          refine wpAnyH_take (i := 8) (v := .pointer (some ⟨g0, 2, none⟩)) rfl (by kernel_rfl) (by kernel_rfl) (by kernel_rfl) (fun _ _ _ h => h) (Or.inl ⟨by rfl, fun V hV => ?_⟩) hS0 ?_
          · obtain ⟨u0, u1, u2, u3⟩ := hV
            go_simp
          simp only [Act.put, List.setIfInBounds_toArray, List.set_cons_zero, List.set_cons_succ]
          refine wpAnyH_take (i := 9) (v := .int .i64 y2) rfl (by kernel_rfl) (by kernel_rfl) (by kernel_rfl) (fun _ _ _ h => h) (Or.inl ⟨by rfl, fun V hV => ?_⟩) hS0 ?_
          · obtain ⟨u0, u1, u2, u3⟩ := hV
            go_simp
          simp only [Act.put, List.setIfInBounds_toArray, List.set_cons_zero, List.set_cons_succ]
          refine wpAnyH_take (i := 10) (v := .slice (some ⟨g0, 0, none⟩) 4 c0) rfl (by kernel_rfl) (by kernel_rfl) (by kernel_rfl) (fun _ _ _ h => h) (Or.inl ⟨by rfl, fun V hV => ?_⟩) hS0 ?_
          · obtain ⟨u0, u1, u2, u3⟩ := hV
            go_simp
          simp only [Act.put, List.setIfInBounds_toArray, List.set_cons_zero, List.set_cons_succ]
          refine wpAnyH_take (i := 11) (v := .pointer (some ⟨g0, 3, none⟩)) rfl (by kernel_rfl) (by kernel_rfl) (by kernel_rfl) (fun _ _ _ h => h) (Or.inl ⟨by rfl, fun V hV => ?_⟩) hS0 ?_
          · obtain ⟨u0, u1, u2, u3⟩ := hV
            go_simp
          simp only [Act.put, List.setIfInBounds_toArray, List.set_cons_zero, List.set_cons_succ]
          refine wpAnyH_take (i := 12) (v := .int .i64 y3) rfl (by kernel_rfl) (by kernel_rfl) (by kernel_rfl) (fun _ _ _ h => h) (Or.inl ⟨by rfl, fun V hV => ?_⟩) hS0 ?_
          · obtain ⟨u0, u1, u2, u3⟩ := hV
            go_simp
          simp only [Act.put, List.setIfInBounds_toArray, List.set_cons_zero, List.set_cons_succ]
          refine wpAnyH_take (i := 13) (v := .agg #[.int .i64 y0, .int .i64 y1, .int .i64 y2, .int .i64 y3]) rfl (by kernel_rfl) (by kernel_rfl) (by kernel_rfl) (fun _ _ _ h => h) (Or.inl ⟨by rfl, fun V hV => ?_⟩) hS0 ?_
          · obtain ⟨u0, u1, u2, u3⟩ := hV
            go_simp
          simp only [Act.put, List.setIfInBounds_toArray, List.set_cons_zero, List.set_cons_succ]
          have HSD := Lib.hid hsd
          clear hsd
          have hS1 : (fun V => V.cell? ⟨g0, 0, none⟩ = some (.int .i64 y0) ∧ V.cell? ⟨g0, 1, none⟩ = some (.int .i64 y1) ∧ V.cell? ⟨g0, 2, none⟩ = some (.int .i64 y2) ∧ V.cell? ⟨g0, 3, none⟩ = some (.int .i64 y3)) (Wd.alloc (.cells #[.int .i64 y0, .int .i64 y1, .int .i64 y2, .int .i64 y3] 47)) := ⟨(World.cell?_alloc_lt _ _ _ (World.block_lt_of_cell? _ _ hS0.1)).trans hS0.1, (World.cell?_alloc_lt _ _ _ (World.block_lt_of_cell? _ _ hS0.2.1)).trans hS0.2.1, (World.cell?_alloc_lt _ _ _ (World.block_lt_of_cell? _ _ hS0.2.2.1)).trans hS0.2.2.1, (World.cell?_alloc_lt _ _ _ (World.block_lt_of_cell? _ _ hS0.2.2.2)).trans hS0.2.2.2⟩
          have qva : (Wd.alloc (.cells #[.int .i64 y0, .int .i64 y1, .int .i64 y2, .int .i64 y3] 47)).cell? ⟨w.heap.size + 1 + 1, 0, none⟩ = some (.slice ao zs.length cap) := (World.cell?_alloc_lt _ _ _ (World.block_lt_of_cell? _ _ qvd)).trans qvd
          refine wpAnyH_ready (rs := [0, 14]) (by kernel_rfl) (by simp) ?_
          refine AllReadyH.cons rfl (fun K hK => ?_) (AllReadyH.cons rfl (fun K hK => ?_) AllReadyH.nil)
          · go_simp
            refine hK.out _ _ hS0 (fun _ => ?_)
            try simp only [Act.put, List.setIfInBounds_toArray, List.set_cons_zero, List.set_cons_succ]
            clear hK K
            refine wpAnyH_ready (rs := [14]) (by kernel_rfl) (by simp) ?_
            refine AllReadyH.cons rfl (fun K hK => ?_) AllReadyH.nil
            go_simp
            refine hK.out _ _ hS1 (fun _ => ?_)
            try simp only [Act.put, List.setIfInBounds_toArray, List.set_cons_zero, List.set_cons_succ]
            clear hK K
            refine wpAnyH_ready (rs := [15]) (by kernel_rfl) (by simp) ?_
            refine AllReadyH.cons rfl (fun K hK => ?_) AllReadyH.nil
            rw [if_pos (by rfl)]
            refine wp_app eltP (.tmp 31) (.tmp 45) rfl (w.heap.size + 6) _ _ _ rfl HO2d.out [.int .i64 y0, .int .i64 y1, .int .i64 y2, .int .i64 y3] rfl (by intro u hu; simp at hu; rcases hu with rfl | rfl | rfl | rfl <;> rfl) rfl rfl hzl (by have := HSD.out; omega) ?_
            intro v' w3 ho3 hb3 hg3
            obtain ⟨a9, n9, c9, hv9⟩ : ∃ a n c, v' = .slice a n c := by
              have h10 : OwnPpl w3 (w.heap.size + 6) v' (zs ++ [⟨y0, y1, y2, y3⟩]) := by unfold OwnPpl; rw [pc_snoc, List.length_append]; exact ho3
              obtain ⟨a9, b9, c9, hv, -, -, -, -⟩ := h10.ppl
              exact ⟨_, _, _, hv⟩
            subst hv9
            have kb : w3.heap[g0]? = Wd.heap[g0]? := hg3.block g0 HRId.out.lt (fun e => own_ne_any (by decide) HO2d.out HRId.out e.symm)
            have hS3 : (fun V => V.cell? ⟨g0, 0, none⟩ = some (.int .i64 y0) ∧ V.cell? ⟨g0, 1, none⟩ = some (.int .i64 y1) ∧ V.cell? ⟨g0, 2, none⟩ = some (.int .i64 y2) ∧ V.cell? ⟨g0, 3, none⟩ = some (.int .i64 y3)) w3 := ⟨(World.cell?_of_block kb).trans hS0.1, (World.cell?_of_block kb).trans hS0.2.1, (World.cell?_of_block kb).trans hS0.2.2.1, (World.cell?_of_block kb).trans hS0.2.2.2⟩
            refine hK.out _ _ hS3 (fun _ => ?_)
            try simp only [Act.put, List.setIfInBounds_toArray, List.set_cons_zero, List.set_cons_succ]
            clear hK K
            have q3 : Boxed w3 (w.heap.size + 2) 23 (.slice ao zs.length cap) := (hb3.block (w.heap.size + 2) (by omega)).trans HVd.out
            have qc : w3.cell? ⟨w.heap.size + 1 + 1, 0, none⟩ = some (.slice ao zs.length cap) := q3.cell
            have qg : w3.frozen? ⟨w.heap.size + 1 + 1, 0, none⟩ = false := q3.frozen
            refine wpAnyH_ready (rs := [16]) (by kernel_rfl) (by simp) ?_
            refine AllReadyH.cons rfl (fun K hK => ?_) AllReadyH.nil
            have HK := Lib.hid hg3
            have HB3 := Lib.hid hb3
            have HO3 := Lib.hid ho3
            have HQ3 := Lib.hid q3
            have HS3 := Lib.hid hS3
            clear ho3 hb3 hg3 q3 hS3
            go_simp
            have kb2 : (w3.setCell ⟨w.heap.size + 1 + 1, 0, none⟩ (.slice a9 n9 c9)).heap[g0]? = w3.heap[g0]? := Below.heap_setCell _ _ _ _ (show g0 ≠ w.heap.size + 1 + 1 by omega)
            refine hK.out _ _ ⟨(World.cell?_of_block kb2).trans HS3.out.1, (World.cell?_of_block kb2).trans HS3.out.2.1, (World.cell?_of_block kb2).trans HS3.out.2.2.1, (World.cell?_of_block kb2).trans HS3.out.2.2.2⟩ (fun _ => ?_)
            clear hK K
            refine wpAnyH_done (by kernel_rfl) ?_ _
            try simp only [only]
            gi_wp2
            have HR13 := Lib.hid (show Boxed w3 w.heap.size 23 (.slice none 0 0) from (HB3.out.block w.heap.size (by omega)).trans ((HBD.out.block w.heap.size (by have := HB2.out.size; have := HR1.out.lt; omega)).trans (boxed_below HB2.out HR1.out)))
            have HR23 := Lib.hid (show Boxed w3 (w.heap.size + 1) 4 (.bool false) from (HB3.out.block (w.heap.size + 1) (by omega)).trans ((HBD.out.block (w.heap.size + 1) (by have := HB2.out.size; have := HR2.out.lt; omega)).trans (boxed_below HB2.out HR2.out)))
            have hsz3 := HB3.out.size
            refine ⟨((((below_others HB2.out).trans (below_others HBD.out)).trans (KeepsOthers.of_grownBy HK.out (fun j o e h => own_cells HO2d.out e h))).trans (KeepsOthers.setCell _ _ _)).from _, fun k h1 h2 => ?_, ⟨_, HQ3.out.set _, ?_⟩, ⟨fun y hy => ?_, ?_⟩, ⟨?_, ?_⟩, ?_, ?_⟩
            · rw [Below.heap_setCell _ _ _ _ (show k ≠ w.heap.size + 1 + 1 by omega), HB3.out.block k (by omega), HBD.out.block k (by have := HB2.out.size; omega), HB2.out.block k (by omega)]
            · rw [Piece.vals_snoc, plv_snoc, HZS.out, HPR.out]
              have h9 : w3.ownsRow (w.heap.size + 6) 47 4 (.slice a9 n9 c9) (zs.length + 1) (pc zs ++ [.int .i64 y0, .int .i64 y1, .int .i64 y2, .int .i64 y3]) := HO3.out
              have h10 : OwnPpl w3 (w.heap.size + 6) (.slice a9 n9 c9) (zs ++ [⟨y0, y1, y2, y3⟩]) := by unfold OwnPpl; rw [pc_snoc, List.length_append]; exact h9
              exact own_set h10 (by omega)
            · rw [Piece.vals_snoc, List.mem_append, List.mem_singleton] at hy
              rcases hy with hy | rfl
              · exact HOK.out y hy
              · exact HLO2.out
            · rw [Piece.vals_snoc, List.length_append, ← HBL.out]
              have := beq_eq_false_iff_ne.1 hq
              simp
              omega
            · exact HR13.out.other (by omega) _
            · exact HR23.out.other (by omega) _
            · exact (((HB.out.trans (HB2.out.mono HB.out.size)).trans (HBD.out.mono (by have := HB2.out.size; omega))).trans (HB3.out.mono (by omega))).setCell (p := ⟨w.heap.size + 1 + 1, 0, none⟩) (by show w.heap.size ≤ w.heap.size + 1 + 1; omega) _
            · rw [World.size_setCell]; have := HSD.out; have := HB2.out.size; omega
          · go_simp
            refine hK.out _ _ hS1 (fun _ => ?_)
            try simp only [Act.put, List.setIfInBounds_toArray, List.set_cons_zero, List.set_cons_succ]
            clear hK K
            refine wpAnyH_ready (rs := [0]) (by kernel_rfl) (by simp) ?_
            refine AllReadyH.cons rfl (fun K hK => ?_) AllReadyH.nil
            go_simp
            refine hK.out _ _ hS1 (fun _ => ?_)
            try simp only [Act.put, List.setIfInBounds_toArray, List.set_cons_zero, List.set_cons_succ]
            clear hK K
            refine wpAnyH_ready (rs := [15]) (by kernel_rfl) (by simp) ?_
            refine AllReadyH.cons rfl (fun K hK => ?_) AllReadyH.nil
            rw [if_pos (by rfl)]
            refine wp_app eltP (.tmp 31) (.tmp 45) rfl (w.heap.size + 6) _ _ _ rfl HO2d.out [.int .i64 y0, .int .i64 y1, .int .i64 y2, .int .i64 y3] rfl (by intro u hu; simp at hu; rcases hu with rfl | rfl | rfl | rfl <;> rfl) rfl rfl hzl (by have := HSD.out; omega) ?_
            intro v' w3 ho3 hb3 hg3
            obtain ⟨a9, n9, c9, hv9⟩ : ∃ a n c, v' = .slice a n c := by
              have h10 : OwnPpl w3 (w.heap.size + 6) v' (zs ++ [⟨y0, y1, y2, y3⟩]) := by unfold OwnPpl; rw [pc_snoc, List.length_append]; exact ho3
              obtain ⟨a9, b9, c9, hv, -, -, -, -⟩ := h10.ppl
              exact ⟨_, _, _, hv⟩
            subst hv9
            have kb : w3.heap[g0]? = Wd.heap[g0]? := hg3.block g0 HRId.out.lt (fun e => own_ne_any (by decide) HO2d.out HRId.out e.symm)
            have hS3 : (fun V => V.cell? ⟨g0, 0, none⟩ = some (.int .i64 y0) ∧ V.cell? ⟨g0, 1, none⟩ = some (.int .i64 y1) ∧ V.cell? ⟨g0, 2, none⟩ = some (.int .i64 y2) ∧ V.cell? ⟨g0, 3, none⟩ = some (.int .i64 y3)) w3 := ⟨(World.cell?_of_block kb).trans hS0.1, (World.cell?_of_block kb).trans hS0.2.1, (World.cell?_of_block kb).trans hS0.2.2.1, (World.cell?_of_block kb).trans hS0.2.2.2⟩
            refine hK.out _ _ hS3 (fun _ => ?_)
            try simp only [Act.put, List.setIfInBounds_toArray, List.set_cons_zero, List.set_cons_succ]
            clear hK K
            have q3 : Boxed w3 (w.heap.size + 2) 23 (.slice ao zs.length cap) := (hb3.block (w.heap.size + 2) (by omega)).trans HVd.out
            have qc : w3.cell? ⟨w.heap.size + 1 + 1, 0, none⟩ = some (.slice ao zs.length cap) := q3.cell
            have qg : w3.frozen? ⟨w.heap.size + 1 + 1, 0, none⟩ = false := q3.frozen
            refine wpAnyH_ready (rs := [16]) (by kernel_rfl) (by simp) ?_
            refine AllReadyH.cons rfl (fun K hK => ?_) AllReadyH.nil
            have HK := Lib.hid hg3
            have HB3 := Lib.hid hb3
            have HO3 := Lib.hid ho3
            have HQ3 := Lib.hid q3
            have HS3 := Lib.hid hS3
            clear ho3 hb3 hg3 q3 hS3
            go_simp
            have kb2 : (w3.setCell ⟨w.heap.size + 1 + 1, 0, none⟩ (.slice a9 n9 c9)).heap[g0]? = w3.heap[g0]? := Below.heap_setCell _ _ _ _ (show g0 ≠ w.heap.size + 1 + 1 by omega)
            refine hK.out _ _ ⟨(World.cell?_of_block kb2).trans HS3.out.1, (World.cell?_of_block kb2).trans HS3.out.2.1, (World.cell?_of_block kb2).trans HS3.out.2.2.1, (World.cell?_of_block kb2).trans HS3.out.2.2.2⟩ (fun _ => ?_)
            clear hK K
            refine wpAnyH_done (by kernel_rfl) ?_ _
            try simp only [only]
            gi_wp2
            have HR13 := Lib.hid (show Boxed w3 w.heap.size 23 (.slice none 0 0) from (HB3.out.block w.heap.size (by omega)).trans ((HBD.out.block w.heap.size (by have := HB2.out.size; have := HR1.out.lt; omega)).trans (boxed_below HB2.out HR1.out)))
            have HR23 := Lib.hid (show Boxed w3 (w.heap.size + 1) 4 (.bool false) from (HB3.out.block (w.heap.size + 1) (by omega)).trans ((HBD.out.block (w.heap.size + 1) (by have := HB2.out.size; have := HR2.out.lt; omega)).trans (boxed_below HB2.out HR2.out)))
            have hsz3 := HB3.out.size
            refine ⟨((((below_others HB2.out).trans (below_others HBD.out)).trans (KeepsOthers.of_grownBy HK.out (fun j o e h => own_cells HO2d.out e h))).trans (KeepsOthers.setCell _ _ _)).from _, fun k h1 h2 => ?_, ⟨_, HQ3.out.set _, ?_⟩, ⟨fun y hy => ?_, ?_⟩, ⟨?_, ?_⟩, ?_, ?_⟩
            · rw [Below.heap_setCell _ _ _ _ (show k ≠ w.heap.size + 1 + 1 by omega), HB3.out.block k (by omega), HBD.out.block k (by have := HB2.out.size; omega), HB2.out.block k (by omega)]
            · rw [Piece.vals_snoc, plv_snoc, HZS.out, HPR.out]
              have h9 : w3.ownsRow (w.heap.size + 6) 47 4 (.slice a9 n9 c9) (zs.length + 1) (pc zs ++ [.int .i64 y0, .int .i64 y1, .int .i64 y2, .int .i64 y3]) := HO3.out
              have h10 : OwnPpl w3 (w.heap.size + 6) (.slice a9 n9 c9) (zs ++ [⟨y0, y1, y2, y3⟩]) := by unfold OwnPpl; rw [pc_snoc, List.length_append]; exact h9
              exact own_set h10 (by omega)
            · rw [Piece.vals_snoc, List.mem_append, List.mem_singleton] at hy
              rcases hy with hy | rfl
              · exact HOK.out y hy
              · exact HLO2.out
            · rw [Piece.vals_snoc, List.length_append, ← HBL.out]
              have := beq_eq_false_iff_ne.1 hq
              simp
              omega
            · exact HR13.out.other (by omega) _
            · exact HR23.out.other (by omega) _
            · exact (((HB.out.trans (HB2.out.mono HB.out.size)).trans (HBD.out.mono (by have := HB2.out.size; omega))).trans (HB3.out.mono (by omega))).setCell (p := ⟨w.heap.size + 1 + 1, 0, none⟩) (by show w.heap.size ≤ w.heap.size + 1 + 1; omega) _
            · rw [World.size_setCell]; have := HSD.out; have := HB2.out.size; omega
      · have hq : ((nr : Int) == 4) = false := by rw [beq_eq_false_iff_ne]; omega
        have HLO2 := Lib.hid (show perOkL x.data.toList = false by unfold perOkL; rw [hlo, hnr, beq_eq_false_iff_ne.2 hn4]; rfl)
        clear hlo hnr hn4
        gi_wp2
        exact FIN.out W2 HB2.out (.inl ⟨x, by rw [Piece.vals_snoc]; simp, HLO2.out⟩)
  case done =>
    rintro D ys W hD hys ⟨⟨v, hv, ho⟩, ⟨hok, hlen⟩, ⟨hr1, hr2⟩, hb, hs⟩ hK
    have HB := Lib.hid hb
    have HK := Lib.hid hK
    have HR1 := Lib.hid hr1
    have HR2 := Lib.hid hr2
    have q1 := hr1.cell
    have q2 := hr2.cell
    have f1 := hr1.frozen
    have f2 := hr2.frozen
    have qv := hv.cell
    obtain ⟨g1, g2, g3'⟩ := good_lines HTL.out (by rw [← hys]; exact hok) (by rw [← hys]; exact hlen)
    have HRO := Lib.hid g1
    have HA4 := Lib.hid g2
    have HRV := Lib.hid (show plv (Piece.vals ys) = (readV s.data.toList).map perR by rw [hys]; exact g3')
    clear g1 g2 g3'
    have hzl := plv_len (Piece.vals ys)
    obtain ⟨zs, hzs⟩ : ∃ zs, plv (Piece.vals ys) = zs := ⟨_, rfl⟩
    rw [hzs] at ho HRV hzl
    have HO := Lib.hid ho
    obtain ⟨ao, bo, cap, hvv, hc1, hc2, -, hppl⟩ := ho.ppl
    subst hvv
    have HTAB := Lib.hid hppl
    have HPW := Lib.hid (HP.out.keep hb (Nat.le_refl _))
    have hz40 : zs.length ≤ 40 := by omega
    have HKD := Lib.hid (fun (V : World) (h : Below W.heap.size W V) => (h.block D (Array.getElem?_eq_some_iff.1 hK).1).trans hK)
    clear ho hv hok hlen hr1 hr2 hb hK hzs hppl hzl hs
    cases htv : pplB zs with
    | false =>
      have HTV := Lib.hid htv
      have HTF := Lib.hid (show pfB s.data.toList = false by rw [pf_iff HNE.out, ← HRV.out, htv]; simp)
      clear htv
      go_wp2_with fail
      refine (peopleI ao bo 0 cap zs W HTAB.out (by omega)).mono ?_
      rintro e W2 ⟨rfl, hb2⟩
      rw [HTV.out]
      have r1 := boxed_below hb2 HR1.out
      have r2 := boxed_below hb2 HR2.out
      have HR12 := Lib.hid r1
      have HR22 := Lib.hid r2
      have q12 := r1.cell
      have q22 := r2.cell
      have f12 := r1.frozen
      have f22 := r2.frozen
      have HB2 := Lib.hid hb2
      have qv2 := (hb2.cell (p := ⟨w.heap.size + 2, 0, none⟩) (World.block_lt_of_cell? _ _ qv)).trans qv
      clear hb2 r1 r2
      go_wp2_with fail
      obtain ⟨hKd, c1, c2⟩ := two_cells (.slice none 0 0) (.bool false) HR12.out HR22.out (HKD.out W2 HB2.out) (by omega)
      refine ⟨by simp, .inl ⟨_, _, rfl, run_takeDeferred hKd, ?_⟩⟩
      exact ⟨.tuple #[.slice none 0 0, .bool false], by simp [results, Tryd.results12, go_sem, c1, c2], .slice none 0 0, by rw [HTF.out], by rw [pf_f HTF.out]; exact own_nil _ _, two_below (HB.out.trans (HB2.out.mono HB.out.size)) hKd (by omega)⟩
    | true =>
      have HTV := Lib.hid htv
      clear htv
      go_wp2_with fail
      refine (peopleI ao bo 0 cap zs W HTAB.out (by omega)).mono ?_
      rintro e W1' ⟨rfl, hb1⟩
      rw [HTV.out]
      have HB1 := Lib.hid hb1
      have HTAB1 := Lib.hid (HTAB.out.keep hb1 (Nat.le_refl _))
      have HPW1 := Lib.hid (HPW.out.keep hb1 (Nat.le_refl _))
      have qv1 := (hb1.cell (p := ⟨w.heap.size + 2, 0, none⟩) (World.block_lt_of_cell? _ _ qv)).trans qv
      have HQ1 := Lib.hid qv1
      have qv1' : W1'.cell? ⟨w.heap.size + 1 + 1, 0, none⟩ = some (.slice ao zs.length cap) := qv1
      clear hb1 qv1
      go_wp2_with fail
      refine (peopleTextI ao bo 0 cap zs W1' HTAB1.out (by omega) HPW1.out).mono ?_
      rintro e W2 ⟨rfl, hb2⟩
      have hb02 := HB1.out.trans (hb2.mono HB1.out.size)
      have r1 := boxed_below hb02 HR1.out
      have r2 := boxed_below hb02 HR2.out
      have HR12 := Lib.hid r1
      have HR22 := Lib.hid r2
      have q12 := r1.cell
      have q22 := r2.cell
      have f12 := r1.frozen
      have f22 := r2.frozen
      have HB2 := Lib.hid hb02
      have qv2 : W2.cell? ⟨w.heap.size + 1 + 1, 0, none⟩ = some (.slice ao zs.length cap) := (hb02.cell (p := ⟨w.heap.size + 2, 0, none⟩) (World.block_lt_of_cell? _ _ qv)).trans qv
      clear hb2 hb02 r1 r2
      by_cases heq : tpL zs = s.data.toList
      · have HTF := Lib.hid (show pfB s.data.toList = true by rw [pf_iff HNE.out, ← HRV.out, HTV.out, HRO.out, HA4.out, heq]; simp)
        have HZ := Lib.hid (show pfL s.data.toList = zs by rw [pf_tt HTF.out, HRV.out, (pf_t HTF.out HNE.out).2.2.2.2.1])
        have hts : tp zs = s := tp_of heq
        rw [hts]
        clear heq hts
        go_wp2_with fail
        obtain ⟨hKd, c1, c2⟩ := two_cells (.slice ao zs.length cap) (.bool true) HR12.out HR22.out (HKD.out W2 HB2.out) (by omega)
        refine ⟨by simp, .inl ⟨_, _, rfl, run_takeDeferred hKd, ?_⟩⟩
        refine ⟨.tuple #[.slice ao zs.length cap, .bool true], by simp [results, Tryd.results12, go_sem, c1, c2], .slice ao zs.length cap, by rw [HTF.out], ?_, two_below (HB.out.trans (HB2.out.mono HB.out.size)) hKd (by omega)⟩
        rw [HZ.out]
        exact orow_mono (own_shut (own_set (own_set (orow_below HO.out HB2.out) (by omega)) (by omega)) hKd) (by omega)
      · have HTF := Lib.hid (show pfB s.data.toList = false by rw [pf_iff HNE.out, ← HRV.out, decide_eq_false heq]; simp)
        have hts : tp zs ≠ s := tp_not heq
        obtain ⟨S, hS⟩ : ∃ S, tp zs = S := ⟨_, rfl⟩
        rw [hS] at hts ⊢
        have hq := str_ne hts
        clear heq hS
        go_wp2_with fail
        obtain ⟨hKd, c1, c2⟩ := two_cells (.slice none 0 0) (.bool false) HR12.out HR22.out (HKD.out W2 HB2.out) (by omega)
        refine ⟨by simp, .inl ⟨_, _, rfl, run_takeDeferred hKd, ?_⟩⟩
        exact ⟨.tuple #[.slice none 0 0, .bool false], by simp [results, Tryd.results12, go_sem, c1, c2], .slice none 0 0, by rw [HTF.out], by rw [pf_f HTF.out]; exact own_nil _ _, two_below (HB.out.trans (HB2.out.mono HB.out.size)) hKd (by omega)⟩
  case stop =>
    rintro D pre W hD hpre ⟨⟨hr1, hr2⟩, hbad, hb⟩ hK
    have HOK := Lib.hid (show pfB s.data.toList = false from bad_line HTL.out HNE.out (by
        rcases hbad with ⟨x, hx, hxo⟩ | h
        · exact .inl ⟨x, hpre.subset hx, hxo⟩
        · exact .inr (Nat.lt_of_lt_of_le h hpre.length_le)))
    refine ⟨by simp, .inl ⟨_, _, rfl, run_takeDeferred hK, ?_⟩⟩
    have c1 := (boxed_put (D := D) (o := .deferred none) hr1 (by omega)).cell
    have c2 := (boxed_put (D := D) (o := .deferred none) hr2 (by omega)).cell
    exact ⟨.tuple #[.slice none 0 0, .bool false], by simp [results, Tryd.results12, go_sem, c1, c2], .slice none 0 0, by rw [HOK.out], by rw [pf_f HOK.out]; exact own_nil _ _, hb.trans (belowK_b (w := w) (Nat.le_refl _) _ D _ _ (by omega) hK rfl rfl)⟩
end Go.Proofs.YthncpnopplhlkaaDoor
