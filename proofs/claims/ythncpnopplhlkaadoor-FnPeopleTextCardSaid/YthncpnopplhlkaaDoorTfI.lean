/-
  Contract: impl.TableFrom.
-/
import Derived.Test.YthncpnopplhlkaaDoorNumsI
import Derived.Test.YthncpnopplhlkaaDoorTexts
namespace Go.Proofs.YthncpnopplhlkaaDoor
open Go.RowKit Go.Shelf
open Go.ParseMath (cutL okI valI lineOk lineV readV readOk trim tfB ttL rowsS)
open Go.TextMath (tvB text)
attribute [local go_sem] Oper.semAt_some

def lvals (xs : List ByteArray) : List (List Int) := xs.map fun x => lineV x.data.toList
theorem lvals_snoc (xs : List ByteArray) (x : ByteArray) : lvals (xs ++ [x]) = lvals xs ++ [lineV x.data.toList] := by simp [lvals]
theorem lvals_len (xs : List ByteArray) : (lvals xs).length = xs.length := by simp [lvals]
theorem lineV_pos (l : List UInt8) : 1 ≤ (lineV l).length := by
  unfold lineV
  rw [List.length_map]
  have := Go.ParseMath.cutL_ne 32 l
  cases h : cutL 32 l with
  | nil => exact absurd h this
  | cons a r => simp
theorem lvals_of (s : ByteArray) (t : ByteArray) (h : t.data.toList = trim s.data.toList) : lvals (cutB 10 t) = readV s.data.toList := by
  unfold lvals cutB readV
  rw [List.map_map, h]
  rfl
theorem readOk_iff (m : Nat) (s t : ByteArray) (h : t.data.toList = trim s.data.toList) : readOk m s.data.toList = true ↔ (cutB 10 t).length ≤ m ∧ ∀ x ∈ cutB 10 t, lineOk 4 x.data.toList = true := by
  unfold readOk cutB
  rw [Bool.and_eq_true, decide_eq_true_eq, List.all_eq_true, List.length_map, h]
  refine and_congr_right fun _ => ⟨fun h x hx => ?_, fun h l hl => ?_⟩
  · obtain ⟨l, hl, rfl⟩ := List.mem_map.1 hx
    exact h l hl
  · exact h _ (List.mem_map.2 ⟨l, hl, rfl⟩)
theorem readOk_not {m : Nat} {s t : ByteArray} (ht : t.data.toList = trim s.data.toList) (h : (∃ x ∈ cutB 10 t, lineOk 4 x.data.toList = false) ∨ m < (cutB 10 t).length) : readOk m s.data.toList = false := by
  rw [Bool.eq_false_iff]
  intro hh
  obtain ⟨h1, h2⟩ := (readOk_iff m s t ht).1 hh
  rcases h with ⟨x, hx, hf⟩ | h
  · rw [h2 x hx] at hf; cases hf
  · omega

/-- A row that is owned, as a block. -/
theorem own_block {w : World} {base : Nat} {v : Value} {r : List Int} (h : Own w base v r) (hr : 1 ≤ r.length) : ∃ g0 c f, v = .slice (some ⟨g0, 0, none⟩) r.length c ∧ base ≤ g0 ∧ w.rowIs g0 3 c f ∧ (∀ j x, r[j]? = some x → f j = .int .i64 x) ∧ r.length ≤ c ∧ c ≤ 9223372036854775807 := by
  rcases h.2 with ⟨rfl, h0⟩ | ⟨g, cap, cur, rfl, hb, hh, hn, hm, hs, ht⟩
  · omega
  · refine ⟨g, cap, fun i => (cur[i]?).getD undef, rfl, hb, ⟨cur, hh, by rw [hs, Nat.mul_one], fun i hi => ?_⟩, fun j x hx => ?_, hn, by unfold maxLen at hm; omega⟩
    · simp [Array.getElem?_eq_getElem (show i < cur.size by omega)]
    · have hj := (List.getElem?_eq_some_iff.1 hx).1
      have h1 : (cur.toList.take (r.length * 1))[j]? = (r.map (Value.int .i64))[j]? := by rw [ht]
      rw [Nat.mul_one, List.getElem?_take_of_lt hj, List.getElem?_map, hx, Array.getElem?_toList] at h1
      simp only
      rw [h1]
      rfl

/-- The rows that are found; none if none. -/
def tfT (l : List UInt8) : List (List Int) := if tfB l then rowsS l else []
def TfP (l : List UInt8) (w : World) (e : Ending) (w' : World) : Prop :=
  ∃ v g, e = .returned (.tuple #[v, .bool (tfB l)]) ∧ MtI w' w.heap.size v (tfT l) g ∧ Below w.heap.size w w'

theorem tt_list (T : List (List Int)) : (tt T).data.toList = ttL T := by unfold tt ttL; rfl
theorem tt_of {T : List (List Int)} {s : ByteArray} (h : ttL T = s.data.toList) : tt T = s := by
  apply ByteArray.ext
  apply Array.toList_inj.1
  rw [tt_list, h]
theorem tt_not {T : List (List Int)} {s : ByteArray} (h : ttL T ≠ s.data.toList) : tt T ≠ s := fun e => h (by rw [← e, tt_list])

/-- Between two rounds. -/
def TfI (w : World) (pre : List ByteArray) (W : World) : Prop :=
  (∃ v g, Boxed W (w.heap.size + 2) 30 v ∧ MtI W (w.heap.size + 6) v (lvals pre) g) ∧ ((∀ x ∈ pre, lineOk 4 x.data.toList = true) ∧ pre.length ≤ 4) ∧
  (Boxed W w.heap.size 30 (.slice none 0 0) ∧ Boxed W (w.heap.size + 1) 4 (.bool false)) ∧ Below w.heap.size w W ∧ w.heap.size + 6 ≤ W.heap.size
/-- A round has returned. -/
def TfX (w : World) (pre : List ByteArray) (W : World) : Prop :=
  (Boxed W w.heap.size 30 (.slice none 0 0) ∧ Boxed W (w.heap.size + 1) 4 (.bool false)) ∧ ((∃ x ∈ pre, lineOk 4 x.data.toList = false) ∨ 4 < pre.length) ∧ Below w.heap.size w W
theorem tf_own {M : Nat} {w : World} {B : Nat} (hB : w.heap.size ≤ B) : OwnFrom B (fun (pre : List (Piece M)) W => TfI w (Piece.vals pre) W) := by
  rintro s A C row ⟨⟨v, g, hv, ho⟩, hp, ⟨h1, h2⟩, hb, hs⟩ hg hr
  have hr' : ∀ r, row = some r → ∃ o : Obj, A.heap[r]? = some o ∧ o.isCells = false := fun r e => (hr r e).2
  exact ⟨⟨v, g, boxed_keptO hv hg hr', ho.keptO hg hr'⟩, hp, ⟨boxed_keptO h1 hg hr', boxed_keptO h2 hg hr'⟩, ownFrom_below (β := Unit) (Nat.le_refl _) hB () A C row hb hg hr, Nat.le_trans hs hg.size⟩
theorem tfX_own {M : Nat} {w : World} {B : Nat} (hB : w.heap.size ≤ B) : OwnFrom B (fun (pre : List (Piece M)) W => TfX w (Piece.vals pre) W) := by
  rintro s A C row ⟨⟨h2, h3⟩, hp, hb⟩ hg hr
  have hr' : ∀ r, row = some r → ∃ o : Obj, A.heap[r]? = some o ∧ o.isCells = false := fun r e => (hr r e).2
  exact ⟨⟨boxed_keptO h2 hg hr', boxed_keptO h3 hg hr'⟩, hp, ownFrom_below (β := Unit) (Nat.le_refl _) hB () A C row hb hg hr⟩
theorem trim_size (s : ByteArray) : (⟨(Lib.trimSuffix s.data.toList [10]).toArray⟩ : ByteArray).size ≤ s.size := by
  have : (Lib.trimSuffix s.data.toList [10]).length ≤ s.data.toList.length := by
    unfold Lib.trimSuffix
    split
    · rw [List.length_take]; omega
    · exact Nat.le_refl _
  show (Lib.trimSuffix s.data.toList [10]).toArray.size ≤ s.data.size
  rw [List.size_toArray, ← Array.length_toList]
  exact this

theorem str_ne {a b : ByteArray} (h : a ≠ b) : (a.toList == b.toList) = false := by
  rw [beq_eq_false_iff_ne, Lib.toList_data, Lib.toList_data]
  exact fun e => h (ByteArray.ext (Array.toList_inj.1 e))

/-- The two results stored, the loop's block shut. -/
theorem two_cells {V : World} {H D : Nat} {t1 t2 : TypeId} {a0 b0 : Value} (a b : Value) (h1 : Boxed V H t1 a0) (h2 : Boxed V (H + 1) t2 b0) (hD : V.heap[D]? = some (.deferred (some []))) (hlt : H + 1 < D) :
    ((V.setCell ⟨H, 0, none⟩ a).setCell ⟨H + 1, 0, none⟩ b).heap[D]? = some (.deferred (some [])) ∧ (((V.setCell ⟨H, 0, none⟩ a).setCell ⟨H + 1, 0, none⟩ b).putObj D (.deferred none)).cell? ⟨H, 0, none⟩ = some a ∧
    (((V.setCell ⟨H, 0, none⟩ a).setCell ⟨H + 1, 0, none⟩ b).putObj D (.deferred none)).cell? ⟨H + 1, 0, none⟩ = some b := by
  refine ⟨?_, (boxed_put ((h1.set a).other (by omega) b) (by omega)).cell, (boxed_put (Boxed.set b (h2.other (B' := H) (by omega) a)) (by omega)).cell⟩
  rw [Below.heap_setCell _ _ _ _ (show D ≠ H + 1 by omega), Below.heap_setCell _ _ _ _ (show D ≠ H by omega)]
  exact hD
theorem two_below {w V : World} {D : Nat} {a b : Value} (hb : Below w.heap.size w V) (hD : ((V.setCell ⟨w.heap.size, 0, none⟩ a).setCell ⟨w.heap.size + 1, 0, none⟩ b).heap[D]? = some (.deferred (some []))) (hlt : w.heap.size ≤ D) :
    Below w.heap.size w (((V.setCell ⟨w.heap.size, 0, none⟩ a).setCell ⟨w.heap.size + 1, 0, none⟩ b).putObj D (.deferred none)) :=
  ((hb.setCell (p := ⟨w.heap.size, 0, none⟩) (Nat.le_refl _) _).setCell (p := ⟨w.heap.size + 1, 0, none⟩) (by show w.heap.size ≤ w.heap.size + 1; omega) _).trans (belowK_b (w := w) (Nat.le_refl _) _ D _ _ hlt hD rfl rfl)

set_option maxHeartbeats 2000000 in
set_option maxRecDepth 100000 in
theorem tfI (s : ByteArray) (hs : s.size ≤ 281474976710656) (w : World) (he : ErrL w) (hp : PowTab w) :
    Calls Tryd.prog 17 #[.string s] w (TfP s.data.toList w) := by
  have HE := Lib.hid he
  have HP := Lib.hid hp
  clear he hp
  refine (callsIn_wide (n := 10)).1 ?_
  refine callsIn_of_wp_marks Tryd.func17 rfl trivial (wpIn_wide.2 ?_) rfl
  simp only [Tryd.ntmps17, List.size_toArray, List.length_cons, List.length_nil, Nat.reduceAdd, Nat.reduceSub, Array.replicate_succ, Array.replicate_zero, List.push_toArray, List.append_toArray, List.nil_append, List.cons_append]
  go_wp2_with fail
  obtain ⟨W0, hW0⟩ : ∃ W0, ((w.alloc (.cells #[.slice none 0 0] 30)).alloc (.cells #[.bool false] 4)).alloc (.cells #[.slice none 0 0] 30) = W0 := ⟨_, rfl⟩
  have b0 := Boxed.new w 30 (.slice none 0 0)
  have b1 := Boxed.new (w.alloc (.cells #[.slice none 0 0] 30)) 4 (.bool false)
  have b2 := Boxed.new ((w.alloc (.cells #[.slice none 0 0] 30)).alloc (.cells #[.bool false] 4)) 30 (.slice none 0 0)
  simp only [World.size_alloc] at b1 b2
  have k0 := (b0.alloc (.cells #[.bool false] 4)).alloc (.cells #[.slice none 0 0] 30)
  have k1 := b1.alloc (.cells #[.slice none 0 0] 30)
  have hbw : Below w.heap.size w W0 := by rw [← hW0]; exact (((Below.refl _ _).alloc (Nat.le_refl _) _).alloc (by simp) _).alloc (by simp; omega) _
  have hsz : W0.heap.size = w.heap.size + 3 := by rw [← hW0]; simp
  rw [hW0] at k0 k1 b2
  rw [hW0]
  clear b0 b1 hW0
  obtain ⟨t, ht⟩ : ∃ t, (⟨(Lib.trimSuffix s.data.toList [10]).toArray⟩ : ByteArray) = t := ⟨_, rfl⟩
  have hts := trim_size s
  rw [ht] at hts
  have HTL := Lib.hid (show t.data.toList = trim s.data.toList by rw [← ht]; rfl)
  have HTR : Hid (Calls Tryd.prog 37 #[.string s, .string ⟨#[10]⟩] W0 fun e w' => e = .returned (.string t) ∧ w' = W0) := Lib.hid (by rw [← ht]; exact Tryd.strings_TrimSuffix s ⟨#[10]⟩ W0 (by omega))
  clear ht
  refine (HTR.out).mono ?_
  rintro e w' ⟨rfl, rfl⟩
  go_wp2_with fail
  refine ((callsIn_wide (n := 9)).1 (split_in 9 t 10 w')).mono ?_
  rintro e W1 ⟨rfl, hbx, hb1, hs1⟩
  have HBX := Lib.hid hbx
  have hb01 := hbw.trans (hb1.mono (by omega))
  have HB01 := Lib.hid hb01
  have hk : ∀ {B : Nat} {t : TypeId} {v : Value}, Boxed w' B t v → Boxed W1 B t v := fun h => (hb1.block _ h.lt).trans h
  have HST := Lib.hid (show TfI w [] W1 from ⟨⟨_, fun _ => 0, hk b2, MtG.nil _ _ _⟩, ⟨fun x hx => by simp at hx, Nat.zero_le _⟩, ⟨hk k0, hk k1⟩, hb01, by omega⟩)
  obtain ⟨lo, hlo⟩ : ∃ lo, w'.heap.size = lo := ⟨_, rfl⟩
  rw [hlo] at HBX hs1 hsz ⊢
  have g1 : w.heap.size + 3 ≤ lo := by omega
  have g2 : lo ≤ w.heap.size + 3 := by omega
  have g3 : lo + 3 ≤ W1.heap.size := by omega
  clear hb01 hb1 hbw b2 k0 k1 hk hbx hlo hs1 hsz HTR
  go_wp2_with fail
  refine (wpIn_wide (n := 10)).1 ?_
  refine range_state (n := 10) (gf := 70) (lb := #[.pointer (some ⟨lo + 1, 0, none⟩), .pointer (some ⟨lo, 0, none⟩), .pointer (some ⟨lo + 2, 0, none⟩)]) rfl (enters_of Tryd.func70 (by kernel_rfl) rfl) (B := lo) (by omega)
    (split_iter 9 lo t 10 (by omega) W1 HBX.out (by omega)) (fun X Y Z h k => h.trans k) (fun W o => keepB_put (by omega) W o) (fun _ => rfl)
    (fun pre W => TfI w (Piece.vals pre) W) (fun pre W => TfX w (Piece.vals pre) W) (tf_own (by omega)) (tfX_own (by omega)) ?set HST.out
    (fun x => { tmps := #[.string s, undef, .pointer (some ⟨w.heap.size, 0, none⟩), .pointer (some ⟨w.heap.size + 1, 0, none⟩), .pointer (some ⟨w.heap.size + 1 + 1, 0, none⟩), .string x.1, undef, undef, .string s, .string t,
      .func (.func 70) #[] #[.pointer (some ⟨lo + 1, 0, none⟩), .pointer (some ⟨lo, 0, none⟩), .pointer (some ⟨lo + 2, 0, none⟩)], .string x.1, undef, undef, undef, undef, undef, undef, undef, undef, undef, undef, undef, undef, undef, undef, undef, undef, undef, undef, undef, undef, undef, undef, undef, undef, undef, undef], defers := [] }) ?assign ?body ?done ?stop
  case set =>
    rintro pre W v ⟨⟨v', g, hv, ho⟩, hp, ⟨h1, h2⟩, hb, hs⟩
    refine ⟨⟨v', g, hv.other (by omega) v, ?_⟩, hp, ⟨h1.other (by omega) v, h2.other (by omega) v⟩, hb.setCell (p := ⟨lo, 0, none⟩) (by show w.heap.size ≤ lo; omega) _, by rw [World.size_setCell]; exact hs⟩
    exact ho.kept (grownBy_setCell' W lo v) (fun k e => by injection e with e; omega)
  case assign =>
    intro l x W K hK
    gi_wp2
    exact hK
  case body =>
    rintro l pre ⟨x, hx⟩ W ⟨⟨v, g, hv, ho⟩, ⟨hok, hlen⟩, ⟨hr1, hr2⟩, hb, hs⟩
    have HB := Lib.hid hb
    have HV := Lib.hid hv
    have HO := Lib.hid ho
    have HOK := Lib.hid hok
    have HR1 := Lib.hid hr1
    have HR2 := Lib.hid hr2
    have HER := Lib.hid (HE.out.keep hb (Nat.le_refl _))
    have hbl := lvals_len (Piece.vals pre)
    obtain ⟨zs, hzs⟩ : ∃ zs, lvals (Piece.vals pre) = zs := ⟨_, rfl⟩
    rw [hzs] at HO hbl
    have hz4 : zs.length ≤ 4 := by omega
    have HZS := Lib.hid hzs
    have HBL := Lib.hid hbl
    have fin : ∀ (V : World), Below W.heap.size W V → ((∃ y ∈ Piece.vals (pre ++ [(⟨x, hx⟩ : Piece t.size)]), lineOk 4 y.data.toList = false) ∨ 4 < (Piece.vals (pre ++ [(⟨x, hx⟩ : Piece t.size)])).length) →
        KeepsFrom W1.heap.size W ((V.setCell ⟨w.heap.size, 0, none⟩ (.slice none 0 0)).setCell ⟨w.heap.size + 1, 0, none⟩ (.bool false)) ∧ TfX w (Piece.vals (pre ++ [(⟨x, hx⟩ : Piece t.size)])) ((V.setCell ⟨w.heap.size, 0, none⟩ (.slice none 0 0)).setCell ⟨w.heap.size + 1, 0, none⟩ (.bool false)) := fun V hbV hbad => by
      have q1 := boxed_below hbV HR1.out
      have q2 := boxed_below hbV HR2.out
      refine ⟨(((below_others hbV).trans (KeepsOthers.setCell _ _ _)).trans (KeepsOthers.setCell _ _ _)).from _, ⟨?_, ?_⟩, hbad, ?_⟩
      · exact (q1.set (.slice none 0 0)).other (by omega) _
      · exact Boxed.set (.bool false) (q2.other (by omega) _)
      · exact ((HB.out.trans (hbV.mono HB.out.size)).setCell (p := ⟨w.heap.size, 0, none⟩) (Nat.le_refl _) _).setCell (p := ⟨w.heap.size + 1, 0, none⟩) (by show w.heap.size ≤ w.heap.size + 1; omega) _
    have FIN := Lib.hid fin
    have HAT := Lib.hid (numsI x (by omega) W HER.out)
    clear hv ho hok hlen hr1 hr2 hb hzs hbl fin HST
    gi_wp2
    refine ⟨trivial, (CallsIn.inRound l (callsIn_wide.2 HAT.out)).mono ?_⟩
    rintro e W2 ⟨row, rfl, hrow, hb2⟩
    have q1 := (boxed_below hb2 HR1.out).cell
    have q2 := (boxed_below hb2 HR2.out).cell
    have f1 := (boxed_below hb2 HR1.out).frozen
    have f2 := (boxed_below hb2 HR2.out).frozen
    have HV2 := Lib.hid (boxed_below hb2 HV.out)
    have qv := HV2.out.cell
    have qf := HV2.out.frozen
    have HO2 := Lib.hid (HO.out.below hb2)
    have hgl := fun i hi => HO.out.lt (i := i) hi
    have HGL := Lib.hid hgl
    obtain ⟨ao, bo, cap, hvv, -, -, -⟩ := HO2.out.tab
    subst hvv
    have HB2 := Lib.hid hb2
    have hs2 := hb2.size
    have HROW := Lib.hid hrow
    clear hb2 hrow hgl HAT
    cases hlo : lineOk 4 x.data.toList with
    | false =>
      have HLO := Lib.hid hlo
      clear hlo
      gi_wp2
      exact FIN.out W2 HB2.out (.inl ⟨x, by rw [Piece.vals_snoc]; simp, HLO.out⟩)
    | true =>
      have HLO := Lib.hid hlo
      have hown := HROW.out hlo
      clear hlo
      by_cases h4 : zs.length = 4
      · have hq : ((zs.length : Int) == 4) = true := by rw [h4]; rfl
        clear h4 hown
        gi_wp2
        exact FIN.out W2 HB2.out (.inr (by rw [Piece.vals_snoc, List.length_append, ← HBL.out]; have := eq_of_beq hq; simp; omega))
      · have hq : ((zs.length : Int) == 4) = false := by rw [beq_eq_false_iff_ne]; omega
        have hn4 : zs.length ≤ 3 := by omega
        obtain ⟨g0, c0, f0, hrv, hg0, hri, hrf, hrc, hrc2⟩ := own_block hown (lineV_pos _)
        subst hrv
        obtain ⟨cs, htop, hcs⟩ := HO2.out.top
        have HTOP := Lib.hid htop
        have HSN := Lib.hid (fun (v' : Value) (w2 : World) => HO2.out.snoc (v' := v') (w2 := w2) (by decide) htop hcs (r := lineV x.data.toList) (g0 := g0) (c := c0) (f := f0) (fun i hi => by have := HGL.out i hi; omega) (by omega) hri hrf hrc hrc2)
        obtain ⟨nr, hnr⟩ : ∃ nr, (lineV x.data.toList).length = nr := ⟨_, rfl⟩
        rw [hnr] at HSN ⊢
        clear h4 hown htop hcs hri hrf hrc hrc2 hnr
        have hzl : zs.length ≤ 1000000000 := by omega
        gi_wp2_with (gi_at_builtin; refine wpListIn_appH eltR rfl (.tmp 24) (.tmp 26) rfl (w.heap.size + 6) _ _ _ rfl HTOP.out [.slice (some ⟨g0, 0, none⟩) nr c0] rfl (by intro u hu; simp at hu; subst hu; rfl) rfl W2.heap.size rfl rfl hzl (by omega) ?_)
        intro v' w3 ho3 hb3 hg3
        have q3 : Boxed w3 (w.heap.size + 2) 30 (.slice ao zs.length cap) := (hb3.block (w.heap.size + 2) (by omega)).trans HV2.out
        have qc := q3.cell
        have qg := q3.frozen
        have HM3 := Lib.hid (HSN.out v' w3 ho3 hg3)
        obtain ⟨g3_, c3_, rfl⟩ := ownsRow_one ho3
        have HB3 := Lib.hid hb3
        have HQ3 := Lib.hid q3
        have HR13 := Lib.hid (show Boxed w3 w.heap.size 30 (.slice none 0 0) from (hb3.block w.heap.size (by omega)).trans (boxed_below HB2.out HR1.out))
        have HR23 := Lib.hid (show Boxed w3 (w.heap.size + 1) 4 (.bool false) from (hb3.block (w.heap.size + 1) (by omega)).trans (boxed_below HB2.out HR2.out))
        have HK3 := Lib.hid hg3
        clear ho3 hb3 q3 hg3 HSN
        gi_wp2
        have hsz3 := HB3.out.size
        refine ⟨(((below_others HB2.out).trans (KeepsOthers.of_grownBy HK3.out (fun j o e h => own_cells HTOP.out e h))).trans (KeepsOthers.setCell _ _ _)).from _, fun k h1 h2 => ?_, ⟨_, fun i => if i = zs.length then g0 else g i, HQ3.out.set _, ?_⟩, ⟨fun y hy => ?_, ?_⟩, ⟨?_, ?_⟩, ?_, ?_⟩
        · rw [Below.heap_setCell _ _ _ _ (show k ≠ w.heap.size + 1 + 1 by omega), HB3.out.block k (by omega), HB2.out.block k (by omega)]
        · rw [Piece.vals_snoc, lvals_snoc, HZS.out]
          exact HM3.out.kept (grownBy_setCell' w3 (w.heap.size + 1 + 1) _) (fun k e => by injection e with e; omega)
        · rw [Piece.vals_snoc, List.mem_append, List.mem_singleton] at hy
          rcases hy with hy | rfl
          · exact HOK.out y hy
          · exact HLO.out
        · rw [Piece.vals_snoc, List.length_append, ← HBL.out]
          have := beq_eq_false_iff_ne.1 hq
          simp
          omega
        · exact HR13.out.other (by omega) _
        · exact HR23.out.other (by omega) _
        · exact ((HB.out.trans (HB2.out.mono HB.out.size)).trans (HB3.out.mono (by omega))).setCell (p := ⟨w.heap.size + 1 + 1, 0, none⟩) (by show w.heap.size ≤ w.heap.size + 1 + 1; omega) _
        · rw [World.size_setCell]; omega
  case done =>
    rintro D ys W hD hys ⟨⟨v, g, hv, ho⟩, ⟨hok, hlen⟩, ⟨hr1, hr2⟩, hb, hs⟩ hK
    have HO := Lib.hid ho
    have HB := Lib.hid hb
    have HK := Lib.hid hK
    have HR1 := Lib.hid hr1
    have HR2 := Lib.hid hr2
    have q1 := hr1.cell
    have q2 := hr2.cell
    have f1 := hr1.frozen
    have f2 := hr2.frozen
    have qv := hv.cell
    have HRO := Lib.hid (show readOk 4 s.data.toList = true from (readOk_iff 4 s t HTL.out).2 ⟨by rw [← hys]; exact hlen, by rw [← hys]; exact hok⟩)
    have HRV := Lib.hid (show lvals (Piece.vals ys) = readV s.data.toList by rw [hys]; exact lvals_of s t HTL.out)
    have hzl := lvals_len (Piece.vals ys)
    obtain ⟨ao, bo, cap, hvv, hc1, hc2, htab⟩ := ho.tab
    subst hvv
    have HTAB := Lib.hid htab
    have HPW := Lib.hid (HP.out.keep hb (Nat.le_refl _))
    obtain ⟨zs, hzs⟩ : ∃ zs, lvals (Piece.vals ys) = zs := ⟨_, rfl⟩
    rw [hzs] at HO HRV HTAB qv hc1 hzl
    have hz4 : zs.length ≤ 4 := by omega
    have HKD := Lib.hid (fun (V : World) (h : Below W.heap.size W V) => (h.block D (Array.getElem?_eq_some_iff.1 hK).1).trans hK)
    clear ho hv hok hlen hr1 hr2 hb hK hzs htab hzl hs
    cases htv : tvB zs with
    | false =>
      have HTV := Lib.hid htv
      have HTF := Lib.hid (show tfB s.data.toList = false by rw [Go.ParseMath.tf_iff, ← HRV.out, htv]; simp)
      clear htv
      go_wp2_with fail
      refine (tableValidI ao bo 0 cap zs W HTAB.out (by omega)).mono ?_
      rintro e W2 ⟨rfl, rfl⟩
      rw [HTV.out]
      go_wp2_with fail
      obtain ⟨hKd, c1, c2⟩ := two_cells (.slice none 0 0) (.bool false) HR1.out HR2.out (HKD.out W (Below.refl _ _)) (by omega)
      refine ⟨by simp, .inl ⟨_, _, rfl, run_takeDeferred hKd, ?_⟩⟩
      exact ⟨.tuple #[.slice none 0 0, .bool false], by simp [results, Tryd.results17, go_sem, c1, c2], .slice none 0 0, fun _ => 0, by rw [HTF.out], by unfold tfT; rw [HTF.out]; exact MtG.nil _ _ _, two_below HB.out hKd (by omega)⟩
    | true =>
      have HTV := Lib.hid htv
      clear htv
      go_wp2_with fail
      refine (tableValidI ao bo 0 cap zs W HTAB.out (by omega)).mono ?_
      rintro e W2 ⟨rfl, rfl⟩
      rw [HTV.out]
      go_wp2_with fail
      refine (tableTextI ao bo 0 cap zs W HTAB.out (by omega) HPW.out).mono ?_
      rintro e W2 ⟨rfl, hb2⟩
      have r1 := boxed_below hb2 HR1.out
      have r2 := boxed_below hb2 HR2.out
      have HR12 := Lib.hid r1
      have HR22 := Lib.hid r2
      have q12 := r1.cell
      have q22 := r2.cell
      have f12 := r1.frozen
      have f22 := r2.frozen
      have HB2 := Lib.hid hb2
      have qv2 := (hb2.cell (p := ⟨w.heap.size + 2, 0, none⟩) (World.block_lt_of_cell? _ _ qv)).trans qv
      clear hb2 r1 r2
      by_cases heq : ttL zs = s.data.toList
      · have HTF := Lib.hid (show tfB s.data.toList = true by rw [Go.ParseMath.tf_iff, ← HRV.out, HTV.out, HRO.out, heq]; simp)
        have HZ := Lib.hid (show tfT s.data.toList = zs by unfold tfT; rw [HTF.out, HRV.out]; exact (Go.ParseMath.tf_t HTF.out).2.2.2.symm)
        have hts : tt zs = s := tt_of heq
        rw [hts]
        clear heq hts
        go_wp2_with fail
        obtain ⟨hKd, c1, c2⟩ := two_cells (.slice ao zs.length cap) (.bool true) HR12.out HR22.out (HKD.out W2 HB2.out) (by omega)
        refine ⟨by simp, .inl ⟨_, _, rfl, run_takeDeferred hKd, ?_⟩⟩
        refine ⟨.tuple #[.slice ao zs.length cap, .bool true], by simp [results, Tryd.results17, go_sem, c1, c2], .slice ao zs.length cap, g, by rw [HTF.out], ?_, two_below (HB.out.trans (HB2.out.mono HB.out.size)) hKd (by omega)⟩
        rw [HZ.out]
        have h1 := ((HO.out.below HB2.out).kept (grownBy_setCell' W2 w.heap.size (.slice ao zs.length cap)) (fun k e => by injection e with e; omega)).kept (grownBy_setCell' _ (w.heap.size + 1) (.bool true)) (fun k e => by injection e with e; omega)
        exact (h1.keptO (grownBy_putObj' _ D (.deferred none)) (fun r e => by cases e; exact ⟨_, hKd, rfl⟩)).mono (by omega)
      · have HTF := Lib.hid (show tfB s.data.toList = false by rw [Go.ParseMath.tf_iff, decide_eq_false (by rw [← HRV.out]; exact heq)]; simp)
        have hts : tt zs ≠ s := tt_not heq
        obtain ⟨S, hS⟩ : ∃ S, tt zs = S := ⟨_, rfl⟩
        rw [hS] at hts ⊢
        have hq := str_ne hts
        clear heq hS
        go_wp2_with fail
        obtain ⟨hKd, c1, c2⟩ := two_cells (.slice none 0 0) (.bool false) HR12.out HR22.out (HKD.out W2 HB2.out) (by omega)
        refine ⟨by simp, .inl ⟨_, _, rfl, run_takeDeferred hKd, ?_⟩⟩
        exact ⟨.tuple #[.slice none 0 0, .bool false], by simp [results, Tryd.results17, go_sem, c1, c2], .slice none 0 0, fun _ => 0, by rw [HTF.out], by unfold tfT; rw [HTF.out]; exact MtG.nil _ _ _, two_below (HB.out.trans (HB2.out.mono HB.out.size)) hKd (by omega)⟩
  case stop =>
    rintro D pre W hD hpre ⟨⟨hr1, hr2⟩, hbad, hb⟩ hK
    have HOK := Lib.hid (show tfB s.data.toList = false by
      rw [Go.ParseMath.tf_iff, readOk_not HTL.out (by
        rcases hbad with ⟨x, hx, hxo⟩ | h
        · exact .inl ⟨x, hpre.subset hx, hxo⟩
        · exact .inr (Nat.lt_of_lt_of_le h hpre.length_le))]
      rfl)
    refine ⟨by simp, .inl ⟨_, _, rfl, run_takeDeferred hK, ?_⟩⟩
    have c1 := (boxed_put (D := D) (o := .deferred none) hr1 (by omega)).cell
    have c2 := (boxed_put (D := D) (o := .deferred none) hr2 (by omega)).cell
    exact ⟨.tuple #[.slice none 0 0, .bool false], by simp [results, Tryd.results17, go_sem, c1, c2], .slice none 0 0, fun _ => 0, by rw [HOK.out], by unfold tfT; rw [HOK.out]; exact MtG.nil _ _ _, hb.trans (belowK_b (w := w) (Nat.le_refl _) _ D _ _ (by omega) hK rfl rfl)⟩
end Go.Proofs.YthncpnopplhlkaaDoor
