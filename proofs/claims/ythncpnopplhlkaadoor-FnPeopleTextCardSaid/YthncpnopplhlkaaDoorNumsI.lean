/-
  Contract: impl.numbersFrom, at most four numbers.
-/
import Derived.Test.YthncpnopplhlkaaDoorSplit
import Derived.Test.YthncpnopplhlkaaDoorErrL
import Derived.Test.YthncpnopplhlkaaDoorGrowIn
import Derived.Test.YthncpnopplhlkaaDoorMtOwn
import Derived.Test.YthncpnopplhlkaaDoorOwnP
namespace Go.Proofs.YthncpnopplhlkaaDoor
open Go.RowKit Go.Shelf
open Go.ParseMath (cutL okI valI lineOk lineV)
attribute [local go_sem] Oper.semAt_some

def bvals (xs : List ByteArray) : List Int := xs.map fun x => valI x.data.toList
theorem bvals_snoc (xs : List ByteArray) (x : ByteArray) : bvals (xs ++ [x]) = bvals xs ++ [valI x.data.toList] := by simp [bvals]
theorem bvals_len (xs : List ByteArray) : (bvals xs).length = xs.length := by simp [bvals]

theorem lineV_of (s : ByteArray) : bvals (cutB 32 s) = lineV s.data.toList := by
  unfold bvals cutB lineV
  rw [List.map_map]
  rfl
theorem lineOk_iff (s : ByteArray) : lineOk 4 s.data.toList = true ↔ (cutB 32 s).length ≤ 4 ∧ ∀ x ∈ cutB 32 s, okI x.data.toList = true := by
  unfold lineOk cutB
  rw [Bool.and_eq_true, decide_eq_true_eq, List.all_eq_true, List.length_map]
  refine and_congr_right fun _ => ⟨fun h x hx => ?_, fun h l hl => ?_⟩
  · obtain ⟨l, hl, rfl⟩ := List.mem_map.1 hx
    exact h l hl
  · exact h _ (List.mem_map.2 ⟨l, hl, rfl⟩)
theorem lineOk_of {s : ByteArray} (h1 : ∀ x ∈ cutB 32 s, okI x.data.toList = true) (h2 : (cutB 32 s).length ≤ 4) : lineOk 4 s.data.toList = true := (lineOk_iff s).2 ⟨h2, h1⟩
theorem lineOk_not {s : ByteArray} (h : (∃ x ∈ cutB 32 s, okI x.data.toList = false) ∨ 4 < (cutB 32 s).length) : lineOk 4 s.data.toList = false := by
  rw [Bool.eq_false_iff]
  intro hh
  obtain ⟨h1, h2⟩ := (lineOk_iff s).1 hh
  rcases h with ⟨x, hx, hf⟩ | h
  · rw [h2 x hx] at hf; cases hf
  · omega

/-- What a line's numbers come to. -/
def NumsP (l : List UInt8) (w : World) (e : Ending) (w' : World) : Prop :=
  ∃ v, e = .returned (.tuple #[v, .bool (lineOk 4 l)]) ∧ (lineOk 4 l = true → Own w' w.heap.size v (lineV l)) ∧ Below w.heap.size w w'

/-- Between two rounds. -/
def NumI (w : World) (pre : List ByteArray) (W : World) : Prop :=
  (∃ v, Boxed W (w.heap.size + 3) 48 v ∧ Own W (w.heap.size + 7) v (bvals pre)) ∧ ((∀ x ∈ pre, okI x.data.toList = true) ∧ pre.length ≤ 4) ∧
  (Boxed W w.heap.size 3 (.int .i64 4) ∧ Boxed W (w.heap.size + 1) 48 (.slice none 0 0) ∧ Boxed W (w.heap.size + 2) 4 (.bool false)) ∧ Below w.heap.size w W ∧ w.heap.size + 7 ≤ W.heap.size
/-- A round has returned. -/
def NumX (w : World) (pre : List ByteArray) (W : World) : Prop :=
  (Boxed W (w.heap.size + 1) 48 (.slice none 0 0) ∧ Boxed W (w.heap.size + 2) 4 (.bool false)) ∧ ((∃ x ∈ pre, okI x.data.toList = false) ∨ 4 < pre.length) ∧ Below w.heap.size w W

theorem boxed_keptO {W W' : World} {row : Option Nat} {B : Nat} {t : TypeId} {v : Value} (h : Boxed W B t v) (hg : W.grownBy W' row) (hr : ∀ r, row = some r → ∃ o : Obj, W.heap[r]? = some o ∧ o.isCells = false) : Boxed W' B t v :=
  h.kept hg fun e' => by
    obtain ⟨o, ho, hc⟩ := hr B e'.symm
    rw [show W.heap[B]? = _ from h] at ho; cases ho; cases hc
theorem num_own {M : Nat} {w : World} {B : Nat} (hB : w.heap.size ≤ B) : OwnFrom B (fun (pre : List (Piece M)) W => NumI w (Piece.vals pre) W) := by
  rintro s A C row ⟨⟨v, hv, ho⟩, hp, ⟨h1, h2, h3⟩, hb, hs⟩ hg hr
  have hr' : ∀ r, row = some r → ∃ o : Obj, A.heap[r]? = some o ∧ o.isCells = false := fun r e => (hr r e).2
  exact ⟨⟨v, boxed_keptO hv hg hr', orow_keptO ho hg hr'⟩, hp, ⟨boxed_keptO h1 hg hr', boxed_keptO h2 hg hr', boxed_keptO h3 hg hr'⟩, ownFrom_below (β := Unit) (Nat.le_refl _) hB () A C row hb hg hr, Nat.le_trans hs hg.size⟩
theorem numX_own {M : Nat} {w : World} {B : Nat} (hB : w.heap.size ≤ B) : OwnFrom B (fun (pre : List (Piece M)) W => NumX w (Piece.vals pre) W) := by
  rintro s A C row ⟨⟨h2, h3⟩, hp, hb⟩ hg hr
  have hr' : ∀ r, row = some r → ∃ o : Obj, A.heap[r]? = some o ∧ o.isCells = false := fun r e => (hr r e).2
  exact ⟨⟨boxed_keptO h2 hg hr', boxed_keptO h3 hg hr'⟩, hp, ownFrom_below (β := Unit) (Nat.le_refl _) hB () A C row hb hg hr⟩

theorem ownsRow_one {w : World} {base n : Nat} {e : TypeId} {v : Value} {cs : List Value} (h : w.ownsRow base e 1 v (n + 1) cs) : ∃ g c, v = .slice (some ⟨g, 0, none⟩) (n + 1) c := by
  rcases h.2 with ⟨_, h0⟩ | ⟨g, cap, cur, hv, _⟩
  · omega
  · exact ⟨g, cap, hv⟩
theorem own_cells {w : World} {base e size n j : Nat} {v : Value} {cs : List Value} {o : Obj} (h : w.ownsRow base e size v n cs) (hv : v.ownBlock = some j) (ho : w.heap[j]? = some o) : o.isCells = true := by
  rcases h.2 with ⟨rfl, _⟩ | ⟨g, cap, cur, rfl, _, hgb, _⟩
  · cases hv
  · simp [Value.ownBlock] at hv
    subst hv
    rw [hgb] at ho
    cases ho
    rfl
theorem boxed_put {W : World} {B D : Nat} {t : TypeId} {v : Value} {o : Obj} (h : Boxed W B t v) (hne : B ≠ D) : Boxed (W.putObj D o) B t v := (World.putObj_heap_other hne).trans h
theorem below_others {W V : World} (h : Below W.heap.size W V) : KeepsOthers W V := ⟨h.size, fun k o hk _ => (h.block k (Array.getElem?_eq_some_iff.1 hk).1).trans hk⟩
theorem boxed_below {W V : World} (h : Below W.heap.size W V) {B : Nat} {t : TypeId} {v : Value} (hb : Boxed W B t v) : Boxed V B t v := (h.block B hb.lt).trans hb

set_option maxHeartbeats 2000000 in
set_option maxRecDepth 100000 in
theorem numsI (s : ByteArray) (hs : s.size ≤ 281474976710656) (w : World) (he : ErrL w) :
    Calls Tryd.prog 38 #[.string s, .int .i64 4] w (NumsP s.data.toList w) := by
  have HE := Lib.hid he
  clear he
  refine (callsIn_wide (n := 10)).1 ?_
  refine callsIn_of_wp_marks Tryd.func38 rfl trivial (wpIn_wide.2 ?_) rfl
  simp only [Tryd.ntmps38, List.size_toArray, List.length_cons, List.length_nil, Nat.reduceAdd, Nat.reduceSub, Array.replicate_succ, Array.replicate_zero, List.push_toArray, List.append_toArray, List.nil_append, List.cons_append]
  go_wp2_with fail
  obtain ⟨W0, hW0⟩ : ∃ W0, (((w.alloc (.cells #[.int .i64 4] 3)).alloc (.cells #[.slice none 0 0] 48)).alloc (.cells #[.bool false] 4)).alloc (.cells #[.slice none 0 0] 48) = W0 := ⟨_, rfl⟩
  have b0 := Boxed.new w 3 (.int .i64 4)
  have b1 := Boxed.new (w.alloc (.cells #[.int .i64 4] 3)) 48 (.slice none 0 0)
  have b2 := Boxed.new ((w.alloc (.cells #[.int .i64 4] 3)).alloc (.cells #[.slice none 0 0] 48)) 4 (.bool false)
  have b3 := Boxed.new (((w.alloc (.cells #[.int .i64 4] 3)).alloc (.cells #[.slice none 0 0] 48)).alloc (.cells #[.bool false] 4)) 48 (.slice none 0 0)
  simp only [World.size_alloc] at b1 b2 b3
  have k0 := ((b0.alloc (.cells #[.slice none 0 0] 48)).alloc (.cells #[.bool false] 4)).alloc (.cells #[.slice none 0 0] 48)
  have k1 := (b1.alloc (.cells #[.bool false] 4)).alloc (.cells #[.slice none 0 0] 48)
  have k2 := b2.alloc (.cells #[.slice none 0 0] 48)
  have hbw : Below w.heap.size w W0 := by rw [← hW0]; exact ((((Below.refl _ _).alloc (Nat.le_refl _) _).alloc (by simp) _).alloc (by simp; omega) _).alloc (by simp; omega) _
  have hsz : W0.heap.size = w.heap.size + 4 := by rw [← hW0]; simp
  rw [hW0] at k0 k1 k2 b3
  rw [hW0]
  clear b0 b1 b2 hW0
  refine ((callsIn_wide (n := 9)).1 (split_in 9 s 32 W0)).mono ?_
  rintro e W1 ⟨rfl, hbx, hb1, hs1⟩
  have HBX := Lib.hid hbx
  have hb01 := hbw.trans (hb1.mono (by omega))
  have HB01 := Lib.hid hb01
  have hk : ∀ {B : Nat} {t : TypeId} {v : Value}, Boxed W0 B t v → Boxed W1 B t v := fun h => (hb1.block _ h.lt).trans h
  have HST := Lib.hid (show NumI w [] W1 from ⟨⟨_, hk b3, Own.nil _ _⟩, ⟨fun x hx => by simp at hx, Nat.zero_le _⟩, ⟨hk k0, hk k1, hk k2⟩, hb01, by omega⟩)
  obtain ⟨lo, hlo⟩ : ∃ lo, W0.heap.size = lo := ⟨_, rfl⟩
  rw [hlo] at HBX hs1 hsz ⊢
  have g1 : w.heap.size + 4 ≤ lo := by omega
  have g2 : lo ≤ w.heap.size + 4 := by omega
  have g3 : lo + 3 ≤ W1.heap.size := by omega
  clear hb01 hb1 hbw b3 k0 k1 k2 hk hbx hlo hs1 hsz
  go_wp2_with fail
  refine (wpIn_wide (n := 10)).1 ?_
  refine range_state (n := 10) (gf := 70) (lb := #[.pointer (some ⟨lo + 1, 0, none⟩), .pointer (some ⟨lo, 0, none⟩), .pointer (some ⟨lo + 2, 0, none⟩)]) rfl (enters_of Tryd.func70 (by kernel_rfl) rfl) (B := lo) (by omega)
    (split_iter 9 lo s 32 (by omega) W1 HBX.out (by omega)) (fun X Y Z h k => h.trans k) (fun W o => keepB_put (by omega) W o) (fun _ => rfl)
    (fun pre W => NumI w (Piece.vals pre) W) (fun pre W => NumX w (Piece.vals pre) W) (num_own (by omega)) (numX_own (by omega)) ?set HST.out
    (fun x => { tmps := #[.string s, .int .i64 4, undef, .pointer (some ⟨w.heap.size, 0, none⟩), .pointer (some ⟨w.heap.size + 1, 0, none⟩), .pointer (some ⟨w.heap.size + 1 + 1, 0, none⟩), .pointer (some ⟨w.heap.size + 1 + 1 + 1, 0, none⟩), .string x.1, undef, undef, .string s,
      .func (.func 70) #[] #[.pointer (some ⟨lo + 1, 0, none⟩), .pointer (some ⟨lo, 0, none⟩), .pointer (some ⟨lo + 2, 0, none⟩)], .string x.1, undef, undef, undef, undef, undef, undef, undef, undef, undef, undef, undef, undef, undef, undef, undef, undef, undef, undef], defers := [] }) ?assign ?body ?done ?stop
  case set =>
    rintro pre W v ⟨⟨v', hv, ho⟩, hp, ⟨h1, h2, h3⟩, hb, hs⟩
    refine ⟨⟨v', hv.other (by omega) v, ?_⟩, hp, ⟨h1.other (by omega) v, h2.other (by omega) v, h3.other (by omega) v⟩, hb.setCell (p := ⟨lo, 0, none⟩) (by show w.heap.size ≤ lo; omega) _, by rw [World.size_setCell]; exact hs⟩
    exact ho.kept (grownBy_setCell' W lo v) (fun k e => by injection e with e; omega)
  case assign =>
    intro l x W K hK
    gi_wp2
    exact hK
  case body =>
    rintro l pre ⟨x, hx⟩ W ⟨⟨v, hv, ho⟩, ⟨hok, hlen⟩, ⟨hm, hr1, hr2⟩, hb, hs⟩
    have HB := Lib.hid hb
    have HV := Lib.hid hv
    have HO := Lib.hid ho
    have HOK := Lib.hid hok
    have HM := Lib.hid hm
    have HR1 := Lib.hid hr1
    have HR2 := Lib.hid hr2
    have HER := Lib.hid (HE.out.keep hb (Nat.le_refl _))
    have hbl := bvals_len (Piece.vals pre)
    obtain ⟨zs, hzs⟩ : ∃ zs, bvals (Piece.vals pre) = zs := ⟨_, rfl⟩
    rw [hzs] at HO hbl
    have hz4 : zs.length ≤ 4 := by omega
    have HZS := Lib.hid hzs
    have HBL := Lib.hid hbl
    have fin : ∀ (V : World), Below W.heap.size W V → ((∃ y ∈ Piece.vals (pre ++ [(⟨x, hx⟩ : Piece s.size)]), okI y.data.toList = false) ∨ 4 < (Piece.vals (pre ++ [(⟨x, hx⟩ : Piece s.size)])).length) →
        KeepsFrom W1.heap.size W ((V.setCell ⟨w.heap.size + 1, 0, none⟩ (.slice none 0 0)).setCell ⟨w.heap.size + 1 + 1, 0, none⟩ (.bool false)) ∧ NumX w (Piece.vals (pre ++ [(⟨x, hx⟩ : Piece s.size)])) ((V.setCell ⟨w.heap.size + 1, 0, none⟩ (.slice none 0 0)).setCell ⟨w.heap.size + 1 + 1, 0, none⟩ (.bool false)) := fun V hbV hbad => by
      have q1 := boxed_below hbV HR1.out
      have q2 := boxed_below hbV HR2.out
      refine ⟨(((below_others hbV).trans (KeepsOthers.setCell _ _ _)).trans (KeepsOthers.setCell _ _ _)).from _, ⟨?_, ?_⟩, hbad, ?_⟩
      · exact (q1.set (.slice none 0 0)).other (by omega) _
      · exact Boxed.set (.bool false) (q2.other (by omega) _)
      · exact ((HB.out.trans (hbV.mono HB.out.size)).setCell (p := ⟨w.heap.size + 1, 0, none⟩) (by show w.heap.size ≤ w.heap.size + 1; omega) _).setCell (p := ⟨w.heap.size + 1 + 1, 0, none⟩) (by show w.heap.size ≤ w.heap.size + 1 + 1; omega) _
    have FIN := Lib.hid fin
    clear hv ho hok hlen hm hr1 hr2 hb hzs hbl fin HST
    cases hxo : okI x.data.toList with
    | false =>
      have HXO := Lib.hid hxo
      have HAT := Lib.hid (atoi_no x W (by omega) HER.out hxo)
      clear hxo
      gi_wp2
      refine ⟨trivial, (CallsIn.inRound l (callsIn_wide.2 HAT.out)).mono ?_⟩
      rintro e W2 ⟨v2, t2, N2, rfl, hb2⟩
      have q1 := (boxed_below hb2 HR1.out).cell
      have q2 := (boxed_below hb2 HR2.out).cell
      have f1 := (boxed_below hb2 HR1.out).frozen
      have f2 := (boxed_below hb2 HR2.out).frozen
      have HB2 := Lib.hid hb2
      clear hb2
      gi_wp2
      exact FIN.out W2 HB2.out (.inl ⟨x, by rw [Piece.vals_snoc]; simp, HXO.out⟩)
    | true =>
      have HXO := Lib.hid hxo
      have HAT := Lib.hid (atoi_yes x W (by omega) hxo)
      clear hxo
      gi_wp2
      refine ⟨trivial, (CallsIn.inRound l (callsIn_wide.2 HAT.out)).mono ?_⟩
      rintro e W2 ⟨rfl, hb2⟩
      have q1 := (boxed_below hb2 HR1.out).cell
      have q2 := (boxed_below hb2 HR2.out).cell
      have f1 := (boxed_below hb2 HR1.out).frozen
      have f2 := (boxed_below hb2 HR2.out).frozen
      have qm := (boxed_below hb2 HM.out).cell
      have HV2 := Lib.hid (boxed_below hb2 HV.out)
      have qv := HV2.out.cell
      have qf := HV2.out.frozen
      have HO2 := Lib.hid (HO.out.below hb2)
      obtain ⟨ao, bo, cap, hvv, -, -, -, -, -⟩ := HO2.out.row
      subst hvv
      have HB2 := Lib.hid hb2
      have hs2 := hb2.size
      clear hb2
      by_cases h4 : zs.length = 4
      · have hq : ((zs.length : Int) == 4) = true := by rw [h4]; rfl
        clear h4
        gi_wp2
        exact FIN.out W2 HB2.out (.inr (by rw [Piece.vals_snoc, List.length_append, ← HBL.out]; have := eq_of_beq hq; simp; omega))
      · have hq : ((zs.length : Int) == 4) = false := by rw [beq_eq_false_iff_ne]; omega
        clear h4
        have hzl : zs.length ≤ 1000000000 := by omega
        gi_wp2_with (gi_at_builtin; refine wpListIn_appH eltI rfl (.tmp 26) (.tmp 28) rfl (w.heap.size + 7) _ _ _ rfl HO2.out [.int .i64 (valI x.data.toList)] rfl (by intro u hu; simp at hu; subst hu; rfl) rfl W2.heap.size rfl rfl hzl (by omega) ?_)
        intro v' w3 ho3 hb3 hg3
        have q3 : Boxed w3 (w.heap.size + 3) 48 (.slice ao zs.length cap) := (hb3.block (w.heap.size + 3) (by omega)).trans HV2.out
        have qc := q3.cell
        have qg := q3.frozen
        obtain ⟨g3_, c3_, rfl⟩ := ownsRow_one ho3
        have HO3 := Lib.hid ho3
        have HB3 := Lib.hid hb3
        have HQ3 := Lib.hid q3
        have HM3 := Lib.hid (show Boxed w3 w.heap.size 3 (.int .i64 4) from (hb3.block w.heap.size (by omega)).trans (boxed_below HB2.out HM.out))
        have HR13 := Lib.hid (show Boxed w3 (w.heap.size + 1) 48 (.slice none 0 0) from (hb3.block (w.heap.size + 1) (by omega)).trans (boxed_below HB2.out HR1.out))
        have HR23 := Lib.hid (show Boxed w3 (w.heap.size + 2) 4 (.bool false) from (hb3.block (w.heap.size + 2) (by omega)).trans (boxed_below HB2.out HR2.out))
        have HK3 := Lib.hid hg3
        clear ho3 hb3 q3 hg3
        gi_wp2
        have hsz3 := HB3.out.size
        have ho3 : Own w3 (w.heap.size + 7) (.slice (some ⟨g3_, 0, none⟩) (zs.length + 1) c3_) (bvals (Piece.vals (pre ++ [(⟨x, hx⟩ : Piece s.size)]))) := by
          rw [Piece.vals_snoc, bvals_snoc, HZS.out]
          have := HO3.out
          unfold Own
          rw [List.length_append, List.map_append]
          exact this
        refine ⟨(((below_others HB2.out).trans (KeepsOthers.of_grownBy HK3.out (fun j o e h => own_cells HO2.out e h))).trans (KeepsOthers.setCell _ _ _)).from _, fun k h1 h2 => ?_, ⟨_, HQ3.out.set _, ?_⟩, ⟨fun y hy => ?_, ?_⟩, ⟨?_, ?_, ?_⟩, ?_, ?_⟩
        · rw [Below.heap_setCell _ _ _ _ (show k ≠ w.heap.size + 1 + 1 + 1 by omega), HB3.out.block k (by omega), HB2.out.block k (by omega)]
        · exact ownsRow_setCell_below ho3 (by show w.heap.size + 1 + 1 + 1 < w.heap.size + 7; omega) _
        · rw [Piece.vals_snoc, List.mem_append, List.mem_singleton] at hy
          rcases hy with hy | rfl
          · exact HOK.out y hy
          · exact HXO.out
        · rw [Piece.vals_snoc, List.length_append, ← HBL.out]
          have := beq_eq_false_iff_ne.1 hq
          simp
          omega
        · exact HM3.out.other (by omega) _
        · exact HR13.out.other (by omega) _
        · exact HR23.out.other (by omega) _
        · exact ((HB.out.trans (HB2.out.mono HB.out.size)).trans (HB3.out.mono (by omega))).setCell (p := ⟨w.heap.size + 1 + 1 + 1, 0, none⟩) (by show w.heap.size ≤ w.heap.size + 1 + 1 + 1; omega) _
        · rw [World.size_setCell]; omega
  case done =>
    rintro D ys W hD hys ⟨⟨v, hv, ho⟩, ⟨hok, hlen⟩, ⟨hm, hr1, hr2⟩, hb, hs⟩ hK
    have HV := Lib.hid hv
    have HO := Lib.hid ho
    have HB := Lib.hid hb
    have HK := Lib.hid hK
    have HR1 := Lib.hid hr1
    have HR2 := Lib.hid hr2
    have qv := hv.cell
    have q1 := hr1.cell
    have q2 := hr2.cell
    have f1 := hr1.frozen
    have f2 := hr2.frozen
    have HOK := Lib.hid (show lineOk 4 s.data.toList = true from lineOk_of (by rw [← hys]; exact hok) (by rw [← hys]; exact hlen))
    have HLV := Lib.hid (show bvals (Piece.vals ys) = lineV s.data.toList by rw [hys]; exact lineV_of s)
    obtain ⟨ao, bo, cap, hvv, -, -, -, -, -⟩ := ho.row
    subst hvv
    obtain ⟨zs, hzs⟩ : ∃ zs, bvals (Piece.vals ys) = zs := ⟨_, rfl⟩
    rw [hzs] at HO HV HLV qv
    clear hv ho hok hlen hm hr1 hr2 hb hK hzs
    go_wp2_with fail
    have hKd : ((W.setCell ⟨w.heap.size + 1, 0, none⟩ (.slice ao zs.length cap)).setCell ⟨w.heap.size + 1 + 1, 0, none⟩ (.bool true)).heap[D]? = some (.deferred (some [])) := by
      rw [Below.heap_setCell _ _ _ _ (show D ≠ w.heap.size + 1 + 1 by omega), Below.heap_setCell _ _ _ _ (show D ≠ w.heap.size + 1 by omega)]
      exact HK.out
    refine ⟨by simp, .inl ⟨_, _, rfl, run_takeDeferred hKd, ?_⟩⟩
    have c1 := (boxed_put (D := D) (o := .deferred none) ((HR1.out.set (.slice ao zs.length cap)).other (B' := w.heap.size + 1 + 1) (by omega) (.bool true)) (by omega)).cell
    have c2 := (boxed_put (D := D) (o := .deferred none) (Boxed.set (.bool true) (HR2.out.other (B' := w.heap.size + 1) (by omega) (.slice ao zs.length cap))) (by omega)).cell
    refine ⟨.tuple #[.slice ao zs.length cap, .bool true], by simp [results, Tryd.results38, go_sem, c1, c2], .slice ao zs.length cap, by rw [HOK.out], fun _ => ?_, ?_⟩
    · rw [← HLV.out]
      have h1 := ownsRow_setCell_below (ownsRow_setCell_below HO.out (a := ⟨w.heap.size + 1, 0, none⟩) (by show w.heap.size + 1 < w.heap.size + 7; omega) (.slice ao zs.length cap)) (a := ⟨w.heap.size + 1 + 1, 0, none⟩) (by show w.heap.size + 1 + 1 < w.heap.size + 7; omega) (.bool true)
      exact orow_mono (ownsRow_putObj h1 _ hKd rfl) (by omega)
    · exact ((HB.out.setCell (p := ⟨w.heap.size + 1, 0, none⟩) (by show w.heap.size ≤ w.heap.size + 1; omega) _).setCell (p := ⟨w.heap.size + 1 + 1, 0, none⟩) (by show w.heap.size ≤ w.heap.size + 1 + 1; omega) _).trans (belowK_b (w := w) (Nat.le_refl _) _ D _ _ (by omega) hKd rfl rfl)
  case stop =>
    rintro D pre W hD hpre ⟨⟨hr1, hr2⟩, hbad, hb⟩ hK
    have HOK := Lib.hid (show lineOk 4 s.data.toList = false from lineOk_not (by
      rcases hbad with ⟨x, hx, hxo⟩ | h
      · exact .inl ⟨x, hpre.subset hx, hxo⟩
      · exact .inr (Nat.lt_of_lt_of_le h hpre.length_le)))
    refine ⟨by simp, .inl ⟨_, _, rfl, run_takeDeferred hK, ?_⟩⟩
    have c1 := (boxed_put (D := D) (o := .deferred none) hr1 (by omega)).cell
    have c2 := (boxed_put (D := D) (o := .deferred none) hr2 (by omega)).cell
    exact ⟨.tuple #[.slice none 0 0, .bool false], by simp [results, Tryd.results38, go_sem, c1, c2], .slice none 0 0, by rw [HOK.out], fun h => (by rw [HOK.out] at h; cases h), hb.trans (belowK_b (w := w) (Nat.le_refl _) _ D _ _ (by omega) hK rfl rfl)⟩
end Go.Proofs.YthncpnopplhlkaaDoor
