/-
  Contracts: spec.l91People, spec.DrawPeopleText.
-/
import Derived.Test.YthncpnopplhlkaaDoorDrawPer
import Derived.Test.YthncpnopplhlkaaDoorOwnOnly
namespace Go.Proofs.YthncpnopplhlkaaDoor
open Go.RowKit

/-- The cells of people. -/
def pc : List Per → List Value
  | [] => []
  | p :: L => .int .i64 p.area :: .int .i64 p.job :: .int .i64 p.sex :: .int .i64 p.pay :: pc L
theorem pc_get : ∀ (L : List Per) (i : Nat), i < L.length → (pc L)[i * 4]? = some (.int .i64 (L.getD i per0).area) ∧ (pc L)[i * 4 + 1]? = some (.int .i64 (L.getD i per0).job) ∧
    (pc L)[i * 4 + 2]? = some (.int .i64 (L.getD i per0).sex) ∧ (pc L)[i * 4 + 3]? = some (.int .i64 (L.getD i per0).pay)
  | p :: L, 0, _ => ⟨rfl, rfl, rfl, rfl⟩
  | p :: L, i + 1, h => by
    have ih := pc_get L i (by simp at h; omega)
    rw [show (i + 1) * 4 = i * 4 + 4 by omega]
    exact ih
theorem pc_snoc (L : List Per) (a j s y : Int) : pc (L ++ [⟨a, j, s, y⟩]) = pc L ++ [.int .i64 a, .int .i64 j, .int .i64 s, .int .i64 y] := by
  induction L with
  | nil => rfl
  | cons p L ih =>
    show _ :: _ :: _ :: _ :: pc (L ++ _) = _
    rw [ih]
    rfl
/-- People in a slice of the call's own. -/
def OwnPpl (w : World) (base : Nat) (v : Value) (L : List Per) : Prop := w.ownsRow base 47 4 v L.length (pc L)
theorem OwnPpl.at_ {w : World} {base b n cap : Nat} {L : List Per} (h : OwnPpl w base (.slice (some ⟨b, 0, none⟩) n cap) L) {i : Nat} (hi : i < L.length) : PerAt w b (i * 4) (L.getD i per0) := by
  have hcl := fun i u hu => World.ownsRow.cells (g := b) h rfl i u hu
  obtain ⟨h0, h1, h2, h3⟩ := pc_get L i hi
  have e0 := hcl _ _ h0
  have e1 := hcl _ _ h1
  have e2 := hcl _ _ h2
  have e3 := hcl _ _ h3
  rw [add_none, Nat.zero_add] at e0 e1 e2 e3
  exact ⟨e0, e1, e2, e3⟩
theorem OwnPpl.ppl {w : World} {base : Nat} {v : Value} {L : List Per} (h : OwnPpl w base v L) : ∃ ao b cap, v = .slice ao L.length cap ∧ L.length ≤ cap ∧ cap ≤ 9223372036854775807 ∧ (0 < L.length → ao = some ⟨b, 0, none⟩ ∧ base ≤ b ∧ b < w.heap.size) ∧ Ppl w ao b 0 L := by
  obtain ⟨ao, b, cap, hv, h1, h2, h3, h4⟩ := orow_cells h
  refine ⟨ao, b, cap, hv, h1, h2, h3, fun hp => (h3 hp).1, fun i hi => ?_⟩
  obtain ⟨e0, e1, e2, e3⟩ := pc_get L i hi
  rw [Nat.zero_add]
  exact ⟨h4 _ _ e0, h4 _ _ e1, h4 _ _ e2, h4 _ _ e3⟩

/-- People that were drawn. -/
def PplD (rb : Nat) (w : World) (e : Ending) (w' : World) : Prop :=
  ∃ (ao : Option Addr) (b cap : Nat) (L : List Per), e = .returned (.slice ao L.length cap) ∧ Ppl w' ao b 0 L ∧ L.length ≤ cap ∧ cap ≤ 9223372036854775807 ∧ L.length ≤ 12 ∧ Fr rb w w' ∧ ∃ q, IsRd w' rb q ∧ q ≤ 2000
def PayOk (L : List Per) : Prop := ∀ i, i < L.length → 0 ≤ (L.getD i per0).pay ∧ (L.getD i per0).pay ≤ 999
theorem PayOk.snoc {L : List Per} (h : PayOk L) {a j s y : Int} (hy : 0 ≤ y ∧ y ≤ 999) : PayOk (L ++ [⟨a, j, s, y⟩]) := fun i hi => by
  by_cases e : i < L.length
  · rw [List.getD_eq_getElem?_getD, List.getElem?_append_left e, ← List.getD_eq_getElem?_getD]; exact h i e
  · obtain rfl : i = L.length := by simp at hi; omega
    simp [List.getD_eq_getElem?_getD]; exact hy

theorem only_set {pb o : Nat} (w : World) (u : Value) : Only pb w (w.setCell ⟨pb, o, none⟩ u) := ⟨rfl, rfl, rfl, by simp [World.setCell], fun k hk => Below.heap_setCell _ _ _ _ hk⟩
theorem own_only2 {w w' : World} {pb base size n : Nat} {e : TypeId} {v : Value} {cs : List Value} (h : w.ownsRow base e size v n cs) (ho : Only pb w w') (hb : ∀ k, v.ownBlock = some k → k ≠ pb) : w'.ownsRow base e size v n cs := by
  refine World.ownsRow.kept (row := some pb) h ⟨ho.1, ho.2.1, ho.2.2.1, Nat.le_of_eq ho.2.2.2.1.symm, fun k _ hne => ho.2.2.2.2 k (fun e => hne (by rw [e]))⟩ ?_
  cases hv : v.ownBlock with
  | none => exact .inl rfl
  | some k => exact .inr (fun e => hb k hv (by injection e))
theorem own_blk {b k n cap : Nat} (h : (Value.slice (some ⟨b, 0, none⟩) n cap).ownBlock = some k) : b = k := by simpa [Value.ownBlock] using h
theorem Only.below2 {pb B : Nat} {w w' : World} (h : Only pb w w') (hB : B ≤ pb) : Below B w w' := ⟨h.1, h.2.1, h.2.2.1, Nat.le_of_eq h.2.2.2.1.symm, fun k hk => h.2.2.2.2 k (by omega)⟩

theorem own_frozen {w : World} {base b n cap : Nat} {L : List Per} (h : OwnPpl w base (.slice (some ⟨b, 0, none⟩) n cap) L) (o : Nat) : w.frozen? ⟨b, o, none⟩ = false := by
  rcases h.2 with ⟨h0, _⟩ | ⟨g2, cap2, cur2, hv2, hb2, hh2, hn2, hm2, hs2, _⟩
  · cases h0
  · injection hv2 with e1 e2 e3
    injection e1 with e1
    injection e1 with e1 _ _
    subst e1
    simp [World.frozen?, hh2]
theorem ppl_set0 {w : World} {b r : Nat} {L : List Per} {u : Value} {p' : Per} (h : Ppl w (some ⟨b, 0, none⟩) b 0 L) (h0 : 0 < L.length) (hr : r < 4) (hp : PerAt (w.setCell ⟨b, r, none⟩ u) b 0 p') : Ppl (w.setCell ⟨b, r, none⟩ u) (some ⟨b, 0, none⟩) b 0 (L.set 0 p') := by
  refine ⟨fun _ => rfl, fun i hi => ?_⟩
  rw [List.length_set] at hi
  have hg : (L.set 0 p').getD i per0 = if i = 0 then p' else L.getD i per0 := getD_set L 0 i p' per0 h0
  rw [hg]
  by_cases e : i = 0
  · subst e
    rw [if_pos rfl]
    exact hp
  · rw [if_neg e]
    obtain ⟨e0, e1, e2, e3⟩ := h.2 i hi
    have key : ∀ o, r ≠ o → (w.setCell ⟨b, r, none⟩ u).cell? ⟨b, o, none⟩ = w.cell? ⟨b, o, none⟩ := fun o ho => World.cell?_setCell_other _ _ _ _ (fun e => ho (by have := congrArg Addr.off e; first | exact this | exact this.symm))
    exact ⟨(key _ (by omega)).trans e0, (key _ (by omega)).trans e1, (key _ (by omega)).trans e2, (key _ (by omega)).trans e3⟩
theorem cs_other {w : World} {b r o : Nat} {u : Value} (h : r ≠ o) : (w.setCell ⟨b, r, none⟩ u).cell? ⟨b, o, none⟩ = w.cell? ⟨b, o, none⟩ := World.cell?_setCell_other _ _ _ _ (fun e => h (by have := congrArg Addr.off e; first | exact this | exact this.symm))
theorem cs_same {w : World} {b r : Nat} {u v : Value} (h : w.cell? ⟨b, r, none⟩ = some v) : (w.setCell ⟨b, r, none⟩ u).cell? ⟨b, r, none⟩ = some u := World.cell?_setCell_same' _ _ _ (by rw [h]; rfl)
theorem pplD_mk {rb n cap b : Nat} {ao : Option Addr} {w w' : World} {L : List Per} (h : Ppl w' ao b 0 L) (hl : L.length = n) (h1 : n ≤ cap) (h2 : cap ≤ 9223372036854775807) (h3 : n ≤ 12) (hf : Fr rb w w') (hrd : ∃ q, IsRd w' rb q ∧ q ≤ 2000) : PplD rb w (.returned (.slice ao n cap)) w' := by
  subst hl
  exact ⟨ao, b, cap, L, rfl, h, h1, h2, h3, hf, hrd⟩

set_option maxHeartbeats 4000000 in
set_option maxRecDepth 100000 in
theorem peopleD (rb : Nat) (most p : Int) (w : World) (h : IsRd w rb p) (hp : p ≤ 1000) (hm0 : 0 ≤ most) (hm : most ≤ 12) :
    Calls Tryd.prog 31 #[.pointer (some ⟨rb, 0, none⟩), .int .i64 most] w (PplD rb w) := by
  have HI := Lib.hid h
  have hlt0 := h.lt
  clear h
  have HO0 : Hid (OwnPpl (w.alloc (.cells #[] 47)) w.heap.size (.slice (some ⟨w.heap.size, 0, none⟩) 0 0) []) := by
    have := World.ownsRow_lit (base := w.heap.size) (e := 47) (size := 4) w #[] 0 (Nat.le_refl _) (by unfold maxLen; omega) (by simp)
    show OwnPpl _ _ _ _
    simpa [OwnPpl, pc] using this
  have HRa := Lib.hid (HI.out.alloc (.cells #[] 47))
  have HFa := Lib.hid ((Fr.refl rb w).alloc (.cells #[] 47))
  go_enter Tryd.func31, Tryd.ntmps31
  go_wp2_with fail
  refine (pick_any rb (most + 1) p _ HRa.out (by omega) (by omega)).mono ?_
  rintro e w1 ⟨n1, rfl, hn0, hn1, hrd1, ho1⟩
  have HR1 := Lib.hid hrd1
  have HF1 := Lib.hid (HFa.out.only ho1)
  have HO1 := Lib.hid (own_only HO0.out ho1 hlt0)
  obtain ⟨n, rfl⟩ := nat_of hn0
  have hn12 : n ≤ 12 := by omega
  clear hrd1 ho1 hn1 hn0 HO0 HRa HFa
  go_wp2_with fail
  go_loopw [5, 7] (fun s i wr => ∃ (k : Nat) (L : List Per) (q : Int), k ≤ n ∧ i = .int .i64 k ∧ OwnPpl wr w.heap.size s L ∧ L.length = k ∧ PayOk L ∧ IsRd wr rb q ∧ q ≤ p + 1 + 10 * k ∧ Fr rb w wr) (fun _ i _ => n - (intOf i).toNat)
  case atStart => exact ⟨0, [], _, Nat.zero_le _, rfl, HO1.out, rfl, fun i hi => absurd hi (by simp), HR1.out, by omega, HF1.out⟩
  case round =>
    clear HR1 HF1 HO1
    obtain ⟨k, L, q, hk, rfl, hown, hlk, hpay, hrd, hq, hf⟩ := hrel
    have HO := Lib.hid hown
    have HPAY := Lib.hid hpay
    have HR := Lib.hid hrd
    have HF := Lib.hid hf
    have hrlt := hrd.lt
    have hsw := hf.size
    clear hown hpay hrd hf
    obtain ⟨ao, b, cap, hv5, hc1, hc2, hao, -⟩ := HO.out.ppl
    rw [hlk] at hv5
    subst hv5
    by_cases hlt : k < n
    · go_wp2_with fail
      refine (personD rb q wr HR.out (by omega)).mono ?_
      rintro e w2 ⟨a, j, s, y, rfl, hy, hrd2, hf2⟩
      have HR2 := Lib.hid hrd2
      have HF2 := Lib.hid (HF.out.trans hf2)
      have hs2 := hf2.size
      have HO2 := Lib.hid (World.ownsRow.kept HO.out hf2 (by
        cases hv : (Value.slice ao k cap).ownBlock with
        | none => exact .inl rfl
        | some k => exact .inr (fun e => by have := World.ownsRow.lt HO.out k hv; injection e with e; omega)))
      clear hrd2 hf2
      have HO3 := Lib.hid (World.ownsRow.alloc HO2.out (.cells #[.int .i64 a, .int .i64 j, .int .i64 s, .int .i64 y] 47))
      have HR3 := Lib.hid (HR2.out.alloc (.cells #[.int .i64 a, .int .i64 j, .int .i64 s, .int .i64 y] 47))
      have HF3 := Lib.hid (HF2.out.alloc (.cells #[.int .i64 a, .int .i64 j, .int .i64 s, .int .i64 y] 47))
      by_cases hk0 : k = 0
      · have hk0f : ¬ 0 < k := by omega
        clear hk0
        have hs10 : w.heap.size ≤ (w2.alloc (.cells #[.int .i64 a, .int .i64 j, .int .i64 s, .int .i64 y] 47)).heap.size := HF3.out.size
        have HSN := Lib.hid (fun (v' : Value) (w9 : World) (hh : w9.ownsRow w.heap.size 47 4 v' (k + 1) (pc L ++ [.int .i64 a, .int .i64 j, .int .i64 s, .int .i64 y])) => (show OwnPpl w9 w.heap.size v' (L ++ [⟨a, j, s, y⟩]) by unfold OwnPpl; rw [pc_snoc, List.length_append, hlk]; exact hh))
        have HPN := Lib.hid (HPAY.out.snoc (a := a) (j := j) (s := s) (y := y) (by omega))
        have hl10 : Hid (L.length ≤ 1000000000) := Lib.hid (by omega)
        have HS10 := Lib.hid hs10
        clear hs10
        go_wp2_with (at_builtin; refine wpList_appH eltP rfl (.tmp 44) (.tmp 46) rfl w.heap.size _ _ _ rfl HO3.out [.int .i64 a, .int .i64 j, .int .i64 s, .int .i64 y] rfl (by intro u hu; simp at hu; rcases hu with rfl | rfl | rfl | rfl <;> rfl) rfl (w2.heap.size + 1) (by simp) rfl hl10.out HS10.out ?_)
        intro v' w9 ho9 hb9 hg9
        have HO9 := Lib.hid (HSN.out v' w9 ho9)
        have HF9 := Lib.hid (HF3.out.base hb9)
        have HR9 := Lib.hid (HR3.out.keep hb9 hlt0)
        clear ho9 hb9 hg9
        go_wp2_with fail
        go_roundw
        case rel => exact ⟨k + 1, _, q + 5, by omega, by go_num, HO9.out, by rw [List.length_append, hlk]; rfl, HPN.out, HR9.out, by omega, HF9.out⟩
        case measure => simp [intOf]; omega
      · have hk0t : 0 < k := by omega
        obtain ⟨rfl, hbB, hbl⟩ := hao (by omega)
        clear hk0
        go_wp2_with fail
        refine (pick_any rb 3 (q + 5) _ HR3.out (by omega) (by omega)).mono ?_
        rintro e w4 ⟨y3, rfl, hy30, hy31, hrd4, ho4⟩
        have HR4 := Lib.hid hrd4
        have HF4 := Lib.hid (HF3.out.only ho4)
        have HO4 := Lib.hid (own_only HO3.out ho4 hlt0)
        have hp4 : w4.rowIs w2.heap.size 47 4 (fun i => [Value.int .i64 a, .int .i64 j, .int .i64 s, .int .i64 y].getD i undef) := (World.rowIs_alloc w2 #[.int .i64 a, .int .i64 j, .int .i64 s, .int .i64 y] 47 (fun i => [Value.int .i64 a, .int .i64 j, .int .i64 s, .int .i64 y].getD i undef) (fun i hi => by
          have : i = 0 ∨ i = 1 ∨ i = 2 ∨ i = 3 := by simp at hi; omega
          rcases this with rfl | rfl | rfl | rfl <;> rfl)).of_block (ho4.2.2.2.2 w2.heap.size (by omega))
        have hpc0 : w4.cell? ⟨w2.heap.size, 0, none⟩ = some (.int .i64 a) := hp4.cell (i := 0) (by omega)
        have hpc1 : w4.cell? ⟨w2.heap.size, 1, none⟩ = some (.int .i64 j) := hp4.cell (i := 1) (by omega)
        have hpc2 : w4.cell? ⟨w2.heap.size, 2, none⟩ = some (.int .i64 s) := hp4.cell (i := 2) (by omega)
        have hpc3 : w4.cell? ⟨w2.heap.size, 3, none⟩ = some (.int .i64 y) := hp4.cell (i := 3) (by omega)
        have HP4 := Lib.hid hp4
        clear hrd4 ho4 hp4 hy31
        by_cases hy3 : y3 = 0
        · subst hy3
          go_wp2_with fail
          refine (pick_any rb k (q + 5 + 1) w4 HR4.out (by omega) (by omega)).mono ?_
          rintro e w5 ⟨ix, rfl, hix0, hix1, hrd5, ho5⟩
          obtain ⟨m, rfl⟩ := nat_of hix0
          have hmk : m < k := by omega
          have HR5 := Lib.hid hrd5
          have HF5 := Lib.hid (HF4.out.only ho5)
          have HO5 := Lib.hid (own_only HO4.out ho5 hlt0)
          have hp5 := HP4.out.of_block (ho5.2.2.2.2 w2.heap.size (by omega))
          have hqc0 : w5.cell? ⟨w2.heap.size, 0, none⟩ = some (.int .i64 a) := hp5.cell (i := 0) (by omega)
          have hqc1 : w5.cell? ⟨w2.heap.size, 1, none⟩ = some (.int .i64 j) := hp5.cell (i := 1) (by omega)
          have hqc2 : w5.cell? ⟨w2.heap.size, 2, none⟩ = some (.int .i64 s) := hp5.cell (i := 2) (by omega)
          have hqc3 : w5.cell? ⟨w2.heap.size, 3, none⟩ = some (.int .i64 y) := hp5.cell (i := 3) (by omega)
          have hqf0 := hp5.frozen 0
          have hqf1 := hp5.frozen 1
          have hqf2 := hp5.frozen 2
          have hqf3 := hp5.frozen 3
          have hpe := OwnPpl.at_ (show OwnPpl w5 w.heap.size _ L from HO5.out) (i := m) (by omega)
          have hpy := HPAY.out m (by omega)
          obtain ⟨P, hP⟩ : ∃ P, L.getD m per0 = P := ⟨_, rfl⟩
          rw [hP] at hpe hpy
          obtain ⟨a2, j2, s2, y2⟩ := P
          obtain ⟨e0, e1, e2, e3⟩ := hpe
          simp only at e0 e1 e2 e3 hpy
          obtain ⟨hy20, hy21⟩ := hpy
          have hmcap : m < cap := by omega
          have hpb : b ≠ w2.heap.size := by omega
          have hpb2 : w2.heap.size ≠ rb := by omega
          have HO45 := Lib.hid ho5
          clear hrd5 ho5 hp5 hix1 hP hpc0 hpc1 hpc2 hpc3
          go_wp2_with fail
          obtain ⟨w6, hw6⟩ : ∃ w6, ((((w5.setCell ⟨w2.heap.size, 0, none⟩ (.int .i64 a2)).setCell ⟨w2.heap.size, 1, none⟩ (.int .i64 j2)).setCell ⟨w2.heap.size, 2, none⟩ (.int .i64 s2)).setCell ⟨w2.heap.size, 3, none⟩ (.int .i64 y2)) = w6 := ⟨_, rfl⟩
          have ho6 : Only w2.heap.size w5 w6 := by
            rw [← hw6]
            exact (((only_set _ _).trans (only_set _ _)).trans (only_set _ _)).trans (only_set _ _)
          have hp6 : w6.rowIs w2.heap.size 47 4 (fun i => [Value.int .i64 a2, .int .i64 j2, .int .i64 s2, .int .i64 y2].getD i undef) := by
            rw [← hw6]
            refine ((((HP4.out.of_block (HO45.out.2.2.2.2 w2.heap.size (by omega))).set 0 (.int .i64 a2)).set 1 (.int .i64 j2)).set 2 (.int .i64 s2)).set 3 (.int .i64 y2) |>.congr (fun i hi => ?_)
            have : i = 0 ∨ i = 1 ∨ i = 2 ∨ i = 3 := by omega
            rcases this with rfl | rfl | rfl | rfl <;> rfl
          have HR6 := Lib.hid (HR5.out.keep (ho6.below2 (Nat.le_refl _)) (show rb < w2.heap.size by omega))
          have HF6 := Lib.hid (HF5.out.base (ho6.below2 (show w.heap.size ≤ w2.heap.size by omega)))
          have HO6 := Lib.hid (own_only2 HO5.out ho6 (fun k hk => by rw [← own_blk hk]; exact hpb))
          have hc60 : w6.cell? ⟨w2.heap.size, 0, none⟩ = some (.int .i64 a2) := hp6.cell (i := 0) (by omega)
          have hc61 : w6.cell? ⟨w2.heap.size, 1, none⟩ = some (.int .i64 j2) := hp6.cell (i := 1) (by omega)
          have hc62 : w6.cell? ⟨w2.heap.size, 2, none⟩ = some (.int .i64 s2) := hp6.cell (i := 2) (by omega)
          have hc63 : w6.cell? ⟨w2.heap.size, 3, none⟩ = some (.int .i64 y2) := hp6.cell (i := 3) (by omega)
          have hf63 := hp6.frozen 3
          rw [hw6]
          clear hw6 ho6 hqc0 hqc1 hqc2 hqc3 hqf0 hqf1 hqf2 hqf3 e0 e1 e2 e3
          have HP6 := Lib.hid hp6
          clear hp6
          go_region_with (go_at_call 47; refine (pick_any rb 3 (q + 5 + 1 + 1) w6.drew (IsRd.drew HR6.out) (by omega) (by omega)).mono ?_; rintro e w' ⟨yy, rfl, hyy0, hyy1, hrd', ho'⟩; have HO7 := Lib.hid ho'; have HRD := Lib.hid hrd'; have hyy2 : yy ≤ 2 := (by omega); have d0 := (Only.cell (b := w2.heap.size) (o := 0) ho' hpb2).trans hc60; have d1 := (Only.cell (b := w2.heap.size) (o := 1) ho' hpb2).trans hc61; have d2 := (Only.cell (b := w2.heap.size) (o := 2) ho' hpb2).trans hc62; have d3 := (Only.cell (b := w2.heap.size) (o := 3) ho' hpb2).trans hc63; have d4 := (Only.frozen (b := w2.heap.size) (o := 3) ho' hpb2).trans hf63; clear hrd' ho' hyy1)
          all_goals
            have z1 : IntKind.i64.wrap (100 * yy) = 100 * yy := IntWalk.i64_in _ ⟨by omega, by omega⟩
            have z2 : IntKind.i64.wrap (y2 + 100 * yy) = y2 + 100 * yy := IntWalk.i64_in _ ⟨by omega, by omega⟩
            rw [z1, z2]
            obtain ⟨y9, hy9⟩ : ∃ y9, (y2 + 100 * yy).tmod 1000 = y9 := ⟨_, rfl⟩
            rw [hy9]
            have hy90 : 0 ≤ y9 := by rw [← hy9]; exact Int.tmod_nonneg _ (by omega)
            have hy91 : y9 < 1000 := by rw [← hy9]; exact Int.tmod_lt_of_pos _ (by omega)
            clear hy9 z1 z2
            have ho7 := HO7.out
            have HRt := Lib.hid (HRD.out.keep (B := w2.heap.size) ((Below.refl w2.heap.size w').setCell (p := ⟨w2.heap.size, 3, none⟩) (Nat.le_refl _) (.int .i64 y9)) (by omega))
            have HFt := Lib.hid ((HF6.out.drew.only ho7).setCell (p := ⟨w2.heap.size, 3, none⟩) (show w.heap.size ≤ w2.heap.size by omega) (.int .i64 y9))
            have HOt := Lib.hid (own_only2 (own_only (World.ownsRow.drew HO6.out) ho7 hlt0) (only_set (pb := w2.heap.size) (o := 3) w' (.int .i64 y9)) (fun k hk => by rw [← own_blk hk]; exact hpb))
            clear ho7
            have hs10 : w.heap.size ≤ (w'.setCell ⟨w2.heap.size, 3, none⟩ (.int .i64 y9)).heap.size := HFt.out.size
            have HSN := Lib.hid (fun (v' : Value) (w9 : World) (hh : w9.ownsRow w.heap.size 47 4 v' (k + 1) (pc L ++ [.int .i64 a2, .int .i64 j2, .int .i64 s2, .int .i64 y9])) => (show OwnPpl w9 w.heap.size v' (L ++ [⟨a2, j2, s2, y9⟩]) by unfold OwnPpl; rw [pc_snoc, List.length_append, hlk]; exact hh))
            have HPN := Lib.hid (HPAY.out.snoc (a := a2) (j := j2) (s := s2) (y := y9) (by omega))
            have hl10 : Hid (L.length ≤ 1000000000) := Lib.hid (by omega)
            have HS10 := Lib.hid hs10
            clear hs10
            go_wp2_with (at_builtin; refine wpList_appH eltP rfl (.tmp 44) (.tmp 46) rfl w.heap.size _ _ _ rfl HOt.out [.int .i64 a2, .int .i64 j2, .int .i64 s2, .int .i64 y9] rfl (by intro u hu; simp at hu; rcases hu with rfl | rfl | rfl | rfl <;> rfl) rfl (w'.heap.size) (by simp) rfl hl10.out HS10.out ?_)
            intro v' w9 ho9 hb9 hg9
            have HO9 := Lib.hid (HSN.out v' w9 ho9)
            have HF9 := Lib.hid (HFt.out.base hb9)
            have HR9 := Lib.hid (HRt.out.keep hb9 hlt0)
            clear ho9 hb9 hg9
            go_wp2_with fail
            go_roundw
            case rel => exact ⟨k + 1, _, q + 5 + 1 + 1 + 1, by omega, by go_num, HO9.out, by rw [List.length_append, hlk]; rfl, HPN.out, HR9.out, by omega, HF9.out⟩
            case measure => simp [intOf]; omega
        · have hq0 : (y3 == 0) = false := by simpa using hy3
          clear hy3
          have hs10 : w.heap.size ≤ (w4).heap.size := HF4.out.size
          have HSN := Lib.hid (fun (v' : Value) (w9 : World) (hh : w9.ownsRow w.heap.size 47 4 v' (k + 1) (pc L ++ [.int .i64 a, .int .i64 j, .int .i64 s, .int .i64 y])) => (show OwnPpl w9 w.heap.size v' (L ++ [⟨a, j, s, y⟩]) by unfold OwnPpl; rw [pc_snoc, List.length_append, hlk]; exact hh))
          have HPN := Lib.hid (HPAY.out.snoc (a := a) (j := j) (s := s) (y := y) (by omega))
          have hl10 : Hid (L.length ≤ 1000000000) := Lib.hid (by omega)
          have HS10 := Lib.hid hs10
          clear hs10
          go_wp2_with (at_builtin; refine wpList_app eltP rfl (.tmp 44) (.tmp 46) rfl w.heap.size _ _ _ rfl HO4.out [.int .i64 a, .int .i64 j, .int .i64 s, .int .i64 y] rfl (by intro u hu; simp at hu; rcases hu with rfl | rfl | rfl | rfl <;> rfl) rfl rfl hl10.out HS10.out ?_)
          intro v' w9 ho9 hb9 hg9
          have HO9 := Lib.hid (HSN.out v' w9 ho9)
          have HF9 := Lib.hid (HF4.out.base hb9)
          have HR9 := Lib.hid (HR4.out.keep hb9 hlt0)
          clear ho9 hb9 hg9
          go_wp2_with fail
          go_roundw
          case rel => exact ⟨k + 1, _, q + 5 + 1, by omega, by go_num, HO9.out, by rw [List.length_append, hlk]; rfl, HPN.out, HR9.out, by omega, HF9.out⟩
          case measure => simp [intOf]; omega
    · obtain rfl : k = n := by omega
      rw [hlk] at hc1
      obtain ⟨ao', b', cap', hv', -, -, -, hppl⟩ := HO.out.ppl
      rw [hlk] at hv'
      by_cases hn0 : k = 0
      · have hn0f : ¬ 0 < k := by omega
        have HPP := Lib.hid hppl
        have HV := Lib.hid hv'
        clear hppl hv' hn0
        go_wp2_with fail
        go_ret
        have hv2 := HV.out
        injection hv2 with e1 _ e3
        subst e1
        exact pplD_mk HPP.out hlk hc1 hc2 hn12 HF.out ⟨_, HR.out, by omega⟩
      · obtain ⟨rfl, hbB, hbl⟩ := hao (by omega)
        have hk0t : 0 < k := by omega
        have hL0 : 0 < L.length := by omega
        clear hn0 hppl hv'
        go_wp2_with fail
        refine (pick_any rb 40 q wr HR.out (by omega) (by omega)).mono ?_
        rintro e w2 ⟨y, rfl, hy0, hy1, hrd2, ho2⟩
        have HR2 := Lib.hid hrd2
        have HF2 := Lib.hid (HF.out.only ho2)
        have HO2 := Lib.hid (show OwnPpl w2 w.heap.size _ L from own_only HO.out ho2 hlt0)
        have hbl2 : b < w2.heap.size := by rw [ho2.2.2.2.1]; exact hbl
        have HPP : Hid (Ppl w2 (some ⟨b, 0, none⟩) b 0 L) := Lib.hid ⟨fun _ => rfl, fun i hi => by rw [Nat.zero_add]; exact HO2.out.at_ hi⟩
        obtain ⟨c0, c1, c2, c3⟩ := HO2.out.at_ (i := 0) hL0
        rw [Nat.zero_mul] at c0 c1 c2 c3
        have f0 := own_frozen HO2.out 0
        have f2 := own_frozen HO2.out 2
        have f3 := own_frozen HO2.out 3
        obtain ⟨P, hP⟩ : ∃ P, L.getD 0 per0 = P := ⟨_, rfl⟩
        rw [hP] at c0 c1 c2 c3
        obtain ⟨a0, j0, s0, y0⟩ := P
        simp only [Nat.zero_add] at c0 c1 c2 c3
        have hcap0 : 0 < cap := by omega
        clear hP hrd2 ho2 hy1
        by_cases hy_0 : y = 0
        · subst hy_0
          have hlit := World.rowIs_alloc w2 #[.int .i64 (-1), .int .i64 4] 3 (fun i => [Value.int .i64 (-1), .int .i64 4].getD i undef) (fun i hi => by
            have : i = 0 ∨ i = 1 := by simp at hi; omega
            rcases this with rfl | rfl <;> rfl)
          have HLIT := Lib.hid hlit
          have HRA := Lib.hid (HR2.out.alloc (.cells #[.int .i64 (-1), .int .i64 4] 3))
          have HFA := Lib.hid (HF2.out.alloc (.cells #[.int .i64 (-1), .int .i64 4] 3))
          have HOA := Lib.hid (World.ownsRow.alloc HO2.out (.cells #[.int .i64 (-1), .int .i64 4] 3))
          have hlt2 := HR2.out.lt
          clear hlit c0 c1 c2 c3 f0 f2 f3
          go_wp2_with fail
          refine (pick_any rb 2 (q + 1) _ HRA.out (by omega) (by omega)).mono ?_
          rintro e w3 ⟨z, rfl, hz0, hz1, hrd3, ho3⟩
          have hlit3 := HLIT.out.of_block (ho3.2.2.2.2 w2.heap.size (by omega))
          have l0 : w3.cell? ⟨w2.heap.size, 0, none⟩ = some (.int .i64 (-1)) := hlit3.cell (i := 0) (by decide)
          have l1 : w3.cell? ⟨w2.heap.size, 1, none⟩ = some (.int .i64 4) := hlit3.cell (i := 1) (by decide)
          have HO3 := Lib.hid (show OwnPpl w3 w.heap.size _ L from own_only HOA.out ho3 hlt0)
          have HF3 := Lib.hid (HFA.out.only ho3)
          have HRD3 := Lib.hid hrd3
          have HP3 : Hid (Ppl w3 (some ⟨b, 0, none⟩) b 0 L) := Lib.hid ⟨fun _ => rfl, fun i hi => by rw [Nat.zero_add]; exact HO3.out.at_ hi⟩
          obtain ⟨c0, c1, c2, c3⟩ := HO3.out.at_ (i := 0) hL0
          rw [Nat.zero_mul] at c0 c1 c2 c3
          have f0 := own_frozen HO3.out 0
          have hz : z = 0 ∨ z = 1 := by omega
          clear hlit3 hrd3 ho3 hz1 hz0
          rcases hz with rfl | rfl
          all_goals
            go_wp2_with fail
            go_ret
            exact pplD_mk (ppl_set0 (r := 0) (p' := ⟨_, (L.getD 0 per0).job, (L.getD 0 per0).sex, (L.getD 0 per0).pay⟩) HP3.out hL0 (by omega) ⟨cs_same c0, (cs_other (by omega)).trans c1, (cs_other (by omega)).trans c2, (cs_other (by omega)).trans c3⟩) (by rw [List.length_set]; exact hlk) hc1 hc2 hn12 (HF3.out.setCell (p := ⟨b, 0, none⟩) hbB _) ⟨_, HRD3.out.keep ((Below.refl w.heap.size w3).setCell (p := ⟨b, 0, none⟩) hbB _) hlt0, by omega⟩
        · have hq0 : (y == 0) = false := by simpa using hy_0
          by_cases hy_1 : y = 1
          · subst hy_1
            clear hy_0
            go_wp2_with fail
            go_ret
            exact pplD_mk (ppl_set0 (r := 3) (p' := ⟨a0, j0, s0, 1000⟩) HPP.out hL0 (by omega) ⟨(cs_other (by omega)).trans c0, (cs_other (by omega)).trans c1, (cs_other (by omega)).trans c2, cs_same c3⟩) (by rw [List.length_set]; exact hlk) hc1 hc2 hn12 (HF2.out.setCell (p := ⟨b, 3, none⟩) hbB _) ⟨_, HR2.out.keep ((Below.refl w.heap.size w2).setCell (p := ⟨b, 3, none⟩) hbB _) hlt0, by omega⟩
          · have hq1 : (y == 1) = false := by simpa using hy_1
            by_cases hy_2 : y = 2
            · subst hy_2
              clear hy_0 hy_1
              go_wp2_with fail
              go_ret
              exact pplD_mk (ppl_set0 (r := 2) (p' := ⟨a0, j0, 2, y0⟩) HPP.out hL0 (by omega) ⟨(cs_other (by omega)).trans c0, (cs_other (by omega)).trans c1, cs_same c2, (cs_other (by omega)).trans c3⟩) (by rw [List.length_set]; exact hlk) hc1 hc2 hn12 (HF2.out.setCell (p := ⟨b, 2, none⟩) hbB _) ⟨_, HR2.out.keep ((Below.refl w.heap.size w2).setCell (p := ⟨b, 2, none⟩) hbB _) hlt0, by omega⟩
            · have hq2 : (y == 2) = false := by simpa using hy_2
              clear hy_0 hy_1 hy_2
              go_wp2_with fail
              go_ret
              exact pplD_mk HPP.out hlk hc1 hc2 hn12 HF2.out ⟨_, HR2.out, by omega⟩

/-- Drawn people, the reader forgotten. -/
def PplW (w : World) (e : Ending) (w' : World) : Prop :=
  ∃ (ao : Option Addr) (b cap : Nat) (L : List Per), e = .returned (.slice ao L.length cap) ∧ Ppl w' ao b 0 L ∧ L.length ≤ cap ∧ cap ≤ 9223372036854775807 ∧ L.length ≤ 12 ∧ Below w.heap.size w w'

theorem drawPT (ao : Option Addr) (b off cap : Nat) (cs : List Int) (w : World) (hr : Row .u8 w ao b off cs) (hl : cs.length ≤ cap ∧ cap ≤ 9223372036854775807) (hw : ∀ i, i < cs.length → (Lit.int .u8 (cs.getD i 0)).wf = true) :
    Calls Tryd.prog 9 #[.slice ao cs.length cap] w (PplW w) := by
  have HO := Lib.hid (open_any ao b off cap cs w hr hl.1 hw hl.2)
  clear hr hw
  go_enter Tryd.func9, Tryd.ntmps9
  go_wp2_with fail
  refine (HO.out).mono ?_
  rintro e w1 ⟨rfl, hb1, hrd1, hs1⟩
  have HB1 := Lib.hid hb1
  have HR1 := Lib.hid hrd1
  have HS1 := Lib.hid hs1
  clear hb1 hrd1 hs1
  go_wp2_with fail
  refine (peopleD w.heap.size 6 0 w1 HR1.out (by omega) (by omega) (by omega)).mono ?_
  rintro e w2 ⟨a2, b2, c2, L, rfl, hp, h1, h2, h3, h7, -⟩
  have HP := Lib.hid hp
  have H7 := Lib.hid h7
  clear hp h7
  go_wp2_with fail
  go_ret
  exact ⟨a2, b2, c2, L, rfl, HP.out, h1, h2, h3, HB1.out.trans (H7.out.toBelow (Nat.le_refl _) (by rw [HS1.out]; omega))⟩
end Go.Proofs.YthncpnopplhlkaaDoor
