/-
  Contract: spec.PatternStep.
-/
import Derived.Test.YtlmlchkolcmhpaaGreatDoorYNewS
namespace Go.Proofs.YtlmlchkolcmhpaaGreatDoor
open Go.RowKit
open Go.TextMath (tvB mvB)

/-- What PatternStep answers. -/
def StepQ (T : List (List Int)) (F M : List (List Bool)) (n : Int) (w : World) (e : Ending) (w' : World) : Prop :=
  Below w.heap.size w w' ∧ match nextM T F M n with
    | none => ∃ a, e = .returned (.tuple #[.slice a 0 0, .bool false])
    | some M' => ∃ ob c g, e = .returned (.tuple #[.slice (some ⟨ob, 0, none⟩) T.length c, .bool true]) ∧ MtB w' w.heap.size (.slice (some ⟨ob, 0, none⟩) T.length c) M' g
theorem stepQ_none {T : List (List Int)} {F M : List (List Bool)} {n : Int} {w : World} {e : Ending} {w' : World} (hn : nextM T F M n = none) (h : StepQ T F M n w e w') : (∃ a, e = .returned (.tuple #[.slice a 0 0, .bool false])) ∧ Below w.heap.size w w' := by
  unfold StepQ at h
  rw [hn] at h
  exact ⟨h.2, h.1⟩
theorem stepQ_some {T : List (List Int)} {F M M' : List (List Bool)} {n : Int} {w : World} {e : Ending} {w' : World} (hn : nextM T F M n = some M') (h : StepQ T F M n w e w') : ∃ ob c g, e = .returned (.tuple #[.slice (some ⟨ob, 0, none⟩) T.length c, .bool true]) ∧ MtB w' w.heap.size (.slice (some ⟨ob, 0, none⟩) T.length c) M' g ∧ Below w.heap.size w w' := by
  unfold StepQ at h
  rw [hn] at h
  obtain ⟨hb, ob, c, g, h1, h2⟩ := h
  exact ⟨ob, c, g, h1, h2, hb⟩
theorem stepQ_no {T : List (List Int)} {F M : List (List Bool)} {n : Int} {w w' : World} {a : Option Addr} (hn : nextM T F M n = none) (h : Below w.heap.size w w') : StepQ T F M n w (.returned (.tuple #[.slice a 0 0, .bool false])) w' := by
  refine ⟨h, ?_⟩
  rw [hn]
  exact ⟨a, rfl⟩
theorem stepQ_yes {T : List (List Int)} {F M M' : List (List Bool)} {n : Int} {w w' : World} {ob c : Nat} {g : Nat → Nat} (hn : nextM T F M n = some M') (hm : MtB w' w.heap.size (.slice (some ⟨ob, 0, none⟩) T.length c) M' g) (h : Below w.heap.size w w') : StepQ T F M n w (.returned (.tuple #[.slice (some ⟨ob, 0, none⟩) T.length c, .bool true])) w' := by
  refine ⟨h, ?_⟩
  rw [hn]
  exact ⟨ob, c, g, rfl, hm⟩

/-- A mask of its own that takes cells. -/
def OutI (w : World) (ob c h q : Nat) (g : Nat → Nat) (A : List (List Bool)) (W : World) : Prop :=
  MtB W w.heap.size (.slice (some ⟨ob, 0, none⟩) h c) A g ∧ Rect A h q ∧ Below w.heap.size w W
theorem OutI.put {w W : World} {ob c h q : Nat} {g : Nat → Nat} {A : List (List Bool)} (s : OutI w ob c h q g A W) {a b : Nat} (ha : a < h) (hb : b < q) (x : Bool) : OutI w ob c h q g (putC A a b x) (W.setCell ⟨g a, b, none⟩ (.bool x)) := by
  obtain ⟨s1, s2, s3⟩ := s
  exact ⟨s1.put (by decide) (i := a) (j := b) (by rw [s2.len]; exact ha) (by rw [s2.row a ha]; exact hb) x, s2.put ha b x, s3.setCell (p := ⟨g a, b, none⟩) (s1.low a (by rw [s2.len]; exact ha)) _⟩
theorem OutI.at_ {w W : World} {ob c h q : Nat} {g : Nat → Nat} {A : List (List Bool)} (s : OutI w ob c h q g A W) {a b : Nat} (ha : a < h) (hb : b < q) :
    ∃ c', W.cell? ⟨ob, a, none⟩ = some (.slice (some ⟨g a, 0, none⟩) q c') ∧ q ≤ c' ∧ (∃ fl, W.cell? ⟨g a, b, none⟩ = some (.bool fl)) ∧ W.frozen? ⟨g a, b, none⟩ = false := by
  obtain ⟨s1, s2, -⟩ := s
  obtain ⟨c', h1, -, h2, -, -, -, -⟩ := s1.at_ (i := a) (by rw [s2.len]; exact ha)
  rw [s2.row a ha] at h1 h2
  obtain ⟨h3, h4⟩ := s1.elt (i := a) (j := b) (by rw [s2.len]; exact ha) (get_of (d := false) (by rw [s2.row a ha]; exact hb))
  exact ⟨c', h1, h2, ⟨_, h3⟩, h4⟩

/-- The cheapest rectangle till now as the program holds it. -/
def sqV (st : Int × Nat × Nat) (r c b : Value) : Prop := r = .int .i64 (if st.1 < 0 then -1 else (st.2.1 : Int)) ∧ c = .int .i64 (if st.1 < 0 then -1 else (st.2.2 : Int)) ∧ b = .int .i64 (if st.1 < 0 then 0 else st.1)
theorem sqV_neg {st : Int × Nat × Nat} (h : st.1 < 0) {r c b : Value} (hs : sqV st r c b) : r = .int .i64 (-1) ∧ c = .int .i64 (-1) ∧ b = .int .i64 0 := by
  unfold sqV at hs
  rwa [if_pos h, if_pos h, if_pos h] at hs
theorem sqV_pos {x : Int} {a b : Nat} (h : ¬ x < 0) {r c d : Value} (hs : sqV (x, a, b) r c d) : r = .int .i64 (a : Int) ∧ c = .int .i64 (b : Int) ∧ d = .int .i64 x := by
  unfold sqV at hs
  simp only [if_neg h] at hs
  exact hs
theorem sqV_of_neg {st : Int × Nat × Nat} (h : st.1 < 0) : sqV st (.int .i64 (-1)) (.int .i64 (-1)) (.int .i64 0) := by
  unfold sqV
  rw [if_pos h, if_pos h, if_pos h]
  exact ⟨rfl, rfl, rfl⟩
theorem sqV_of_pos {x : Int} {a b : Nat} (h : 0 ≤ x) : sqV (x, a, b) (.int .i64 (a : Int)) (.int .i64 (b : Int)) (.int .i64 x) := by
  unfold sqV
  simp only [if_neg (show ¬ x < 0 by omega)]
  refine ⟨?_, ?_, ?_⟩ <;> first | rfl | trivial

set_option maxRecDepth 100000 in
set_option maxHeartbeats 16000000 in
theorem stepS (tb ct : Nat) (T : List (List Int)) (fb cf : Nat) (F : List (List Bool)) (mb cm : Nat) (M : List (List Bool)) (n : Int) (w : World) (hr : Tab .i64 w (some ⟨tb, 0, none⟩) tb 0 T) (hfm : TabB w (some ⟨fb, 0, none⟩) fb 0 F) (hm : TabB w (some ⟨mb, 0, none⟩) mb 0 M) (hvf : mvB T F = true) (hv : mvB T M = true) (hn : cellB n = true) (hbad : badsM T F M n ≠ []) :
    Calls Tryz.prog 134 #[.slice (some ⟨tb, 0, none⟩) T.length ct, .slice (some ⟨fb, 0, none⟩) T.length cf, .slice (some ⟨mb, 0, none⟩) T.length cm, .int .i64 n] w (StepQ T F M n w) := by
  have htv := (mv_t.1 hv).1
  have hf := fitM_of hv
  obtain ⟨hT1, hT4, hC1, hC4, hT5⟩ := tv_t.1 htv
  obtain ⟨⟨i, j⟩, xs, hbx⟩ : ∃ x xs, badsM T F M n = x :: xs := by
    cases hb : badsM T F M n with
    | nil => exact absurd hb hbad
    | cons x xs => exact ⟨x, xs, rfl⟩
  obtain ⟨hi, hj⟩ : i < T.length ∧ j < (T.getD 0 []).length := bads_mem (F := F) (M := M) (n := n) htv (x := (i, j)) (by rw [hbx]; simp)
  have RT : Rect T T.length (T.getD 0 []).length := ⟨rfl, fun k hk => (hT5 k hk).1⟩
  have RM : Rect M T.length (T.getD 0 []).length := ⟨hf.1, hf.2⟩
  obtain ⟨b1, o1, c1, r1, -, r3, r4, r5⟩ := RT.cellI hr (i := 0) (j := 0) (by omega) (by omega)
  have HND := Lib.hid (needS tb ct T fb cf F mb cm M n w hr hfm hm hvf hv hn)
  rw [hbx] at HND
  have HFI := Lib.hid (fun (W : World) (hb : Below w.heap.size w W) => firstS tb ct T fb cf F mb cm M n W (hr.keep hb (Nat.le_refl _)) (hfm.keep hb (Nat.le_refl _)) (hm.keep hb (Nat.le_refl _)) hvf hv hn (i, j) xs hbx)
  have HNW := Lib.hid (fun (k l : Nat) (hk : k < T.length) (hl : l < (T.getD 0 []).length) (W : World) (hb : Below w.heap.size w W) => newS tb ct T mb cm M i j k l W (hr.keep hb (Nat.le_refl _)) (hm.keep hb (Nat.le_refl _)) hv hi hj hk hl)
  have HCP := Lib.hid (fun (W : World) (hb : Below w.heap.size w W) => (show Calls Tryz.prog 132 #[.slice (some ⟨mb, 0, none⟩) T.length cm] W fun e w' => ∃ v g, e = .returned v ∧ MtB w' W.heap.size v M g ∧ Below W.heap.size W w' from by
    have := copyBS mb cm M W (hm.keep hb (Nat.le_refl _)) (by rw [hf.1]; omega) (fun i hi => by rw [hf.2 i (by rw [← hf.1]; exact hi)]; omega)
    rwa [hf.1] at this))
  have HSN := Lib.hid (fun k z => (show sqM T M i j (upto (lensT T) k (z + 1)) = sqN T M i j (sqM T M i j (upto (lensT T) k z)) (k, z) by rw [upto_next, sqM_snoc]))
  have HCO := Lib.hid (fun k l (hk : k < T.length) (hl : l < (T.getD 0 []).length) => (show 0 ≤ costM T M i j k l by
    have c1 := cost_nn (M := M) htv hi hj
    have c2 := cost_nn (M := M) htv hi hl
    have c3 := cost_nn (M := M) htv hk hj
    have c4 := cost_nn (M := M) htv hk hl
    unfold costM
    omega))
  have HROW := Lib.hid (fun k (hk : k < T.length) => (show sqM T M i j (upto (lensT T) k (T.getD 0 []).length) = sqM T M i j (upto (lensT T) (k + 1) 0) by rw [← upto_row, lensT_at T hk, (hT5 k hk).1]))
  have HALL := Lib.hid (show sqM T M i j (upto (lensT T) T.length 0) = sqM T M i j (poss (lensT T)) by rw [← upto_all, lensT_len])
  have HINV := Lib.hid (sq_inv (M := M) htv hi hj (poss (lensT T)) (fun y hy => (poss_tv htv).1 hy))
  have HNX := Lib.hid (show nextM T F M n = squareM T M i j by unfold nextM; rw [hbx])
  have HSQ := Lib.hid (show squareM T M i j = if (sqM T M i j (poss (lensT T))).1 < 0 then none else some (setM M i j (sqM T M i j (poss (lensT T))).2.1 (sqM T M i j (poss (lensT T))).2.2) from rfl)
  obtain ⟨S, hS⟩ : ∃ S : Nat → Nat → Int × Nat × Nat, (fun k z => sqM T M i j (upto (lensT T) k z)) = S := ⟨_, rfl⟩
  have hS' : ∀ k z, sqM T M i j (upto (lensT T) k z) = S k z := fun k z => congrFun (congrFun hS k) z
  have HS00 := Lib.hid (show S 0 0 = (-1, 0, 0) by rw [← hS' 0 0]; rfl)
  simp only [hS'] at HSN HROW HALL
  obtain ⟨Z, hZ⟩ : ∃ Z, sqM T M i j (poss (lensT T)) = Z := ⟨_, rfl⟩
  rw [hZ] at HALL HINV HSQ
  have HRM := Lib.hid RM
  obtain ⟨q, hq⟩ : ∃ q, (T.getD 0 []).length = q := ⟨_, rfl⟩
  rw [hq] at r1 r3 hC1 hC4 hj HNW HCO HROW HINV HRM
  obtain ⟨h, hh⟩ : ∃ h, T.length = h := ⟨_, rfl⟩
  have HLEN := Lib.hid hh
  rw [hh] at hT1 hT4 hi HND HFI HNW HCP HCO HROW HALL HINV HRM ⊢
  clear hr hfm hm hv hvf hf htv hn hT5 RT RM hbad hbx hS hS' hZ hq hh
  have hh0 : (0 : Int) < (h : Int) := by omega
  have hii : (i : Int) < (h : Int) := by omega
  have hjj : (j : Int) < (q : Int) := by omega
  have hxl : ¬ ((xs.length : Int) + 1 < 1) := by omega
  simp only [List.length_cons] at HND
  go_enter Tryz.func134, Tryz.ntmps134
  go_wp2_with fail
  refine (HND.out).mono ?_
  rintro e w1 ⟨rfl, hb1⟩
  have HB1 := Lib.hid hb1
  clear hb1
  go_wp2_with fail
  refine (HFI.out w1 HB1.out).mono ?_
  rintro e w2 ⟨rfl, hb2⟩
  have HB2 := Lib.hid (HB1.out.trans (hb2.mono HB1.out.size))
  clear hb2
  go_wp2_with fail
  go_loopw [12, 13, 14, 15] (fun r c b t W => ∃ k : Nat, k ≤ h ∧ t = .int .i64 k ∧ sqV (S k 0) r c b ∧ Below w.heap.size w W) (fun _ _ _ t _ => h - (intOf t).toNat)
  case atStart => exact ⟨0, Nat.zero_le _, rfl, by rw [HS00.out]; exact sqV_of_neg (by decide), HB2.out⟩
  case round =>
    clear HB1 HB2
    obtain ⟨k, hk, rfl, hsq, hb⟩ := hrel
    have HB := Lib.hid hb
    have HSV := Lib.hid hsq
    clear hb hsq
    by_cases hlt : k < h
    · have hkh : (k : Int) < (h : Int) := by omega
      go_wp2_with fail
      go_loopw [12, 13, 14, 16] (fun r c b t W => ∃ z : Nat, z ≤ q ∧ t = .int .i64 z ∧ sqV (S k z) r c b ∧ Below w.heap.size w W) (fun _ _ _ t _ => q - (intOf t).toNat)
      case atStart => exact ⟨0, Nat.zero_le _, rfl, HSV.out, HB.out⟩
      case round =>
        clear HB HSV
        obtain ⟨z, hz, rfl, hsq, hb⟩ := hrel
        have HB := Lib.hid hb
        have HSV := Lib.hid hsq
        have r1' := (hb.cell (p := ⟨tb, 0, none⟩) r4).trans r1
        by_cases hzq : z < q
        · have hzz : (z : Int) < (q : Int) := by omega
          have HNK := Lib.hid (HNW.out k z hlt hzq wr hb)
          have hcost := HCO.out k z hlt hzq
          have HST := Lib.hid (HSN.out k z)
          obtain ⟨C, hC⟩ : ∃ C, costM T M i j k z = C := ⟨_, rfl⟩
          rw [hC] at HNK hcost
          have HC := Lib.hid hC
          obtain ⟨⟨s0, sa, sb⟩, hst⟩ : ∃ st, S k z = st := ⟨_, rfl⟩
          rw [hst] at HST HSV hsq
          clear hb hC hst
          by_cases e1 : k = i
          · have f1 : ((k : Int) != (i : Int)) = false := by rw [e1]; simp
            have HX := Lib.hid (show S k (z + 1) = (s0, sa, sb) by rw [HST.out]; unfold sqN; rw [if_pos (.inl e1)])
            clear e1 hsq
            go_wp2_with fail
            refine (HNK.out).mono ?_
            rintro e w5 ⟨m, rfl, hmm, hb5⟩
            have HB5 := Lib.hid (HB.out.trans (hb5.mono HB.out.size))
            clear hb5 hmm
            go_wp2_with fail
            go_roundw
            case rel => exact ⟨z + 1, by omega, by go_num, by rw [HX.out]; exact HSV.out, HB5.out⟩
            case measure => simp [intOf]; omega
          · have f1 : ((k : Int) != (i : Int)) = true := by rw [bne_iff_ne]; omega
            have HE1 := Lib.hid e1
            clear e1
            by_cases e2 : z = j
            · have f2 : ((z : Int) != (j : Int)) = false := by rw [e2]; simp
              have HX := Lib.hid (show S k (z + 1) = (s0, sa, sb) by rw [HST.out]; unfold sqN; rw [if_pos (.inr e2)])
              clear e2 hsq
              go_wp2_with fail
              refine (HNK.out).mono ?_
              rintro e w5 ⟨m, rfl, hmm, hb5⟩
              have HB5 := Lib.hid (HB.out.trans (hb5.mono HB.out.size))
              clear hb5 hmm
              go_wp2_with fail
              go_roundw
              case rel => exact ⟨z + 1, by omega, by go_num, by rw [HX.out]; exact HSV.out, HB5.out⟩
              case measure => simp [intOf]; omega
            · have f2 : ((z : Int) != (j : Int)) = true := by rw [bne_iff_ne]; omega
              have HX := Lib.hid (show S k (z + 1) = if openM M i j k z = true ∧ (s0 < 0 ∨ C < s0) then (C, k, z) else (s0, sa, sb) by rw [HST.out]; unfold sqN; rw [if_neg (by rintro (e | e); exact HE1.out e; exact e2 e)]; simp only [HC.out])
              clear e2
              by_cases hneg : s0 < 0
              · obtain ⟨rfl, rfl, rfl⟩ := sqV_neg (st := (s0, sa, sb)) hneg hsq
                have HNEG := Lib.hid hneg
                clear hneg
                go_wp2_with fail
                refine (HNK.out).mono ?_
                rintro e w5 ⟨m, rfl, hmm, hb5⟩
                have HB5 := Lib.hid (HB.out.trans (hb5.mono HB.out.size))
                clear hb5
                by_cases hm0 : 0 < m
                · have HY := Lib.hid (show S k (z + 1) = (C, k, z) by rw [HX.out, if_pos ⟨hmm.1 hm0, .inl HNEG.out⟩])
                  have hm1 : (0 : Int) < (m : Int) := by omega
                  clear hmm
                  go_wp2_with fail
                  go_roundw
                  case rel => exact ⟨z + 1, by omega, by go_num, by rw [HY.out]; exact sqV_of_pos hcost, HB5.out⟩
                  case measure => simp [intOf]; omega
                · have HY := Lib.hid (show S k (z + 1) = (s0, sa, sb) by rw [HX.out, if_neg (fun e => hm0 (hmm.2 e.1))])
                  have hm1 : ¬ (0 : Int) < (m : Int) := by omega
                  have hm2 : m = 0 := by omega
                  clear hmm
                  go_wp2_with fail
                  go_roundw
                  case rel => exact ⟨z + 1, by omega, by go_num, by rw [HY.out]; exact sqV_of_neg HNEG.out, HB5.out⟩
                  case measure => simp [intOf]; omega
              · obtain ⟨rfl, rfl, rfl⟩ := sqV_pos hneg hsq
                have hpos : 0 ≤ s0 := by omega
                have hsa : ¬ ((sa : Int) < 0) := by omega
                have HNEG := Lib.hid hneg
                clear hneg
                go_wp2_with fail
                refine (HNK.out).mono ?_
                rintro e w5 ⟨m, rfl, hmm, hb5⟩
                have HB5 := Lib.hid (HB.out.trans (hb5.mono HB.out.size))
                clear hb5
                by_cases hm0 : 0 < m
                · have hm1 : (0 : Int) < (m : Int) := by omega
                  by_cases hless : C < s0
                  · have HY := Lib.hid (show S k (z + 1) = (C, k, z) by rw [HX.out, if_pos ⟨hmm.1 hm0, .inr hless⟩])
                    clear hmm
                    go_wp2_with fail
                    go_roundw
                    case rel => exact ⟨z + 1, by omega, by go_num, by rw [HY.out]; exact sqV_of_pos hcost, HB5.out⟩
                    case measure => simp [intOf]; omega
                  · have HY := Lib.hid (show S k (z + 1) = (s0, sa, sb) by rw [HX.out, if_neg (fun e => e.2.elim (fun h => by have := HNEG.out; omega) hless)])
                    clear hmm
                    go_wp2_with fail
                    go_roundw
                    case rel => exact ⟨z + 1, by omega, by go_num, by rw [HY.out]; exact sqV_of_pos hpos, HB5.out⟩
                    case measure => simp [intOf]; omega
                · have HY := Lib.hid (show S k (z + 1) = (s0, sa, sb) by rw [HX.out, if_neg (fun e => hm0 (hmm.2 e.1))])
                  have hm1 : ¬ (0 : Int) < (m : Int) := by omega
                  have hm2 : m = 0 := by omega
                  clear hmm
                  go_wp2_with fail
                  go_roundw
                  case rel => exact ⟨z + 1, by omega, by go_num, by rw [HY.out]; exact sqV_of_pos hpos, HB5.out⟩
                  case measure => simp [intOf]; omega
        · obtain rfl : z = q := by omega
          have HRW := Lib.hid (HROW.out k hlt)
          have hzz : ¬ ((z : Int) < (z : Int)) := by omega
          clear hb hsq
          go_wp2_with fail
          go_roundw
          case rel => exact ⟨k + 1, by omega, by go_num, by rw [← HRW.out]; exact HSV.out, HB.out⟩
          case measure => simp [intOf]; omega
    · obtain rfl : k = h := by omega
      have hsq := HSV.out
      rw [HALL.out] at hsq
      rcases HINV.out with hz | ⟨z1, z2, z3, z4, z5⟩
      · obtain ⟨rfl, rfl, rfl⟩ := sqV_neg (by rw [hz]; decide) hsq
        have HN := Lib.hid (show nextM T F M n = none by rw [HNX.out, HSQ.out, hz]; rfl)
        clear hz hsq
        go_wp2_with fail
        go_ret2
        exact stepQ_no HN.out (HB.out.alloc HB.out.size _)
      · obtain ⟨z0, za, zb⟩ := Z
        simp only at z1 z2 z3 z4 z5
        obtain ⟨rfl, rfl, rfl⟩ := sqV_pos (by omega) hsq
        have HN := Lib.hid (show nextM T F M n = some (setM M i j za zb) by rw [HNX.out, HSQ.out, if_neg (by simp only; omega)])
        have hza : ¬ ((za : Int) < 0) := by omega
        have hza2 : (za : Int) < (k : Int) := by omega
        have hzb2 : (zb : Int) < (q : Int) := by omega
        clear hsq z1 z2 z5
        go_wp2_with fail
        refine (HCP.out _ HB.out).mono ?_
        rintro e w5 ⟨v, g, rfl, hmt, hb5⟩
        obtain ⟨ao, ob, cx, rfl, hcx, -, hob, -⟩ := hmt.cells
        rw [HRM.out.len] at hcx hob hmt ⊢
        obtain ⟨rfl, -, -⟩ := hob (by omega)
        have s0 : OutI w ob cx k q g M w5 := ⟨hmt.mono HB.out.size, HRM.out, HB.out.trans (hb5.mono HB.out.size)⟩
        clear hmt hob hb5
        obtain ⟨d1, a1, b1, ⟨f1, x1⟩, y1⟩ := s0.at_ hi hj
        obtain ⟨g1, hg1⟩ : ∃ g1, g i = g1 := ⟨_, rfl⟩
        have s1 := s0.put hi hj true
        rw [hg1] at a1 x1 y1 s1
        have HS1 := Lib.hid s1
        clear s1 s0 hg1
        go_upto_region 22 with fail
        obtain ⟨W1, hW1⟩ : ∃ W1, World.setCell w5 ⟨g1, j, none⟩ (.bool true) = W1 := ⟨_, rfl⟩
        rw [hW1] at HS1 ⊢
        have s1 := HS1.out
        clear hW1 HS1 a1 x1 y1
        obtain ⟨d2, a2, b2, ⟨f2, x2⟩, y2⟩ := s1.at_ hi z4
        obtain ⟨g2, hg2⟩ : ∃ g2, g i = g2 := ⟨_, rfl⟩
        have s2 := s1.put hi z4 true
        rw [hg2] at a2 x2 y2 s2
        have HS2 := Lib.hid s2
        clear s2 s1 hg2
        go_upto_region 23 with fail
        obtain ⟨W2, hW2⟩ : ∃ W2, World.setCell W1 ⟨g2, zb, none⟩ (.bool true) = W2 := ⟨_, rfl⟩
        rw [hW2] at HS2 ⊢
        have s2 := HS2.out
        clear hW2 HS2 a2 x2 y2
        obtain ⟨d3, a3, b3, ⟨f3, x3⟩, y3⟩ := s2.at_ z3 hj
        obtain ⟨g3, hg3⟩ : ∃ g3, g za = g3 := ⟨_, rfl⟩
        have s3 := s2.put z3 hj true
        rw [hg3] at a3 x3 y3 s3
        have HS3 := Lib.hid s3
        clear s3 s2 hg3
        go_upto_region 24 with fail
        obtain ⟨W3, hW3⟩ : ∃ W3, World.setCell W2 ⟨g3, j, none⟩ (.bool true) = W3 := ⟨_, rfl⟩
        rw [hW3] at HS3 ⊢
        have s3 := HS3.out
        clear hW3 HS3 a3 x3 y3
        obtain ⟨d4, a4, b4, ⟨f4, x4⟩, y4⟩ := s3.at_ z3 z4
        obtain ⟨g4, hg4⟩ : ∃ g4, g za = g4 := ⟨_, rfl⟩
        have s4 := s3.put z3 z4 true
        rw [hg4] at a4 x4 y4 s4
        have HS4 := Lib.hid s4
        clear s4 s3 hg4
        go_upto_region 25 with fail
        obtain ⟨W4, hW4⟩ : ∃ W4, World.setCell W3 ⟨g4, zb, none⟩ (.bool true) = W4 := ⟨_, rfl⟩
        rw [hW4] at HS4 ⊢
        have s4 := HS4.out
        clear hW4 HS4 a4 x4 y4
        have HF := Lib.hid s4
        clear s4
        go_wp2_with fail
        go_ret2
        have hl9 := HLEN.out
        subst hl9
        exact stepQ_yes HN.out HF.out.1 HF.out.2.2
end Go.Proofs.YtlmlchkolcmhpaaGreatDoor
