/-
  Contract: spec.l33Rank: the reference counts by Bareiss' steps.
-/
import Derived.Test.YtjglikccikeejabRankS
namespace Go.Proofs.Ytjglikccikeejab
open Go.RowKit
open Go.AskMath (Mat Path barN swpM)

theorem path_le {nx : Mat → Nat → Int → Nat → Nat → Mat} {m : Nat} {R0 : Mat} {c : Nat} {R : Mat} {r : Nat} {d : Int} (h : Path nx m R0 c R r d) : r ≤ m ∧ r ≤ c := by
  induction h with
  | start => omega
  | skip _ _ ih => omega
  | step k _ h1 h2 _ _ ih => omega

/-- The rows below 'i' are done. -/
def mixM (R : Mat) (r : Nat) (d : Int) (c k i : Nat) : Mat := fun a b => if a < i then barN R r d c k a b else swpM R r k a b

theorem mix_start (R : Mat) (r : Nat) (d : Int) (c k : Nat) : ∀ a b, swpM R r k a b = mixM R r d c k (r + 1) a b := by
  intro a b
  unfold mixM barN
  split
  · rw [if_pos (by omega)]
  · rfl

theorem prod_bound {a b : Int} (h1 : -90 ≤ a) (h2 : a ≤ 90) (h3 : -90 ≤ b) (h4 : b ≤ 90) : -8100 ≤ a * b ∧ a * b ≤ 8100 := by
  have e : a * b = -((-a) * b) := by rw [Int.neg_mul]; omega
  have aux : ∀ x y : Int, 0 ≤ x → x ≤ 90 → -90 ≤ y → y ≤ 90 → -8100 ≤ x * y ∧ x * y ≤ 8100 := by
    intro x y hx hx2 hy hy2
    have h5 := Int.mul_le_mul_of_nonneg_left hy2 hx
    have h6 := Int.mul_le_mul_of_nonneg_left hy hx
    omega
  by_cases h : 0 ≤ a
  · exact aux a b h h2 h3 h4
  · have := aux (-a) b (by omega) (by omega) h3 h4
    omega

theorem Mx.cellT_set {w : World} {base tb mc m n : Nat} {g cp : Nat → Nat} {R : Mat} (h : Mx w base tb mc m n g cp R) {i : Nat} (hi : i < m) (k : Nat) (x : Value) : ∃ v, (w.setCell ⟨tb, k, none⟩ x).cell? ⟨tb, i, none⟩ = some v := by
  obtain ⟨f, hf, _⟩ := h.top
  exact ⟨_, (hf.set k x).cell (Nat.lt_of_lt_of_le hi h.mle)⟩

/-- One number of the new row. -/
theorem new_num {P A B Q d : Int} (hP : -90 ≤ P ∧ P ≤ 90) (hA : -90 ≤ A ∧ A ≤ 90) (hB : -90 ≤ B ∧ B ≤ 90) (hQ : -90 ≤ Q ∧ Q ≤ 90) :
    ∃ pa bq s x : Int, IntKind.i64.wrap (P * A) = pa ∧ IntKind.i64.wrap (B * Q) = bq ∧ IntKind.i64.wrap (pa - bq) = s ∧ s.tdiv d = x ∧ IntKind.i64.wrap x = x ∧ x = (P * A - B * Q).tdiv d := by
  have h1 := prod_bound hP.1 hP.2 hA.1 hA.2
  have h2 := prod_bound hB.1 hB.2 hQ.1 hQ.2
  have hx : (P * A - B * Q).tdiv d ≤ 16200 ∧ -16200 ≤ (P * A - B * Q).tdiv d := by
    have := Int.natAbs_tdiv_le_natAbs (P * A - B * Q) d
    omega
  exact ⟨P * A, B * Q, P * A - B * Q, _, IntWalk.i64_in _ ⟨by omega, by omega⟩, IntWalk.i64_in _ ⟨by omega, by omega⟩, IntWalk.i64_in _ ⟨by omega, by omega⟩, rfl, IntWalk.i64_in _ ⟨by omega, by omega⟩, rfl⟩

/-- What the walk is told of the run: its numbers are small. -/
def Small (m n : Nat) (R0 : Mat) : Prop := ∀ c R r d, c < n → Path barN m R0 c R r d → (∀ i, r ≤ i → i < m → ∀ j, j < n → -90 ≤ R i j ∧ R i j ≤ 90) ∧ -90 ≤ d ∧ d ≤ 90 ∧ d ≠ 0

set_option maxRecDepth 100000 in
set_option maxHeartbeats 4000000 in
theorem rankS_any {w : World} {base tb mc m n : Nat} {g cp : Nat → Nat} {R0 : Mat} (h : Mx w base tb mc m n g cp R0) (hS : Small m n R0) (hm : m ≤ 1000000) (hn : n ≤ 1000) :
    Calls Try.prog 43 #[.int .i64 n, .slice (some ⟨tb, 0, none⟩) m mc] w fun e w' => ∃ (r : Nat) (R : Mat) (d : Int), e = .returned (.int .i64 r) ∧ Path barN m R0 n R r d ∧ Below base w w' := by
  have hmk := run_make_row' (P := Try.prog) 23 3 (.int .i64 0) 8 Try.underlying23 Try.info3 rfl .i64 .i64 n (by omega) (by omega)
  have HMK := Lib.hid hmk
  have HS := Lib.hid hS
  have hbs : base ≤ w.heap.size := Nat.le_trans h.baseT (Nat.le_of_lt h.ltT)
  clear hmk hS
  go_enter Try.func43, Try.ntmps43
  go_wp2_with fail
  go_loopw [5, 6, 7] (fun sr sd sc wr => ∃ (c r : Nat) (d : Int) (R : Mat) (g cp : Nat → Nat), c ≤ n ∧ sc = .int .i64 c ∧ sr = .int .i64 r ∧ sd = .int .i64 d ∧ Path barN m R0 c R r d ∧ Mx wr base tb mc m n g cp R ∧ Below base w wr) (fun _ _ sc _ => n - (intOf sc).toNat)
  case atStart => exact ⟨0, 0, 1, R0, g, cp, Nat.zero_le _, rfl, rfl, rfl, .start, h, Below.refl _ _⟩
  case round =>
    obtain ⟨c, r, d, R, g', cp', hc, rfl, rfl, rfl, hP, hM, hB⟩ := hrel
    obtain ⟨hrm, hrc⟩ := path_le hP
    have HP := Lib.hid hP
    have HM := Lib.hid hM
    have HB := Lib.hid hB
    clear hP hM hB h
    by_cases hlt : c < n
    · obtain ⟨hsm, hd1, hd2, hd0⟩ := HS.out c R r d hlt HP.out
      have HSM := Lib.hid hsm
      clear hsm
      go_wp2_with fail
      refine (find_any HM.out r c hrm hlt hm).mono ?_
      rintro e w' ⟨rfl, ⟨rfl, hz⟩ | ⟨k, rfl, hk1, hk2, hne, hfst⟩⟩
      · have HZ := Lib.hid hz
        clear hz
        go_wp2_with fail
        go_roundw
        case rel => exact ⟨c + 1, r, d, R, g', cp', by omega, by go_num, rfl, rfl, HP.out.skip HZ.out, HM.out, HB.out⟩
        case measure => simp [intOf]; omega
      · have HK := Lib.hid hne
        have HF := Lib.hid hfst
        clear hne hfst
        have hrm2 : r < m := by omega
        have t1 := HM.out.cellT hk2
        have t2 := HM.out.cellT hrm2
        have f1 := HM.out.frozenT k
        have f2 := HM.out.frozenT r
        have hkz : (k : Int) < (m : Int) := by omega
        have hrz : (r : Int) < (m : Int) := by omega
        obtain ⟨v3, t3⟩ := HM.out.cellT_set hrm2 k (.slice (some ⟨g' r, 0, none⟩) n (cp' r))
        have HM2 := Lib.hid (HM.out.swap hrm2 hk2)
        have HB2 := Lib.hid ((HB.out.setCell (p := ⟨tb, k, none⟩) HM.out.baseT (.slice (some ⟨g' r, 0, none⟩) n (cp' r))).setCell (p := ⟨tb, r, none⟩) HM.out.baseT (.slice (some ⟨g' k, 0, none⟩) n (cp' k)))
        go_wp2_with fail
        clear t1 t2 t3 f1 f2
        go_loopw [10] (fun si wi => ∃ (i : Nat) (g2 cp2 : Nat → Nat), r + 1 ≤ i ∧ i ≤ m ∧ si = .int .i64 i ∧ Mx wi base tb mc m n g2 cp2 (mixM R r d c k i) ∧ Hid (g2 r = g' k ∧ cp2 r = cp' k) ∧ Below base w wi) (fun si _ => m - (intOf si).toNat)
        case atStart => exact ⟨r + 1, _, _, Nat.le_refl _, by omega, by go_num, HM2.out.congr (fun i _ j _ => mix_start R r d c k i j), ⟨if_pos rfl, if_pos rfl⟩, HB2.out⟩
        case round =>
          clear HM2 HB2 HM HB
          obtain ⟨i, g2, cp2, hi1, hi2, rfl, hM, hG, hB⟩ := hrel
          have HM := Lib.hid hM
          have HB := Lib.hid hB
          clear hM hB
          by_cases him : i < m
          · have hmk := HMK.out
            go_wp2_with fail
            clear hmk
            have hrow0 := World.rowIs_made wr (.int .i64 0) n 3
            have HM1 := Lib.hid (HM.out.below ((Below.refl wr.heap.size wr).alloc (Nat.le_refl _) (.cells (madeCells #[.int .i64 0] n) 3)) (Nat.le_refl _))
            have HB1 := Lib.hid (HB.out.alloc (Nat.le_trans HM.out.baseT (Nat.le_of_lt HM.out.ltT)) (.cells (madeCells #[.int .i64 0] n) 3))
            obtain ⟨nb, hnb⟩ : ∃ nb, wr.heap.size = nb := ⟨_, rfl⟩
            rw [hnb] at hrow0
            have hbn : base ≤ nb := by rw [← hnb]; exact Nat.le_trans HM.out.baseT (Nat.le_of_lt HM.out.ltT)
            have hnt : nb ≠ tb := by have := HM.out.ltT; omega
            have hng : ∀ a, a < m → g2 a ≠ nb := fun a ha => by have := HM.out.ltR ha; omega
            have HNG := Lib.hid hng
            have HNT := Lib.hid hnt
            have HR0 := Lib.hid hrow0
            have HNB := Lib.hid hnb
            rw [hnb]
            clear hng hnt hrow0 hnb HM HB
            go_loopw [12] (fun sj wj => ∃ (j : Nat), j ≤ n ∧ sj = .int .i64 j ∧ Mx wj base tb mc m n g2 cp2 (mixM R r d c k i) ∧ wj.rowIs nb 3 n (fun b => .int .i64 (if b < j then barN R r d c k i b else 0)) ∧ Below base w wj) (fun sj _ => n - (intOf sj).toNat)
            case atStart => exact ⟨0, Nat.zero_le _, rfl, HM1.out, HR0.out.congr (fun b _ => by simp), HB1.out⟩
            case round =>
              clear HM1 HB1 HR0
              obtain ⟨j, hj, rfl, hM, hrow, hB⟩ := hrel
              have HM := Lib.hid hM
              have HB := Lib.hid hB
              have HR := Lib.hid hrow
              clear hM hB hrow
              by_cases hjn : j < n
              · have tp := HM.out.cellR hrm2 hlt
                have tq := HM.out.cellR hrm2 hjn
                have ti := HM.out.cellT him
                have ta := HM.out.cellR him hjn
                have tb2 := HM.out.cellR him hlt
                have ts := HR.out.cell hjn
                have fs := HR.out.frozen j
                rw [if_neg (Nat.lt_irrefl j)] at ts
                have hcc : c < cp' k := by rw [← hG.out.2]; exact Nat.lt_of_lt_of_le hlt (HM.out.nle r hrm2)
                have hm1 : ∀ b, mixM R r d c k i r b = R k b := fun b => by unfold mixM barN swpM; rw [if_pos (show r < i by omega), if_pos (Nat.le_refl _), if_pos rfl]
                have hm2 : ∀ b, mixM R r d c k i i b = swpM R r k i b := fun b => by unfold mixM; rw [if_neg (Nat.lt_irrefl i)]
                rw [hG.out.1, hm1] at tp tq
                rw [hm2] at ta tb2
                have hsw : ∀ b, b < n → -90 ≤ swpM R r k i b ∧ swpM R r k i b ≤ 90 := fun b hb => by
                  unfold swpM
                  rw [if_neg (by omega)]
                  split
                  · exact HSM.out r (Nat.le_refl _) hrm2 b hb
                  · exact HSM.out i (by omega) him b hb
                have hbar : barN R r d c k i j = (R k c * swpM R r k i j - swpM R r k i c * R k j).tdiv d := by unfold barN; rw [if_neg (by omega)]
                obtain ⟨pa, bq, s, x, e1, e2, e3, e4, e5, e6⟩ := new_num (d := d) (HSM.out k hk1 hk2 c hlt) (hsw j hjn) (hsw c hlt) (HSM.out k hk1 hk2 j hjn)
                have HX := Lib.hid (hbar.trans e6.symm)
                obtain ⟨p0, hp0⟩ : ∃ p0, R k c = p0 := ⟨_, rfl⟩
                obtain ⟨a0, ha0⟩ : ∃ a0, swpM R r k i j = a0 := ⟨_, rfl⟩
                obtain ⟨b0, hb0⟩ : ∃ b0, swpM R r k i c = b0 := ⟨_, rfl⟩
                obtain ⟨q0, hq0⟩ : ∃ q0, R k j = q0 := ⟨_, rfl⟩
                rw [hp0] at tp e1
                rw [hq0] at tq e2
                rw [ha0] at ta e1
                rw [hb0] at tb2 e2
                have hdz : (d == 0) = false := by rw [beq_eq_false_iff_ne]; exact hd0
                have hcz : (c : Int) < (n : Int) := by omega
                have hjz : (j : Int) < (n : Int) := by omega
                have hiz : (i : Int) < (m : Int) := by omega
                have E1 := Lib.hid (show _ ∧ _ ∧ _ ∧ _ ∧ _ from ⟨e1, e2, e3, e4, e5⟩)
                clear hm1 hm2 hsw hbar e6 hp0 ha0 hb0 hq0
                go_wp2_with fail
                go_still_tail 30, (by kernel_rfl)
                change wpList _ _ _ _ _ wr.drew
                clear e1 e2 e3 e4 e5
                go_wp2_with fail
                go_roundw
                case rel =>
                  refine ⟨j + 1, by omega, by go_num, ?_, ?_, ?_⟩
                  · exact HM.out.of_blocks (Below.heap_setCell _ _ _ _ (Ne.symm HNT.out)) (fun a ha => Below.heap_setCell _ _ _ _ (HNG.out a ha))
                  · refine (HR.out.set j _).congr (fun b hb => ?_)
                    by_cases e : b = j
                    · subst e; rw [if_pos rfl, if_pos (by omega), HX.out]
                    · rw [if_neg e]
                      by_cases e2 : b < j
                      · rw [if_pos e2, if_pos (by omega)]
                      · rw [if_neg e2, if_neg (by omega)]
                  · exact (HB.out.setCell (p := ⟨nb, j, none⟩) hbn _).drew
                case measure => simp [intOf]; omega
              · obtain rfl : j = n := by omega
                have ti := HM.out.cellT him
                have fi := HM.out.frozenT i
                have hiz : (i : Int) < (m : Int) := by omega
                have HM3 := Lib.hid (HM.out.put him (fun b => barN R r d c k i b) HR.out (fun b hb => by rw [if_pos hb]) hbn HNT.out HNG.out)
                have HB3 := Lib.hid (HB.out.setCell (p := ⟨tb, i, none⟩) HM.out.baseT (.slice (some ⟨nb, 0, none⟩) j j))
                go_wp2_with fail
                go_roundw
                case rel =>
                  refine ⟨i + 1, _, _, by omega, by omega, by go_num, HM3.out.congr (fun a ha b hb => ?_), ⟨?_, ?_⟩, HB3.out⟩
                  · unfold upd
                    by_cases e : a = i
                    · subst e; rw [if_pos rfl]; unfold mixM; rw [if_pos (by omega)]
                    · rw [if_neg e]; unfold mixM
                      by_cases e2 : a < i
                      · rw [if_pos e2, if_pos (by omega)]
                      · rw [if_neg e2, if_neg (by omega)]
                  · unfold upd; rw [if_neg (by omega)]; exact hG.out.1
                  · unfold upd; rw [if_neg (by omega)]; exact hG.out.2
                case measure => simp [intOf]; omega
          · obtain rfl : i = m := by omega
            have tk := HM.out.cellR hrm2 hlt
            have hmr : mixM R r d c k i r c = R k c := by unfold mixM barN swpM; rw [if_pos hrm2, if_pos (Nat.le_refl _), if_pos rfl]
            rw [hG.out.1, hmr] at tk
            have hcc : c < cp' k := by rw [← hG.out.2]; exact Nat.lt_of_lt_of_le hlt (HM.out.nle r hrm2)
            have hcz : (c : Int) < (n : Int) := by omega
            have HMR := Lib.hid hmr
            clear hmr
            go_wp2_with fail
            go_roundw
            case rel =>
              refine ⟨c + 1, r + 1, R k c, barN R r d c k, g2, cp2, by omega, by go_num, by go_num, rfl, HP.out.step k hk1 hk2 HK.out HF.out, HM.out.congr (fun a ha b _ => ?_), HB.out⟩
              unfold mixM; rw [if_pos ha]
            case measure => simp [intOf]; omega
    · go_wp2_with fail
      go_ret
      obtain rfl : c = n := by omega
      exact ⟨r, R, d, rfl, HP.out, HB.out⟩

end Go.Proofs.Ytjglikccikeejab
