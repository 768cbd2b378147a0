/-
  Contract: impl.rank: the program counts ranks modulo 101.
-/
import Derived.Test.YtjglikccikeejabRankI
import Derived.Test.YtjglikccikeejabAskS
import Derived.BigRegion
namespace Go.Proofs.Ytjglikccikeejab
open Go.RowKit
open Go.AskMath (Mat Path modN swpM)

theorem i64_and1 (n : Int) : Go.bits .and .i64 n 1 = n % 2 := by
  have h1 : (BitVec.ofInt 64 1).toNat = 2 ^ 1 - 1 := by decide
  have key : (BitVec.ofInt 64 n &&& BitVec.ofInt 64 1).toNat = (n % ((2 ^ 64 : Nat) : Int)).toNat % 2 ^ 1 := by
    rw [BitVec.toNat_and, BitVec.toNat_ofInt, h1, Nat.and_two_pow_sub_one_eq_mod]
  show IntKind.i64.wrap ((BitVec.ofInt 64 n &&& BitVec.ofInt 64 1).toNat : Nat) = n % 2
  rw [key, IntKind.wrap_i64]
  omega

theorem Own.slice {w : World} {base : Nat} {v : Value} {zs : List Int} (h : Own w base v zs) : ∃ a l c, v = .slice a l c := by
  obtain ⟨ao, b, cap, hv, _⟩ := h.row
  exact ⟨ao, _, cap, hv⟩

theorem Mx.swap2 {w : World} {base tb mc m n : Nat} {g cp : Nat → Nat} {R : Mat} (h : Mx w base tb mc m n g cp R) {r k : Nat} (hr : r < m) (hk : k < m) :
    Mx ((w.setCell ⟨tb, r, none⟩ (.slice (some ⟨g k, 0, none⟩) n (cp k))).setCell ⟨tb, k, none⟩ (.slice (some ⟨g r, 0, none⟩) n (cp r))) base tb mc m n
      (fun i => if i = r then g k else if i = k then g r else g i) (fun i => if i = r then cp k else if i = k then cp r else cp i) (swpM R r k) := by
  have h2 := h.swap (r := k) (k := r) hk hr
  have e : ∀ f : Nat → Nat, (fun i => if i = k then f r else if i = r then f k else f i) = fun i => if i = r then f k else if i = k then f r else f i := by
    intro f; funext i
    by_cases h1 : i = k <;> by_cases h2 : i = r <;> simp_all
  have e2 : swpM R k r = swpM R r k := by
    funext i
    unfold swpM
    by_cases h1 : i = k <;> by_cases h2 : i = r <;> simp_all
  rw [e g, e cp, e2] at h2
  exact h2

/-- The rows below 'i' are done. -/
def mixI (R : Mat) (r : Nat) (d : Int) (c k i : Nat) : Mat := fun a b => if a < i then modN R r d c k a b else swpM R r k a b
/-- And of row i the numbers below 'l'. -/
def mixL (R : Mat) (r : Nat) (d : Int) (c k i l : Nat) : Mat := fun a b => if a < i ∨ (a = i ∧ b < l) then modN R r d c k a b else swpM R r k a b

theorem mixI_start (R : Mat) (r : Nat) (d : Int) (c k : Nat) : ∀ a b, swpM R r k a b = mixI R r d c k (r + 1) a b := by
  intro a b
  unfold mixI modN
  split
  · rw [if_pos (by omega)]
  · rfl

theorem prod100 {a b : Int} (h1 : 0 ≤ a) (h2 : a ≤ 100) (h3 : 0 ≤ b) (h4 : b ≤ 100) : 0 ≤ a * b ∧ a * b ≤ 10000 := by
  have h5 := Int.mul_le_mul_of_nonneg_left h4 h1
  have h6 := Int.mul_nonneg h1 h3
  omega

theorem new_numI {A P Q F : Int} (hA : 0 ≤ A ∧ A ≤ 100) (hP : 0 ≤ P ∧ P ≤ 100) (hQ : 0 ≤ Q ∧ Q ≤ 100) (hF : 0 ≤ F ∧ F ≤ 100) :
    ∃ pa bq s t u x : Int, IntKind.i64.wrap (A * P) = pa ∧ IntKind.i64.wrap (Q * F) = bq ∧ IntKind.i64.wrap (pa - bq) = s ∧ s.tmod 101 = t ∧ IntKind.i64.wrap (t + 101) = u ∧ u.tmod 101 = x ∧ x = ((A * P - Q * F).tmod 101 + 101).tmod 101 := by
  have h1 := prod100 hA.1 hA.2 hP.1 hP.2
  have h2 := prod100 hQ.1 hQ.2 hF.1 hF.2
  have hx : -101 < (A * P - Q * F).tmod 101 ∧ (A * P - Q * F).tmod 101 < 101 := by
    have := Int.tmod_lt_of_pos (A * P - Q * F) (show (0 : Int) < 101 by decide)
    have h3 := Int.tmod_lt_of_pos (-(A * P - Q * F)) (show (0 : Int) < 101 by decide)
    rw [Int.neg_tmod] at h3
    omega
  exact ⟨A * P, Q * F, A * P - Q * F, _, (A * P - Q * F).tmod 101 + 101, _, IntWalk.i64_in _ ⟨by omega, by omega⟩, IntWalk.i64_in _ ⟨by omega, by omega⟩, IntWalk.i64_in _ ⟨by omega, by omega⟩, rfl, IntWalk.i64_in _ ⟨by omega, by omega⟩, rfl, rfl⟩

theorem Only.set (w : World) (b o : Nat) (v : Value) : Only b w (w.setCell ⟨b, o, none⟩ v) :=
  ⟨rfl, rfl, rfl, World.size_setCell _ _ _, fun _ hk => Below.heap_setCell _ _ _ _ hk⟩

set_option maxRecDepth 100000 in
set_option maxHeartbeats 4000000 in
theorem rankI (n : Nat) (ao : Option Addr) (b off cap : Nat) (xs : List Int) (w : World) (hr : Row .i64 w ao b off xs) (hn1 : 1 ≤ n) (hn : n ≤ 6) (hl : xs.length ≤ 1000) (hx : ∀ i, i < xs.length → 0 ≤ xs.getD i 0 ∧ xs.getD i 0 ≤ 1000) :
    Calls Try.prog 39 #[.int .i64 n, .slice ao xs.length cap] w fun e w' => e = .returned (.int .i64 (Go.AskMath.rnk n xs)) ∧ Below w.heap.size w w' := by
  obtain ⟨rk0, hrk⟩ : ∃ rk0, Go.AskMath.rnk n xs = rk0 := ⟨_, rfl⟩
  rw [hrk]
  have HRK := Lib.hid hrk
  obtain ⟨ha, hc⟩ := hr
  clear hrk
  have hmk := run_make_row' (P := Try.prog) 47 23 (.slice none 0 0) 24 Try.underlying47 Try.info22 rfl .i64 .i64 xs.length (by omega) (by omega)
  obtain ⟨m, hm⟩ : ∃ m, xs.length = m := ⟨_, rfl⟩
  have HX := Lib.hid hx
  have HC := Lib.hid hc
  have HA := Lib.hid ha
  have HME := Lib.hid hm
  rw [hm] at hmk hl ⊢
  have hrow0 := World.rowIs_made w (.slice none 0 0) m 23
  obtain ⟨tb, htb⟩ : ∃ tb, w.heap.size = tb := ⟨_, rfl⟩
  have HTB := Lib.hid htb
  have HB0 := Lib.hid ((Below.refl w.heap.size w).alloc (Nat.le_refl _) (.cells (madeCells #[.slice none 0 0] m) 23))
  have HP0 := Lib.hid (show PartI (w.alloc (.cells (madeCells #[.slice none 0 0] m) 23)) tb tb m 0 n (fun _ => 0) (fun _ => 0) (fun i j => Go.AskMath.bits n (xs.getD i 0) j) from
    ⟨⟨_, htb ▸ hrow0, fun i hi => absurd hi (by omega), fun i _ _ => rfl⟩, fun i hi => absurd hi (by omega), fun i hi => absurd hi (by omega), Nat.le_refl _, fun i hi => absurd hi (by omega), fun i hi => absurd hi (by omega), fun i j hi => absurd hi (by omega)⟩)
  rw [htb] at HB0 ⊢
  clear hx hc ha hm hrow0
  go_enter Try.func39, Try.ntmps39
  go_wp2_with fail
  clear hmk htb
  go_loopw [22] (fun si wr => ∃ (k : Nat) (g cp : Nat → Nat), k ≤ m ∧ si = .int .i64 k ∧ PartI wr tb tb m k n g cp (fun i j => Go.AskMath.bits n (xs.getD i 0) j) ∧ Below tb w wr) (fun si _ => m - (intOf si).toNat)
  case atStart => exact ⟨0, _, _, Nat.zero_le _, rfl, HP0.out, HB0.out⟩
  case round =>
    clear HP0 HB0
    obtain ⟨k, g, cp, hk, rfl, hP, hB⟩ := hrel
    have HP := Lib.hid hP
    have HB := Lib.hid hB
    have htl := hP.ltT
    clear hP hB
    by_cases hlt : k < m
    · have hkl : k < xs.length := by rw [HME.out]; exact hlt
      have hxk := HX.out k hkl
      obtain ⟨x, hxe⟩ : ∃ x, xs.getD k 0 = x := ⟨_, rfl⟩
      have hck := HC.out k hkl
      have hbw := World.block_lt_of_cell? _ _ hck
      rw [hxe] at hxk hck
      have HXE := Lib.hid hxe
      obtain rfl := HA.out (by omega)
      have hcx : wr.cell? ⟨b, off + k, none⟩ = some (.int .i64 x) := by
        rw [HB.out.cell (p := ⟨b, off + k, none⟩) (show b < tb from HTB.out ▸ hbw)]; exact hck
      clear hxe hck hbw
      obtain ⟨hx0, hx1⟩ := hxk
      obtain ⟨ft, hft, hf1, hf2⟩ := HP.out.top
      have hv0 := hf2 k (Nat.le_refl _) hlt
      have HM0 := Lib.hid (hv0 ▸ Making.refl (k := k) hft)
      clear hft hf1 hf2 hv0
      obtain ⟨wo, hwo⟩ : ∃ wo : World, wo = wr := ⟨_, rfl⟩
      obtain ⟨B0, hB0⟩ : ∃ B0, wo.heap.size = B0 := ⟨_, rfl⟩
      rw [← hwo] at HP HB HM0 htl hcx ⊢
      rw [hB0] at htl
      have HB0 := Lib.hid hB0
      clear hB0 hwo
      go_wp2_with fail
      clear hcx
      go_loopw [28] (fun sj wj => ∃ (j : Nat) (v : Value), j ≤ n ∧ sj = .int .i64 j ∧ Making wo wj tb m k v ∧ Own wj B0 v ((List.range j).map fun l => Go.AskMath.bits n x l)) (fun sj _ => n - (intOf sj).toNat)
      case atStart => exact ⟨0, _, Nat.zero_le _, rfl, HM0.out, Own.nil _ _⟩
      case round =>
        clear HM0
        obtain ⟨j, v, hj, rfl, hMk, hO⟩ := hrel
        have HMk := Lib.hid hMk
        have HO := Lib.hid hO
        clear hMk hO
        by_cases hjn : j < n
        · obtain ⟨ft, hft, _, _⟩ := HP.out.top
          have hcells := HMk.out.cells ft hft
          have hct := hcells.cell hlt
          have hft2 := hcells.frozen k
          rw [if_pos rfl] at hct
          have hkz : (k : Int) < (m : Int) := by omega
          have hjl : ((List.range j).map fun l => Go.AskMath.bits n x l).length = j := by simp
          have hb : Go.AskMath.bits n x j = (x / 2 ^ j) % 2 := by unfold Go.AskMath.bits; rw [if_pos hjn]
          have he := i64_and1 (x / 2 ^ j)
          obtain ⟨z, hz⟩ : ∃ z : Int, x / 2 ^ j % 2 = z := ⟨_, rfl⟩
          rw [hz] at hb he
          have HZ := Lib.hid hb
          have HJL := Lib.hid hjl
          have hszB : B0 ≤ wr.heap.size := by have := HMk.out.fr.size; rw [HB0.out] at this; exact this
          have hct3 : (wr.alloc (.cells #[.int .i64 z] 3)).cell? ⟨tb, k, none⟩ = some v := (((Below.refl wr.heap.size wr).alloc (Nat.le_refl _) (.cells #[.int .i64 z] 3)).cell (p := ⟨tb, k, none⟩) (show tb < wr.heap.size by omega)).trans hct
          clear hz hb hjl hft hcells
          go_wp2_with fail
          go_region_law (first | (refine step_app1 (w0 := wr.drew) rfl (.tmp 36) (.tmp 41) rfl B0 _ _ (by rfl) HO.out z rfl (by rfl) (by rw [HJL.out]; omega) hszB ?_; intro v' w' hO2 hB2 _; have hcw := (hB2.cell (p := ⟨tb, k, none⟩) htl).trans hct; have hfw := (hB2.frozen (p := ⟨tb, k, none⟩) htl).trans hft2; obtain ⟨va, vl, vc, hv'⟩ := hO2.slice; subst hv'))
          all_goals
            have HO2 := Lib.hid (hO2.only (Only.set _ tb k (.slice va vl vc)) htl)
            have HB2 := Lib.hid (HMk.out.drew.store hB2 (Nat.le_of_eq HB0.out) (by rw [HB0.out]; exact htl) (.slice va vl vc))
            clear hO2 hB2 hcw hfw
            go_wp2_with fail
            go_roundw
            case rel =>
              refine ⟨j + 1, _, by omega, by go_num, HB2.out, ?_⟩
              rw [List.range_succ, List.map_append, List.map_singleton, HZ.out]
              exact HO2.out
            case measure => simp [intOf]; omega
        · obtain rfl : j = n := by omega
          obtain ⟨xb, xc, f, hv, hxb, hrow, hlc, hf⟩ := own_shape HO.out (by simp; omega)
          subst hv
          have hjl : ((List.range j).map fun l => Go.AskMath.bits j x l).length = j := by simp
          rw [hjl] at hlc hf HMk
          have HN := Lib.hid (HP.out.snoc HMk.out hrow (fun j' hj' => by
            rw [hf j' hj', HXE.out]; congr 1; simp [List.getD_eq_getElem?_getD, hj']) hlc (by rw [HB0.out]; exact hxb))
          have HBN := Lib.hid (HB.out.trans (HMk.out.fr.toBelow (B := tb) (Nat.le_refl _) (by rw [HB0.out]; omega)))
          clear hrow hf hjl
          go_wp2_with fail
          go_roundw
          case rel => exact ⟨k + 1, _, _, by omega, by go_num, HN.out, HBN.out⟩
          case measure => simp [intOf]; omega
    · obtain rfl : k = m := by omega
      have HM0 := Lib.hid (HP.out.mx)
      clear HP htl HX HC HA
      have hkm : k ≤ 1000000 := by omega
      have HS := Lib.hid (fun c R r d (hc : c < n) (hp : Path modN k (fun i j => Go.AskMath.bits n (xs.getD i 0) j) c R r d) => Go.AskMath.mod_small (y0 := fun i => Go.AskMath.bits n (xs.getD i 0)) (fun i => Go.AskMath.bits_bin n _) (fun _ _ _ _ => rfl) hn hp hc)
      have HF := Lib.hid (fun R r d (hp : Path modN k (fun i j => Go.AskMath.bits n (xs.getD i 0) j) n R r d) => (by
        have h0 : xs.length = k := HME.out
        subst h0
        exact Go.AskMath.mod_rnk (n := n) (qs := xs) (fun _ _ _ _ => rfl) hn hp : r = Go.AskMath.rnk n xs))
      obtain ⟨R0, hR0⟩ : ∃ R0 : Mat, (fun i j => Go.AskMath.bits n (xs.getD i 0) j) = R0 := ⟨_, rfl⟩
      rw [hR0] at HM0 HS HF
      rw [HRK.out] at HF
      clear hR0 HME hl
      go_wp2_with fail
      go_loopw [9, 47] (fun sr sc wr => ∃ (c r : Nat) (d : Int) (R : Mat) (g cp : Nat → Nat), c ≤ n ∧ sc = .int .i64 c ∧ sr = .int .i64 r ∧ Path modN k R0 c R r d ∧ Mx wr tb tb k k n g cp R ∧ Below tb w wr) (fun _ sc _ => n - (intOf sc).toNat)
      case atStart => exact ⟨0, 0, 1, R0, g, cp, Nat.zero_le _, rfl, rfl, .start, HM0.out, HB.out⟩
      case round =>
        clear HM0 HB
        obtain ⟨c, r, d, R, g', cp', hc, rfl, rfl, hP, hM, hB⟩ := hrel
        obtain ⟨hrm, hrc⟩ := path_le hP
        have HP := Lib.hid hP
        have HM := Lib.hid hM
        have HB := Lib.hid hB
        clear hP hM hB
        by_cases hlt : c < n
        · obtain ⟨hsm, _⟩ := HS.out c R r d hlt HP.out
          have HSM := Lib.hid hsm
          clear hsm
          have HMi := Lib.hid (HM.out.below ((Below.refl wr.heap.size wr).alloc (Nat.le_refl _) (.cells #[.int .i64 c] 3)) (Nat.le_refl _))
          have HBi := Lib.hid (HB.out.alloc (by have := HM.out.ltT; omega) (.cells #[.int .i64 c] 3))
          have hbox := cell1 wr (.int .i64 c) 3
          have hT := HM.out.ltT
          have hG := Lib.hid (fun a (ha : a < k) => HM.out.ltR ha)
          by_cases hrk : r < k
          · have HBX := Lib.hid hbox
            clear hbox
            go_wp2_with fail
            obtain ⟨wi, hwi⟩ : ∃ wi, wr.alloc (.cells #[.int .i64 c] 3) = wi := ⟨_, rfl⟩
            obtain ⟨Bi, hBi⟩ : ∃ Bi, wr.heap.size = Bi := ⟨_, rfl⟩
            rw [hwi] at HMi HBi HBX ⊢
            rw [hBi] at HBX hT hG ⊢
            clear HM HB hwi hBi
            refine (findI HMi.out r c (k - r) Bi (by omega) hlt hkm (by omega) (k - r) HBX.out).mono ?_
            rintro e w' ⟨rfl, ⟨rfl, hz⟩ | ⟨i, rfl, hik, hne, hfst⟩⟩
            · have HZ := Lib.hid hz
              clear hz
              go_wp2_with fail
              go_roundw
              case rel => exact ⟨c + 1, r, d, R, g', cp', by omega, by go_num, rfl, HP.out.skip HZ.out, HMi.out, HBi.out⟩
              case measure => simp [intOf]; omega
            · have HK := Lib.hid hne
              have HFS := Lib.hid hfst
              clear hne hfst
              have t1 := HMi.out.cellT hik
              have t2 := HMi.out.cellT hrk
              have f1 := HMi.out.frozenT (r + i)
              have f2 := HMi.out.frozenT r
              have hkz : (r : Int) + (i : Int) < (k : Int) := by omega
              have hrz : (r : Int) < (k : Int) := by omega
              obtain ⟨v3, t3⟩ := HMi.out.cellT_set hik r (.slice (some ⟨g' (r + i), 0, none⟩) n (cp' (r + i)))
              obtain ⟨wq, hwq⟩ : ∃ wq, ((wi.setCell ⟨tb, r, none⟩ (.slice (some ⟨g' (r + i), 0, none⟩) n (cp' (r + i)))).setCell ⟨tb, r + i, none⟩ (.slice (some ⟨g' r, 0, none⟩) n (cp' r))) = wq := ⟨_, rfl⟩
              obtain ⟨g2, cp2, hg2, hc2, hg3, hM2⟩ : ∃ g2 cp2 : Nat → Nat, g2 r = g' (r + i) ∧ cp2 r = cp' (r + i) ∧ (∀ a, a < k → g2 a < Bi) ∧ Mx wq tb tb k k n g2 cp2 (swpM R r (r + i)) := by
                refine ⟨fun a => if a = r then g' (r + i) else if a = r + i then g' r else g' a, fun a => if a = r then cp' (r + i) else if a = r + i then cp' r else cp' a, if_pos rfl, if_pos rfl, fun a ha => ?_, hwq ▸ HMi.out.swap2 hrk hik⟩
                show (if a = r then g' (r + i) else if a = r + i then g' r else g' a) < Bi
                split
                · exact hG.out _ hik
                · split
                  · exact hG.out _ hrk
                  · exact hG.out _ ha
              have t4 := hM2.cellT hrk
              rw [hg2, hc2] at t4
              have hbq : wq.cell? ⟨Bi, 0, none⟩ = some (.int .i64 c) := by
                rw [← hwq, World.cell?_of_block (Below.heap_setCell _ _ _ _ (show Bi ≠ tb by omega)), World.cell?_of_block (Below.heap_setCell _ _ _ _ (show Bi ≠ tb by omega))]
                exact HBX.out
              have HBQ := Lib.hid hbq
              have HB2 := Lib.hid (show Below tb w wq from hwq ▸ (HBi.out.setCell (p := ⟨tb, r, none⟩) (Nat.le_refl tb) _).setCell (p := ⟨tb, r + i, none⟩) (Nat.le_refl tb) _)
              have HM2 := Lib.hid hM2
              have HG2 := Lib.hid (show _ ∧ _ ∧ _ from ⟨hg2, hc2, hg3⟩)
              clear hM2 hbq hg2 hc2 hg3
              have HPS := Lib.hid (HP.out.step (r + i) (by omega) hik HK.out HFS.out)
              by_cases hr1 : r + 1 < k
              · have hrz1 : (r : Int) + 1 < (k : Int) := by omega
                go_wp2_with fail
                go_region
                all_goals clear t1 t2 t3 f1 f2 hwq
                all_goals go_wp2_with fail
                all_goals
                  clear t4
                  go_loopw [84] (fun sa wj => ∃ a : Nat, r + 1 + a ≤ k ∧ sa = .int .i64 a ∧ Mx wj tb tb k k n g2 cp2 (mixI R r d c (r + i) (r + 1 + a)) ∧ Hid (wj.cell? ⟨Bi, 0, none⟩ = some (.int .i64 c)) ∧ Below tb w wj) (fun sa _ => k - (r + 1) - (intOf sa).toNat)
                  case atStart => exact ⟨0, by omega, rfl, HM2.out.drew.congr (fun a _ b _ => mixI_start R r d c (r + i) a b), HBQ, HB2.out.drew⟩
                  case round =>
                    obtain ⟨a, ha, rfl, hM, HBQ2, hB⟩ := hrel
                    have HM3 := Lib.hid hM
                    have HB3 := Lib.hid hB
                    clear hM hB HM2 HBQ HB2
                    by_cases hak : r + 1 + a < k
                    · have haz : (a : Int) < ((k - (r + 1) : Nat) : Int) := by omega
                      have han : a < k - (r + 1) := by omega
                      have tp := HM3.out.cellT hak
                      have tc := HM3.out.cellR hak hlt
                      have hbq := HBQ2.out
                      have hcp := HM3.out.nle _ hak
                      have hcz : (c : Int) < (n : Int) := by omega
                      obtain ⟨F0, hF0⟩ : ∃ F0, mixI R r d c (r + i) (r + 1 + a) (r + 1 + a) c = F0 := ⟨_, rfl⟩
                      rw [hF0] at tc
                      have HF0 := Lib.hid (show swpM R r (r + i) (r + 1 + a) c = F0 by rw [← hF0]; unfold mixI; rw [if_neg (Nat.lt_irrefl _)])
                      clear hF0
                      go_wp2_with fail
                      clear tp tc hbq
                      go_loopw [94] (fun sl wl => ∃ l : Nat, l ≤ n ∧ sl = .int .i64 l ∧ Mx wl tb tb k k n g2 cp2 (mixL R r d c (r + i) (r + 1 + a) l) ∧ Hid (wl.cell? ⟨Bi, 0, none⟩ = some (.int .i64 c)) ∧ Below tb w wl) (fun sl _ => n - (intOf sl).toNat)
                      case atStart => exact ⟨0, Nat.zero_le _, rfl, HM3.out.congr (fun p _ q _ => by simp [mixI, mixL]), HBQ2, HB3.out⟩
                      case round =>
                        clear HM3 HBQ2 HB3
                        obtain ⟨l, hl, rfl, hM, HBQ3, hB⟩ := hrel
                        have HM4 := Lib.hid hM
                        have HB4 := Lib.hid hB
                        clear hM hB
                        by_cases hln : l < n
                        · have ta := HM4.out.cellR hak hln
                          have tp := HM4.out.cellR hrk hlt
                          have tq := HM4.out.cellR hrk hln
                          have fa := HM4.out.frozenR hak l
                          have hbq := HBQ3.out
                          have hcr := HM4.out.nle r hrk
                          rw [HG2.out.1] at tp tq
                          rw [HG2.out.2.1] at hcr
                          have hm1 : ∀ b, mixL R r d c (r + i) (r + 1 + a) l r b = R (r + i) b := fun b => by unfold mixL modN swpM; rw [if_pos (.inl (by omega)), if_pos (Nat.le_refl _), if_pos rfl]
                          have hm2 : mixL R r d c (r + i) (r + 1 + a) l (r + 1 + a) l = swpM R r (r + i) (r + 1 + a) l := by unfold mixL; rw [if_neg (by omega)]
                          rw [hm1] at tp tq
                          rw [hm2] at ta
                          have hsw : ∀ b, b < n → 0 ≤ swpM R r (r + i) (r + 1 + a) b ∧ swpM R r (r + i) (r + 1 + a) b ≤ 100 := fun b hb => by
                            unfold swpM
                            rw [if_neg (by omega)]
                            split
                            · exact HSM.out r (Nat.le_refl _) hrk b hb
                            · exact HSM.out _ (by omega) hak b hb
                          have hmod : modN R r d c (r + i) (r + 1 + a) l = ((swpM R r (r + i) (r + 1 + a) l * R (r + i) c - R (r + i) l * swpM R r (r + i) (r + 1 + a) c).tmod 101 + 101).tmod 101 := by unfold modN; rw [if_neg (by omega)]
                          obtain ⟨pa, bq, s, t, u, x, e1, e2, e3, e4, e5, e6, e7⟩ := new_numI (hsw l hln) (HSM.out (r + i) (by omega) hik c hlt) (HSM.out (r + i) (by omega) hik l hln) (hsw c hlt)
                          have HX := Lib.hid (hmod.trans e7.symm)
                          obtain ⟨p0, hp0⟩ : ∃ p0, R (r + i) c = p0 := ⟨_, rfl⟩
                          obtain ⟨a0, ha0⟩ : ∃ a0, swpM R r (r + i) (r + 1 + a) l = a0 := ⟨_, rfl⟩
                          obtain ⟨q0, hq0⟩ : ∃ q0, R (r + i) l = q0 := ⟨_, rfl⟩
                          rw [hp0] at tp e1
                          rw [hq0] at tq e2
                          rw [ha0] at ta e1
                          rw [HF0.out] at e2
                          have hlz : (l : Int) < (n : Int) := by omega
                          have HG3 := HG2.out.2.2 _ hak
                          have hgb : g2 (r + 1 + a) ≠ Bi := by omega
                          have HGB := Lib.hid hgb
                          have HGT := Lib.hid (HM4.out.baseG _ hak)
                          clear hm1 hm2 hsw hmod e7 hp0 ha0 hq0 hgb
                          go_wp2_with fail
                          go_still_tail 22, (by kernel_rfl)
                          change wpList _ _ _ _ _ wr.drew
                          clear e1 e2 e3 e4 e5 e6
                          go_wp2_with fail
                          go_roundw
                          case rel =>
                            refine ⟨l + 1, by omega, by go_num, ?_, ?_, ?_⟩
                            · refine (HM4.out.drew.set hak l x).congr (fun p hp q hq => ?_)
                              unfold setM
                              by_cases e : p = r + 1 + a ∧ q = l
                              · rw [if_pos e, ← HX.out]; unfold mixL; rw [if_pos (.inr ⟨e.1, by omega⟩), e.1, e.2]
                              · rw [if_neg e]; unfold mixL
                                by_cases e2 : p < r + 1 + a ∨ (p = r + 1 + a ∧ q < l)
                                · rw [if_pos e2, if_pos (by omega)]
                                · rw [if_neg e2, if_neg (by omega)]
                            · show (wr.drew.setCell _ _).cell? _ = _
                              rw [World.cell?_of_block (Below.heap_setCell _ _ _ _ (show Bi ≠ g2 (r + 1 + a) from Ne.symm HGB.out))]
                              exact HBQ3.out
                            · exact HB4.out.drew.setCell (p := ⟨g2 (r + 1 + a), l, none⟩) HGT.out _
                          case measure => simp [intOf]; omega
                        · obtain rfl : l = n := by omega
                          go_wp2_with fail
                          go_roundw
                          case rel =>
                            refine ⟨a + 1, by omega, by go_num, HM4.out.congr (fun p hp q hq => ?_), HBQ3, HB4.out⟩
                            unfold mixL mixI
                            by_cases e : p < r + 1 + (a + 1)
                            · rw [if_pos e, if_pos (by omega)]
                            · rw [if_neg e, if_neg (by omega)]
                          case measure => simp [intOf]; omega
                    · have han : ¬ (a < k - (r + 1)) := by omega
                      go_wp2_with fail
                      go_roundw
                      case rel =>
                        refine ⟨c + 1, r + 1, _, _, g2, cp2, by omega, by go_num, by go_num, HPS.out, HM3.out.congr (fun p hp q _ => ?_), HB3.out⟩
                        unfold mixI; rw [if_pos (by omega)]
                      case measure => simp [intOf]; omega
              · have hr1 : r + 1 = k := by omega
                have hrz1 : (r : Int) + 1 ≤ (k : Int) := by omega
                have hrn1 : ¬ (r + 1 < k) := by omega
                have hrn2 : k ≤ r + 1 := by omega
                have HR1 := Lib.hid hr1
                clear hr1
                go_wp2_with fail
                go_region
                all_goals clear t1 t2 t3 f1 f2 hwq
                all_goals go_wp2_with fail
                all_goals
                  clear t4
                  go_loopw [84] (fun sa wj => sa = .int .i64 0 ∧ wj = wq.drew) (fun sa _ => 0)
                  case atStart => exact ⟨rfl, rfl⟩
                  case round =>
                    obtain ⟨rfl, rfl⟩ := hrel
                    go_wp2_with fail
                    go_roundw
                    case rel =>
                      refine ⟨c + 1, r + 1, _, _, g2, cp2, by omega, by go_num, by go_num, HPS.out, HM2.out.drew.congr (fun p hp q _ => ?_), HB2.out.drew⟩
                      have := HR1.out
                      unfold modN; rw [if_pos (by omega)]
                    case measure => simp [intOf]; omega
          · obtain rfl : r = k := by omega
            have HBX := Lib.hid hbox
            clear hbox
            go_wp2_with fail
            refine (findI0 _ _ _ r r c R _ (Nat.le_refl _)).mono ?_
            rintro e w' ⟨rfl, ⟨rfl, hz⟩ | ⟨i, rfl, hik, _, _⟩⟩
            · have HZ := Lib.hid hz
              clear hz
              go_wp2_with fail
              go_roundw
              case rel => exact ⟨c + 1, r, d, R, g', cp', by omega, by go_num, rfl, HP.out.skip HZ.out, HMi.out, HBi.out⟩
              case measure => simp [intOf]; omega
            · omega
        · go_wp2_with fail
          go_ret
          obtain rfl : c = n := by omega
          have e := HF.out R r d HP.out
          subst e
          exact ⟨rfl, HB.out⟩
end Go.Proofs.Ytjglikccikeejab
