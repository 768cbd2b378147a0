/-
  Contracts: spec.DrawPeopleValid; lengths of people's lines.
-/
import Derived.Test.YtcjhenfofekofaaGreatDoorJ4
namespace Go.Proofs.YtcjhenfofekofaaGreatDoor
open Go.RowKit
open Go.TextMath (text word)
open Go.ParseMath

def slen : Value → Nat
  | .slice _ n _ => n
  | _ => 0
/-- Drawn people: few, or too many. -/
def PplV (w : World) (e : Ending) (w' : World) : Prop :=
  ∃ (ao : Option Addr) (b cap : Nat) (L : List Per), e = .returned (.slice ao L.length cap) ∧ Ppl w' ao b 0 L ∧ L.length ≤ cap ∧ cap ≤ 9223372036854775807 ∧ (L.length ≤ 12 ∨ L.length = 41) ∧ Below w.heap.size w w'

set_option maxHeartbeats 2000000 in
theorem drawPV (ao : Option Addr) (b off cap : Nat) (cs : List Int) (w : World) (hr : Row .u8 w ao b off cs) (hl : cs.length ≤ cap ∧ cap ≤ 9223372036854775807) (hw : ∀ i, i < cs.length → (Lit.int .u8 (cs.getD i 0)).wf = true) :
    Calls Tryz.prog 10 #[.slice ao cs.length cap] w (PplV w) := by
  have HO := Lib.hid (open_any ao b off cap cs w hr hl.1 hw hl.2)
  clear hr hw
  go_enter Tryz.func10, Tryz.ntmps10
  go_wp2_with fail
  refine (HO.out).mono ?_
  rintro e w1 ⟨rfl, hb1, hrd1, hs1⟩
  have HB1 := Lib.hid hb1
  have HR1 := Lib.hid hrd1
  have HS1 := Lib.hid hs1
  clear hb1 hrd1 hs1
  go_wp2_with fail
  refine (peopleD w.heap.size 6 0 w1 HR1.out (by omega) (by omega) (by omega)).mono ?_
  rintro e w2 ⟨a2, b2, c2, L, rfl, hp, h1, h2, h3, h7, q, hrd2, hq2, how⟩
  have HP := Lib.hid hp
  have H7 := Lib.hid (HB1.out.trans (h7.toBelow (Nat.le_refl _) (by rw [HS1.out]; omega)))
  have HRD := Lib.hid hrd2
  have HOW := Lib.hid how
  have hs2 := h7.size
  have hlt2 := hrd2.lt
  clear hp h7 hrd2 how
  by_cases h4 : 3 < L.length
  · have h4i : (3 : Int) < (L.length : Int) := by omega
    go_wp2_with fail
    refine (pick_any w.heap.size 10 q w2 HRD.out (by omega) (by omega)).mono ?_
    rintro e w3 ⟨x, rfl, hx0, hx1, hrd3, ho3⟩
    have HB3 := Lib.hid (H7.out.trans (ho3.below2 (Nat.le_refl _)))
    have HO3 := Lib.hid (show OwnPpl w3 w1.heap.size (.slice a2 L.length c2) L from own_only HOW.out ho3 (by have := HS1.out; omega))
    have hs3 : w1.heap.size ≤ w3.heap.size := by rw [ho3.2.2.2.1]; exact hs2
    clear hrd3 ho3
    by_cases hx : x = 0
    · subst hx
      go_wp2_with fail
      go_loopw [4] (fun v wr => ∃ L : List Per, OwnPpl wr w1.heap.size v L ∧ 4 ≤ L.length ∧ L.length ≤ 41 ∧ slen v = L.length ∧ Below w.heap.size w wr ∧ w1.heap.size ≤ wr.heap.size) (fun v _ => 41 - slen v)
      case atStart => exact ⟨L, HO3.out, by omega, by omega, rfl, HB3.out, hs3⟩
      case round =>
        obtain ⟨M, hown, hm4, hm41, hsl, hb, hsw⟩ := hrel
        have HB := Lib.hid hb
        have HO := Lib.hid hown
        obtain ⟨aM, bM, cM, rfl, k1, k2, k3, kp⟩ := hown.ppl
        obtain ⟨rfl, -, -⟩ := k3 (by omega)
        by_cases hlt : M.length ≤ 40
        · have hli : (M.length : Int) ≤ 40 := by omega
          have hel := kp.2 1 (by omega)
          obtain ⟨P, hP⟩ : ∃ P, M.getD 1 per0 = P := ⟨_, rfl⟩
          rw [hP] at hel
          obtain ⟨y0, y1, y2, y3⟩ := P
          obtain ⟨c0, c1, c2, c3⟩ := hel
          simp only at c0 c1 c2 c3
          have c0' : wr.cell? ⟨bM, 4, none⟩ = some (.int .i64 y0) := c0
          have c1' : wr.cell? ⟨bM, 5, none⟩ = some (.int .i64 y1) := c1
          have c2' : wr.cell? ⟨bM, 6, none⟩ = some (.int .i64 y2) := c2
          have c3' : wr.cell? ⟨bM, 7, none⟩ = some (.int .i64 y3) := c3
          have hm1 : (1 : Int) < (M.length : Int) := by omega
          have hm1n : 1 < M.length := by omega
          have hl10 : Hid (M.length ≤ 1000000000) := Lib.hid (by omega)
          have HSW := Lib.hid hsw
          clear c0 c1 c2 c3 hP hown kp hb hsl hsw
          go_wp2_with (at_builtin; refine wpList_app eltP rfl (.tmp 20) (.tmp 24) rfl w1.heap.size _ _ _ rfl HO.out [.int .i64 y0, .int .i64 y1, .int .i64 y2, .int .i64 y3] rfl (by intro u hu; simp at hu; rcases hu with rfl | rfl | rfl | rfl <;> rfl) rfl rfl hl10.out HSW.out ?_)
          intro v' w9 ho9 hb9 _
          have hO9 := ownp_snoc ho9
          have HB9 := Lib.hid (HB.out.trans (hb9.mono (by have := HS1.out; omega)))
          have hs9 : w1.heap.size ≤ w9.heap.size := Nat.le_trans HSW.out hb9.size
          obtain ⟨a9, b9, c9, rfl, -, -, -, -⟩ := OwnPpl.ppl hO9
          have HO9 := Lib.hid hO9
          clear ho9 hb9 hO9
          go_wp2_with fail
          go_roundw
          case rel => exact ⟨_, HO9.out, by rw [List.length_append]; omega, by rw [List.length_append, List.length_singleton]; omega, by simp [slen], HB9.out, hs9⟩
          case measure => simp [slen]; omega
        · have hli : ¬ (M.length : Int) ≤ 40 := by omega
          have HKP := Lib.hid kp
          clear hown kp hb hsl
          go_wp2_with fail
          go_ret
          exact ⟨_, bM, cM, M, rfl, HKP.out, k1, k2, .inr (by omega), HB.out⟩
    · have hx2 : (x == 0) = false := by simpa using hx
      have HP3 := Lib.hid HO3.out.ppl
      clear hx
      go_wp2_with fail
      go_ret
      obtain ⟨a3, b3, c3, hv3, k1, k2, -, kp⟩ := HP3.out
      injection hv3 with e1 e2 e3
      subst e1 e3
      exact ⟨_, b3, _, L, rfl, kp, h1, h2, .inl (by omega), HB3.out⟩
  · have h4i : ¬ (3 : Int) < (L.length : Int) := by omega
    go_wp2_with fail
    go_ret
    exact ⟨a2, b2, c2, L, rfl, HP.out, h1, h2, .inl (by omega), H7.out⟩

/-- A number below 10, below 1000: how long. -/
theorem word_1 {n : Int} (h0 : 0 ≤ n) (h : n < 10) : (word n).length = 1 := by
  unfold word
  rw [Lib.decDigits_one (by omega)]
  rfl
theorem word_m {n : Int} (h : 10 ≤ n) : (word n).length = (word (n / 10)).length + 1 := by
  have h1 := wd_more h
  have h2 := congrArg ByteArray.size h1
  rw [ByteArray.size_append] at h2
  have e : ∀ m : Int, (wd m).size = (word m).length := fun m => by show (word m).toArray.size = _; rw [List.size_toArray]
  rw [e, e] at h2
  exact h2
theorem word_3 {n : Int} (h0 : 0 ≤ n) (h : n ≤ 999) : (word n).length ≤ 3 := by
  by_cases h1 : n < 10
  · rw [word_1 h0 h1]; omega
  · rw [word_m (by omega)]
    by_cases h2 : n / 10 < 10
    · rw [word_1 (by omega) h2]; omega
    · rw [word_m (by omega), word_1 (by omega) (by omega)]; omega
theorem perL_16 {p : Per} (h : PerOk p) : (perL p).length ≤ 16 := by
  obtain ⟨h1, h2, h3, h4, h5⟩ := h
  have e : (perL p).length = 7 + (lineOf (rowOf p)).length := by simp [perL, kPerson]; omega
  have e2 : lineOf (rowOf p) = word p.area ++ 32 :: (word p.job ++ 32 :: (word p.sex ++ 32 :: word p.pay)) := by simp [lineOf, rowOf, Lib.join, Lib.joinTail]
  rw [e, e2]
  have l1 := word_1 h1.1 (by omega)
  have l2 := word_1 h2.1 (by omega)
  have l3 := word_1 h3.1 (by omega)
  have l4 := word_3 h4 h5
  simp only [List.length_append, List.length_cons]
  omega
theorem script_17 {L : List Per} (h : ∀ p ∈ L, PerOk p) : (scriptOf (L.map perL)).length ≤ 17 * L.length := by
  induction L using snoc_ind with
  | h0 => simp [scriptOf]
  | hs l p ih =>
    have := ih fun q hq => h q (by simp [hq])
    have h2 := perL_16 (h p (by simp))
    rw [List.map_append, List.map_singleton, script_snoc, List.length_append, List.length_append, List.length_singleton, List.length_append, List.length_singleton]
    omega
end Go.Proofs.YtcjhenfofekofaaGreatDoor
