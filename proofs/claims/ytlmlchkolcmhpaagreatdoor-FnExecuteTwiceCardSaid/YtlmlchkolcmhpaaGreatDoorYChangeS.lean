/-
  Contract: spec.l13Change.
-/
import Derived.Test.YtlmlchkolcmhpaaGreatDoorYPathS
import Derived.StillTailTactics
namespace Go.Proofs.YtlmlchkolcmhpaaGreatDoor
open Go.RowKit
open Go.TextMath (tvB mvB)
open Go.FlowMath (Legal Half IsExt sg upd)

theorem PRow.other {W : World} {pb cp b o : Nat} {P : List Int} (h : PRow W pb cp P) (hne : pb ≠ b) (x : Value) : PRow (W.setCell ⟨b, o, none⟩ x) pb cp P := by
  obtain ⟨⟨f, h1, h2⟩, h3⟩ := h
  exact ⟨⟨f, h1.setOther hne _, h2⟩, h3⟩
theorem Rect.put {α : Type} {X : List (List α)} {h q a : Nat} (R : Rect X h q) (ha : a < h) (b : Nat) (x : α) : Rect (putC X a b x) h q :=
  ⟨by rw [putC_len]; exact R.len, fun k hk => by rw [putC_row X a b k x (by rw [R.len]; exact ha)]; exact R.row k hk⟩
theorem Rect.put_at {X : List (List Int)} {h q a b : Nat} (R : Rect X h q) (ha : a < h) (hb : b < q) (x : Int) : cellT (putC X a b x) = fun k l => if k = a ∧ l = b then x else cellT X k l := by
  funext k l
  exact putC_at X k l x 0 (by rw [R.len]; exact ha) (by rw [R.row a ha]; exact hb)
theorem Rect.put_add {X : List (List Int)} {h q a b : Nat} (R : Rect X h q) (ha : a < h) (hb : b < q) (d : Int) : cellT (putC X a b (cellT X a b + d)) = upd (cellT X) a b d := by
  rw [R.put_at ha hb]
  funext k l
  unfold upd
  by_cases e : k = a ∧ l = b
  · rw [if_pos e, if_pos e, e.1, e.2]
  · rw [if_neg e, if_neg e]

/-- What the walk back keeps. -/
def ChgI (base ob ct h q : Nat) (g : Nat → Nat) (pb cp : Nat) (P : List Int) (X : List (List Int)) (w W : World) : Prop :=
  MtI W base (.slice (some ⟨ob, 0, none⟩) h ct) X g ∧ Rect X h q ∧ PRow W pb cp P ∧ Below base w W
theorem ChgI.put {base ob ct h q : Nat} {g : Nat → Nat} {pb cp : Nat} {P : List Int} {X : List (List Int)} {w W : World} (s : ChgI base ob ct h q g pb cp P X w W) {a b : Nat} (ha : a < h) (hb : b < q) (h1 : base ≤ g a) (h2 : g a < pb) (x : Int) :
    ChgI base ob ct h q g pb cp P (putC X a b x) w (W.setCell ⟨g a, b, none⟩ (.int .i64 x)).drew := by
  obtain ⟨s1, s2, s3, s4⟩ := s
  have h3 := (s3.other (b := g a) (o := b) (by omega) (.int .i64 x))
  have h4 : pb < (W.setCell ⟨g a, b, none⟩ (.int .i64 x)).heap.size := by
    obtain ⟨⟨f, ⟨cur, q1, -, -⟩, -⟩, -⟩ := h3
    exact (Array.getElem?_eq_some_iff.1 q1).1
  exact ⟨(s1.put (by decide) (i := a) (j := b) (by rw [s2.len]; exact ha) (by rw [s2.row a ha]; exact hb) x).below (Below.refl _ _).drew, s2.put ha b x, h3.below (Below.refl _ _).drew h4, (s4.setCell (p := ⟨g a, b, none⟩) h1 _).drew⟩
theorem ChgI.at_ {base ob ct h q : Nat} {g : Nat → Nat} {pb cp : Nat} {P : List Int} {X : List (List Int)} {w W : World} (s : ChgI base ob ct h q g pb cp P X w W) {a b : Nat} (ha : a < h) (hb : b < q) :
    ∃ c, W.cell? ⟨ob, a, none⟩ = some (.slice (some ⟨g a, 0, none⟩) q c) ∧ q ≤ c ∧ W.cell? ⟨g a, b, none⟩ = some (.int .i64 (cellT X a b)) ∧ W.frozen? ⟨g a, b, none⟩ = false := by
  obtain ⟨s1, s2, -, -⟩ := s
  obtain ⟨c, h1, -, h2, -, -, -, -⟩ := s1.at_ (i := a) (by rw [s2.len]; exact ha)
  rw [s2.row a ha] at h1 h2
  obtain ⟨h3, h4⟩ := s1.elt (i := a) (j := b) (by rw [s2.len]; exact ha) (get_of (d := 0) (by rw [s2.row a ha]; exact hb))
  exact ⟨c, h1, h2, h3, h4⟩

set_option maxRecDepth 100000 in
set_option maxHeartbeats 8000000 in
theorem changeS (base ob ct : Nat) (X : List (List Int)) (g : Nat → Nat) (mb cm : Nat) (M : List (List Bool)) (h q i j : Nat) (raise : Bool) (t0 : Nat → Nat → Int) (w : World) (hmt : MtI w base (.slice (some ⟨ob, 0, none⟩) h ct) X g) (hm : TabB w (some ⟨mb, 0, none⟩) mb 0 M) (RX : Rect X h q) (RM : Rect M h q) (hi : i < h) (hj : j < q) (hh : h ≤ 4) (hq : q ≤ 4) (hbase : base ≤ w.heap.size)
    (hL : Legal h q i j (flagM M) t0 (cellT X)) (hf : flagM M i j = true) (hbd : ∀ k, k < h → ∀ l, l < q → -5000 ≤ cellT X k l ∧ cellT X k l ≤ 5000) :
    Calls Tryz.prog 183 #[.slice (some ⟨ob, 0, none⟩) h ct, .slice (some ⟨mb, 0, none⟩) h cm, .int .i64 (i : Int), .int .i64 (j : Int), .bool raise] w fun e w' =>
      (e = .returned (.bool false) ∧ IsExt h q i j (flagM M) t0 raise (cellT X i j) ∧ Below w.heap.size w w') ∨
      (e = .returned (.bool true) ∧ ∃ X', MtI w' base (.slice (some ⟨ob, 0, none⟩) h ct) X' g ∧ Rect X' h q ∧ Legal h q i j (flagM M) t0 (cellT X') ∧ cellT X' i j = cellT X i j + sg raise ∧ Below base w w') := by
  have HTAB := hmt.tabT
  have HPA := Lib.hid (pathS ob ct X mb cm M h q i j raise w RX RM (by have := HTAB.int; exact this) hm hi hj hh hq)
  have HMT := Lib.hid hmt
  have HGL := Lib.hid (fun a (ha : a < h) => (show base ≤ g a ∧ g a < w.heap.size from ⟨hmt.low a (by rw [RX.len]; exact ha), hmt.lt (by rw [RX.len]; exact ha)⟩))
  have HRX := Lib.hid RX
  have HL := Lib.hid hL
  have HF := Lib.hid hf
  have HBD := Lib.hid hbd
  have hii : (i : Int) < (h : Int) := by omega
  have hjj : (j : Int) < (q : Int) := by omega
  have hjn : 0 ≤ (j : Int) := by omega
  clear hmt hm RM HTAB hL hf hbd RX
  go_enter Tryz.func183, Tryz.ntmps183
  go_wp2_with fail
  refine (HPA.out).mono ?_
  rintro e w1 ⟨pb, cp, P, rank, rfl, hpr, hreach, hpb, hpb2, hb1⟩
  have HRE := Lib.hid hreach
  have hlen := hreach.len
  have p1 := (hpr.cell (j := h + j) (by rw [hlen]; omega)).1
  have HPR := Lib.hid hpr
  have HB1 := Lib.hid hb1
  have hin : (h : Int) + (j : Int) < (h : Int) + (q : Int) := by omega
  have hin2 : (h : Int) + (j : Int) < ((h + q : Nat) : Int) := by omega
  obtain ⟨y, hy⟩ : ∃ y, P.getD (h + j) 0 = y := ⟨_, rfl⟩
  rw [hy] at p1
  have HY := Lib.hid hy
  clear hpr hreach hb1 hy HPA
  by_cases hyy : y < 0
  · have HE := Lib.hid (HRE.out.extreme HL.out hi hj (by rw [HY.out]; exact hyy))
    go_wp2_with fail
    go_ret
    exact .inl ⟨rfl, HE.out, HB1.out⟩
  · have hy0 : 0 ≤ y := by omega
    cases raise with
    | true =>
      obtain ⟨c0, d1, d2, d3, d4⟩ := ChgI.at_ (base := base) (pb := pb) (cp := cp) (P := P) (w := w1) ⟨HMT.out.below HB1.out, HRX.out, HPR.out, Below.refl _ _⟩ hi hj
      have hg := HGL.out i hi
      have hx := HBD.out i hi j hj
      have HS0 := Lib.hid (ChgI.put (pb := pb) (cp := cp) (P := P) ⟨HMT.out.below HB1.out, HRX.out, HPR.out, (HB1.out.mono hbase)⟩ hi hj hg.1 (by omega) (cellT X i j + 1))
      have HH0 := Lib.hid (Half.start (raise := true) (d := 1) (rank := rank) HL.out hi hj HF.out)
      rw [show sg true * 1 = 1 from rfl, ← HRX.out.put_add hi hj 1] at HH0
      have HRX1 := Lib.hid (HRX.out.put hi j (cellT X i j + 1))
      obtain ⟨x, hxx⟩ : ∃ x, cellT X i j = x := ⟨_, rfl⟩
      rw [hxx] at hx d3 HS0 HH0 HRX1
      obtain ⟨gi, hgi⟩ : ∃ gi, g i = gi := ⟨_, rfl⟩
      rw [hgi] at d1 d3 d4 HS0
      have hwr : IntKind.i64.wrap (x + 1) = x + 1 := IntWalk.i64_in _ ⟨by omega, by omega⟩
      clear hxx hgi
      go_upto_region 8 with fail
      go_still_tail 15, (by kernel_rfl)
      go_upto_region 9 with fail
      obtain ⟨W1, hW1⟩ : ∃ W1, (w1.setCell ⟨gi, j, none⟩ (.int .i64 (x + 1))).drew = W1 := ⟨_, rfl⟩
      rw [hW1] at HS0 ⊢
      obtain ⟨X1, hX1⟩ : ∃ X1, putC X i j (x + 1) = X1 := ⟨_, rfl⟩
      rw [hX1] at HS0 HH0 HRX1
      have HNY := Lib.hid (show 0 ≤ P.getD (h + j) 0 by rw [HY.out]; exact hy0)
      clear hW1 hX1 d1 d2 d3 d4 p1 hwr hx HY hy0 hyy
      go_loopw [12] (fun t W => ∃ (v : Nat) (Y : List (List Int)), t = .int .i64 v ∧ v < h + q ∧ 0 ≤ P.getD v 0 ∧ Half (h := h) (w := q) (i := i) (j := j) (m := flagM M) (t := t0) true 1 (cellT X) rank v (cellT Y) ∧ ChgI base ob ct h q g pb cp P Y w W) (fun t _ => rank (intOf t).toNat)
      case atStart => exact ⟨h + j, X1, rfl, by omega, HNY.out, HH0.out, HS0.out⟩
      case round =>
        obtain ⟨v, Y, rfl, hv, hp0, hhf, hs⟩ := hrel
        have HS := Lib.hid hs
        have HHF := Lib.hid hhf
        by_cases hvi : v = i
        · have f1 : ((v : Int) != (i : Int)) = false := by rw [hvi]; simp
          have HD := Lib.hid (Half.done (hvi ▸ hhf) hi)
          clear hs hhf hvi
          go_wp2_with fail
          go_ret
          refine .inr ⟨rfl, Y, HS.out.1, HS.out.2.1, HD.out.1, ?_, HS.out.2.2.2⟩
          have := HD.out.2
          rw [show sg true * 1 = 1 from rfl] at this
          rw [this]; rfl
        · have f1 : ((v : Int) != (i : Int)) = true := by rw [bne_iff_ne]; omega
          obtain ⟨p, hp, hpN, hpp, hrk, hedge⟩ := HRE.out.from_ v hv hp0 hvi
          have hroom : (p < h → true = true → (1 : Int) ≤ cellT X p (v - h)) ∧ (h ≤ p → true = false → (1 : Int) ≤ cellT X v (p - h)) := by
            rcases hedge with ⟨a1, a2, a3, a4, a5, a6⟩ | ⟨a1, a2, a3, a4, a5, a6⟩
            · exact ⟨fun _ e => by have := a6 e; omega, fun e => by omega⟩
            · exact ⟨fun e => by omega, fun _ e => by have := a6 e; omega⟩
          have hne : (p < h → ¬ (p = i ∧ v - h = j)) ∧ (h ≤ p → ¬ (v = i ∧ p - h = j)) := by
            rcases hedge with ⟨a1, a2, a3, a4, a5, a6⟩ | ⟨a1, a2, a3, a4, a5, a6⟩
            · exact ⟨fun _ e => a4 ⟨e.1, by omega⟩, fun e => by omega⟩
            · exact ⟨fun e => by omega, fun _ e => a4 ⟨e.1, by omega⟩⟩
          have q1 := (hs.2.2.1.cell (j := v) (by rw [hlen]; exact hv)).1
          rw [hp] at q1
          have HRK := Lib.hid hrk
          have HPP := Lib.hid hpp
          have hpbW := World.block_lt_of_cell? _ _ q1
          rcases Half.step hhf (by omega) hrk hedge hroom with ⟨e1, e2, e3, hH⟩ | ⟨e1, e2, e3, hH⟩
          · obtain ⟨l, rfl⟩ : ∃ l, v = h + l := ⟨v - h, by omega⟩
            rw [Nat.add_sub_cancel_left] at hH hne
            have hl : l < q := by omega
            have hold := hhf.old p e1 l hl (hne.1 e1) (Nat.le_of_lt hrk) (Nat.le_refl _)
            have hx := HBD.out p e1 l hl
            rw [← hold] at hx
            obtain ⟨c2, d1, d2, d3, d4⟩ := hs.at_ e1 hl
            have hg := HGL.out p e1
            have HS2 := Lib.hid (hs.put e1 hl hg.1 (by omega) (cellT Y p l - 1))
            have hH2 := hH
            rw [show -(sg true * 1) = -1 from rfl, ← hs.2.1.put_add e1 hl (-1)] at hH2
            rw [show cellT Y p l + -1 = cellT Y p l - 1 from by omega] at hH2
            have HH2 := Lib.hid hH2
            obtain ⟨x, hxx⟩ : ∃ x, cellT Y p l = x := ⟨_, rfl⟩
            rw [hxx] at hx d3 HS2 HH2
            obtain ⟨gi, hgi⟩ : ∃ gi, g p = gi := ⟨_, rfl⟩
            rw [hgi] at d1 d3 d4 HS2 hg
            have hpg : pb ≠ gi := by omega
            have hpg' : gi ≠ pb := by omega
            have hwr : IntKind.i64.wrap (x - 1) = x - 1 := IntWalk.i64_in _ ⟨by omega, by omega⟩
            have hp1 : (p : Int) < (h : Int) := by omega
            have hl1 : (l : Int) < (q : Int) := by omega
            have HC := Lib.hid (fun W => cellS h p l e1 (by omega) W)
            clear hxx hgi hH hH2 hold hs hhf hvi hp hpp hp0 hrk hedge hroom hne
            go_wp2_with fail
            refine (HC.out _).mono ?_
            rintro e w' ⟨rfl, rfl⟩
            go_upto_region 12 with fail
            go_still_tail 15, (by kernel_rfl)
            go_wp2_with fail
            go_roundw
            case rel => exact ⟨p, _, rfl, hpN, HPP.out, HH2.out, HS2.out⟩
            case measure => simp only [intOf, Int.toNat_natCast]; first | exact HRK.out | (have := HRK.out; simpa [intOf] using this)
          · obtain ⟨l, rfl⟩ : ∃ l, p = h + l := ⟨p - h, by omega⟩
            rw [Nat.add_sub_cancel_left] at hH hne
            have hl : l < q := by omega
            have hold := hhf.old v e3 l hl (hne.2 e1) (Nat.le_refl _) (Nat.le_of_lt hrk)
            have hx := HBD.out v e3 l hl
            rw [← hold] at hx
            obtain ⟨c2, d1, d2, d3, d4⟩ := hs.at_ e3 hl
            have hg := HGL.out v e3
            have HS2 := Lib.hid (hs.put e3 hl hg.1 (by omega) (cellT Y v l + 1))
            have hH2 := hH
            rw [show sg true * 1 = 1 from rfl, ← hs.2.1.put_add e3 hl 1] at hH2
            have HH2 := Lib.hid hH2
            obtain ⟨x, hxx⟩ : ∃ x, cellT Y v l = x := ⟨_, rfl⟩
            rw [hxx] at hx d3 HS2 HH2
            obtain ⟨gi, hgi⟩ : ∃ gi, g v = gi := ⟨_, rfl⟩
            rw [hgi] at d1 d3 d4 HS2 hg
            have hpg : pb ≠ gi := by omega
            have hpg' : gi ≠ pb := by omega
            have hwr : IntKind.i64.wrap (x + 1) = x + 1 := IntWalk.i64_in _ ⟨by omega, by omega⟩
            have hv1 : (v : Int) < (h : Int) := by omega
            have hl1 : (l : Int) < (q : Int) := by omega
            have hhl : ¬ ((h : Int) + (l : Int) < (h : Int)) := by omega
            have HC := Lib.hid (fun W => cellS' h v l e3 (by omega) W)
            clear hxx hgi hH hH2 hold hs hhf hvi hp hpp hp0 hrk hedge hroom hne
            go_wp2_with fail
            refine (HC.out _).mono ?_
            rintro e w' ⟨rfl, rfl⟩
            go_upto_region 13 with fail
            go_still_tail 15, (by kernel_rfl)
            go_wp2_with fail
            go_roundw
            case rel => exact ⟨h + l, _, rfl, hpN, HPP.out, HH2.out, HS2.out⟩
            case measure => simp only [intOf, Int.toNat_natCast]; first | exact HRK.out | (have := HRK.out; simpa [intOf] using this)
    | false =>
      obtain ⟨c0, d1, d2, d3, d4⟩ := ChgI.at_ (base := base) (pb := pb) (cp := cp) (P := P) (w := w1) ⟨HMT.out.below HB1.out, HRX.out, HPR.out, Below.refl _ _⟩ hi hj
      have hg := HGL.out i hi
      have hx := HBD.out i hi j hj
      have HS0 := Lib.hid (ChgI.put (pb := pb) (cp := cp) (P := P) ⟨HMT.out.below HB1.out, HRX.out, HPR.out, (HB1.out.mono hbase)⟩ hi hj hg.1 (by omega) (cellT X i j + (-1)))
      have HH0 := Lib.hid (Half.start (raise := false) (d := 1) (rank := rank) HL.out hi hj HF.out)
      rw [show sg false * 1 = (-1) from rfl, ← HRX.out.put_add hi hj (-1)] at HH0
      have HRX1 := Lib.hid (HRX.out.put hi j (cellT X i j + (-1)))
      obtain ⟨x, hxx⟩ : ∃ x, cellT X i j = x := ⟨_, rfl⟩
      rw [hxx] at hx d3 HS0 HH0 HRX1
      obtain ⟨gi, hgi⟩ : ∃ gi, g i = gi := ⟨_, rfl⟩
      rw [hgi] at d1 d3 d4 HS0
      have hwr : IntKind.i64.wrap (x + (-1)) = x + (-1) := IntWalk.i64_in _ ⟨by omega, by omega⟩
      clear hxx hgi
      go_upto_region 8 with fail
      go_still_tail 15, (by kernel_rfl)
      go_upto_region 9 with fail
      obtain ⟨W1, hW1⟩ : ∃ W1, (w1.setCell ⟨gi, j, none⟩ (.int .i64 (x + (-1)))).drew = W1 := ⟨_, rfl⟩
      rw [hW1] at HS0 ⊢
      obtain ⟨X1, hX1⟩ : ∃ X1, putC X i j (x + (-1)) = X1 := ⟨_, rfl⟩
      rw [hX1] at HS0 HH0 HRX1
      have HNY := Lib.hid (show 0 ≤ P.getD (h + j) 0 by rw [HY.out]; exact hy0)
      clear hW1 hX1 d1 d2 d3 d4 p1 hwr hx HY hy0 hyy
      go_loopw [12] (fun t W => ∃ (v : Nat) (Y : List (List Int)), t = .int .i64 v ∧ v < h + q ∧ 0 ≤ P.getD v 0 ∧ Half (h := h) (w := q) (i := i) (j := j) (m := flagM M) (t := t0) false 1 (cellT X) rank v (cellT Y) ∧ ChgI base ob ct h q g pb cp P Y w W) (fun t _ => rank (intOf t).toNat)
      case atStart => exact ⟨h + j, X1, rfl, by omega, HNY.out, HH0.out, HS0.out⟩
      case round =>
        obtain ⟨v, Y, rfl, hv, hp0, hhf, hs⟩ := hrel
        have HS := Lib.hid hs
        have HHF := Lib.hid hhf
        by_cases hvi : v = i
        · have f1 : ((v : Int) != (i : Int)) = false := by rw [hvi]; simp
          have HD := Lib.hid (Half.done (hvi ▸ hhf) hi)
          clear hs hhf hvi
          go_wp2_with fail
          go_ret
          refine .inr ⟨rfl, Y, HS.out.1, HS.out.2.1, HD.out.1, ?_, HS.out.2.2.2⟩
          have := HD.out.2
          rw [show sg false * 1 = (-1) from rfl] at this
          rw [this]; rfl
        · have f1 : ((v : Int) != (i : Int)) = true := by rw [bne_iff_ne]; omega
          obtain ⟨p, hp, hpN, hpp, hrk, hedge⟩ := HRE.out.from_ v hv hp0 hvi
          have hroom : (p < h → false = true → (1 : Int) ≤ cellT X p (v - h)) ∧ (h ≤ p → false = false → (1 : Int) ≤ cellT X v (p - h)) := by
            rcases hedge with ⟨a1, a2, a3, a4, a5, a6⟩ | ⟨a1, a2, a3, a4, a5, a6⟩
            · exact ⟨fun _ e => by have := a6 e; omega, fun e => by omega⟩
            · exact ⟨fun e => by omega, fun _ e => by have := a6 e; omega⟩
          have hne : (p < h → ¬ (p = i ∧ v - h = j)) ∧ (h ≤ p → ¬ (v = i ∧ p - h = j)) := by
            rcases hedge with ⟨a1, a2, a3, a4, a5, a6⟩ | ⟨a1, a2, a3, a4, a5, a6⟩
            · exact ⟨fun _ e => a4 ⟨e.1, by omega⟩, fun e => by omega⟩
            · exact ⟨fun e => by omega, fun _ e => a4 ⟨e.1, by omega⟩⟩
          have q1 := (hs.2.2.1.cell (j := v) (by rw [hlen]; exact hv)).1
          rw [hp] at q1
          have HRK := Lib.hid hrk
          have HPP := Lib.hid hpp
          have hpbW := World.block_lt_of_cell? _ _ q1
          rcases Half.step hhf (by omega) hrk hedge hroom with ⟨e1, e2, e3, hH⟩ | ⟨e1, e2, e3, hH⟩
          · obtain ⟨l, rfl⟩ : ∃ l, v = h + l := ⟨v - h, by omega⟩
            rw [Nat.add_sub_cancel_left] at hH hne
            have hl : l < q := by omega
            have hold := hhf.old p e1 l hl (hne.1 e1) (Nat.le_of_lt hrk) (Nat.le_refl _)
            have hx := HBD.out p e1 l hl
            rw [← hold] at hx
            obtain ⟨c2, d1, d2, d3, d4⟩ := hs.at_ e1 hl
            have hg := HGL.out p e1
            have HS2 := Lib.hid (hs.put e1 hl hg.1 (by omega) (cellT Y p l - (-1)))
            have hH2 := hH
            rw [show -(sg false * 1) = -(-1) from rfl, ← hs.2.1.put_add e1 hl (-(-1))] at hH2
            rw [show cellT Y p l + -(-1) = cellT Y p l - (-1) from by omega] at hH2
            have HH2 := Lib.hid hH2
            obtain ⟨x, hxx⟩ : ∃ x, cellT Y p l = x := ⟨_, rfl⟩
            rw [hxx] at hx d3 HS2 HH2
            obtain ⟨gi, hgi⟩ : ∃ gi, g p = gi := ⟨_, rfl⟩
            rw [hgi] at d1 d3 d4 HS2 hg
            have hpg : pb ≠ gi := by omega
            have hpg' : gi ≠ pb := by omega
            have hwr : IntKind.i64.wrap (x - (-1)) = x - (-1) := IntWalk.i64_in _ ⟨by omega, by omega⟩
            have hp1 : (p : Int) < (h : Int) := by omega
            have hl1 : (l : Int) < (q : Int) := by omega
            have HC := Lib.hid (fun W => cellS h p l e1 (by omega) W)
            clear hxx hgi hH hH2 hold hs hhf hvi hp hpp hp0 hrk hedge hroom hne
            go_wp2_with fail
            refine (HC.out _).mono ?_
            rintro e w' ⟨rfl, rfl⟩
            go_upto_region 12 with fail
            go_still_tail 15, (by kernel_rfl)
            go_wp2_with fail
            go_roundw
            case rel => exact ⟨p, _, rfl, hpN, HPP.out, HH2.out, HS2.out⟩
            case measure => simp only [intOf, Int.toNat_natCast]; first | exact HRK.out | (have := HRK.out; simpa [intOf] using this)
          · obtain ⟨l, rfl⟩ : ∃ l, p = h + l := ⟨p - h, by omega⟩
            rw [Nat.add_sub_cancel_left] at hH hne
            have hl : l < q := by omega
            have hold := hhf.old v e3 l hl (hne.2 e1) (Nat.le_refl _) (Nat.le_of_lt hrk)
            have hx := HBD.out v e3 l hl
            rw [← hold] at hx
            obtain ⟨c2, d1, d2, d3, d4⟩ := hs.at_ e3 hl
            have hg := HGL.out v e3
            have HS2 := Lib.hid (hs.put e3 hl hg.1 (by omega) (cellT Y v l + (-1)))
            have hH2 := hH
            rw [show sg false * 1 = (-1) from rfl, ← hs.2.1.put_add e3 hl (-1)] at hH2
            have HH2 := Lib.hid hH2
            obtain ⟨x, hxx⟩ : ∃ x, cellT Y v l = x := ⟨_, rfl⟩
            rw [hxx] at hx d3 HS2 HH2
            obtain ⟨gi, hgi⟩ : ∃ gi, g v = gi := ⟨_, rfl⟩
            rw [hgi] at d1 d3 d4 HS2 hg
            have hpg : pb ≠ gi := by omega
            have hpg' : gi ≠ pb := by omega
            have hwr : IntKind.i64.wrap (x + (-1)) = x + (-1) := IntWalk.i64_in _ ⟨by omega, by omega⟩
            have hv1 : (v : Int) < (h : Int) := by omega
            have hl1 : (l : Int) < (q : Int) := by omega
            have hhl : ¬ ((h : Int) + (l : Int) < (h : Int)) := by omega
            have HC := Lib.hid (fun W => cellS' h v l e3 (by omega) W)
            clear hxx hgi hH hH2 hold hs hhf hvi hp hpp hp0 hrk hedge hroom hne
            go_wp2_with fail
            refine (HC.out _).mono ?_
            rintro e w' ⟨rfl, rfl⟩
            go_upto_region 13 with fail
            go_still_tail 15, (by kernel_rfl)
            go_wp2_with fail
            go_roundw
            case rel => exact ⟨h + l, _, rfl, hpN, HPP.out, HH2.out, HS2.out⟩
            case measure => simp only [intOf, Int.toNat_natCast]; first | exact HRK.out | (have := HRK.out; simpa [intOf] using this)
end Go.Proofs.YtlmlchkolcmhpaaGreatDoor
