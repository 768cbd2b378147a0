/-
  Contract: spec.l13Path.
-/
import Derived.Test.YtlmlchkolcmhpaaGreatDoorYBoundS
import Derived.Test.YtlmlchkolcmhpaaGreatDoorJ6
namespace Go.Proofs.YtlmlchkolcmhpaaGreatDoor
open Go.RowKit
open Go.TextMath (tvB mvB)
open Go.FlowMath (Bfs)

/-- A row of numbers in a block. -/
def PRow (W : World) (pb cp : Nat) (P : List Int) : Prop := (∃ f, W.rowIs pb 3 cp f ∧ ∀ j x, P[j]? = some x → f j = .int .i64 x) ∧ P.length ≤ cp
theorem PRow.below {W W' : World} {pb cp B : Nat} {P : List Int} (h : PRow W pb cp P) (hb : Below B W W') (hp : pb < B) : PRow W' pb cp P := by
  obtain ⟨⟨f, ⟨cur, h1, h2, h3⟩, h4⟩, h5⟩ := h
  exact ⟨⟨f, ⟨cur, (hb.block _ hp).trans h1, h2, h3⟩, h4⟩, h5⟩
theorem PRow.cell {W : World} {pb cp : Nat} {P : List Int} (h : PRow W pb cp P) {j : Nat} (hj : j < P.length) : W.cell? ⟨pb, j, none⟩ = some (.int .i64 (P.getD j 0)) ∧ W.frozen? ⟨pb, j, none⟩ = false ∧ j < cp := by
  obtain ⟨⟨f, h1, h2⟩, h3⟩ := h
  exact ⟨by rw [h1.cell (by omega), h2 j _ (get_of hj)], h1.frozen j, by omega⟩
theorem PRow.set {W : World} {pb cp : Nat} {P : List Int} (h : PRow W pb cp P) {v : Nat} (hv : v < P.length) (x : Int) : PRow (W.setCell ⟨pb, v, none⟩ (.int .i64 x)) pb cp (P.set v x) := by
  obtain ⟨⟨f, h1, h2⟩, h3⟩ := h
  refine ⟨⟨_, h1.set v _, fun j y hy => ?_⟩, by rw [List.length_set]; exact h3⟩
  rw [List.getElem?_set] at hy
  by_cases e : v = j
  · subst e
    rw [if_pos rfl, if_pos hv] at hy
    cases hy
    simp
  · rw [if_neg e] at hy
    simp only [if_neg (fun h : j = v => e h.symm)]
    exact h2 j y hy

/-- What the search keeps. -/
def PathI (w : World) (E : Nat → Nat → Prop) (N s pb cp B : Nat) (v : Value) (D : List Nat) (k : Nat) (P : List Int) (W : World) : Prop :=
  PRow W pb cp P ∧ Bfs E N s D k P ∧ Own W B v (D.map Int.ofNat) ∧ Below w.heap.size w W ∧ B ≤ W.heap.size

theorem work_at {W : World} {B : Nat} {v : Value} {D : List Nat} (h : Own W B v (D.map Int.ofNat)) (hD : 0 < D.length) : ∃ wb cw, v = .slice (some ⟨wb, 0, none⟩) D.length cw ∧ (∀ k, k < D.length → W.cell? ⟨wb, k, none⟩ = some (.int .i64 ((D.getD k 0 : Nat) : Int))) ∧ B ≤ wb ∧ D.length ≤ cw := by
  obtain ⟨ao, wb, cw, hv, h1, -, h3, h4⟩ := orow_cells h
  rw [List.length_map] at hv h1 h3
  obtain ⟨rfl, h5, -⟩ := h3 hD
  refine ⟨wb, cw, hv, fun k hk => ?_, h5, h1⟩
  exact h4 k _ (by rw [List.map_map, List.getElem?_map, get_of (d := 0) hk]; rfl)
theorem own_other {W : World} {B pb o : Nat} {v x : Value} {zs : List Int} (h : Own W B v zs) (hp : pb < B) : Own (W.setCell ⟨pb, o, none⟩ x) B v zs :=
  h.kept (row := some pb) ⟨rfl, rfl, rfl, by simp [World.setCell], fun k _ hk => Below.heap_setCell _ _ _ _ (fun e => hk (by rw [e]))⟩ (fun k e => by cases e; exact .inl hp)

set_option maxRecDepth 100000 in
set_option maxHeartbeats 8000000 in
theorem pathS (tb ct : Nat) (X : List (List Int)) (mb cm : Nat) (M : List (List Bool)) (h q i j : Nat) (raise : Bool) (w : World) (RX : Rect X h q) (RM : Rect M h q) (hr : Tab .i64 w (some ⟨tb, 0, none⟩) tb 0 X) (hm : TabB w (some ⟨mb, 0, none⟩) mb 0 M) (hi : i < h) (hj : j < q) (hh : h ≤ 4) (hq : q ≤ 4) :
    Calls Tryz.prog 186 #[.slice (some ⟨tb, 0, none⟩) h ct, .slice (some ⟨mb, 0, none⟩) h cm, .int .i64 (i : Int), .int .i64 (j : Int), .bool raise] w fun e w' => ∃ pb cp P rank, e = .returned (.slice (some ⟨pb, 0, none⟩) (h + q) cp) ∧ PRow w' pb cp P ∧ Go.FlowMath.Reach (Go.FlowMath.Edge h q i j (flagM M) raise (cellT X)) (h + q) i rank P ∧ w.heap.size ≤ pb ∧ pb < w'.heap.size ∧ Below w.heap.size w w' := by
  obtain ⟨b1, o1, c1, r1, -, r3, r4, r5⟩ := RX.cellI hr (i := 0) (j := 0) (by omega) (by omega)
  have HOP := Lib.hid (fun (u v : Nat) (hu : u < h + q) (hv : v < h + q) (W : World) (hb : Below w.heap.size w W) => openS tb ct X mb cm M h q u v raise W RX RM (hr.keep hb (Nat.le_refl _)) (hm.keep hb (Nat.le_refl _)) hu hv hh hq)
  have HED := Lib.hid (fun (u v : Nat) (hu : u < h + q) (hv : v < h + q) (hne : v ≠ i) => open_edge (X := X) (M := M) (j := j) (raise := raise) hi hu hv hne)
  obtain ⟨E, hE⟩ : ∃ E, Go.FlowMath.Edge h q i j (flagM M) raise (cellT X) = E := ⟨_, rfl⟩
  rw [hE] at HED ⊢
  clear hr hm hE RX RM
  have hii : (i : Int) < (h : Int) := by omega
  have hjj : (j : Int) < (q : Int) := by omega
  have hh0 : (0 : Int) < (h : Int) := by omega
  go_enter Tryz.func186, Tryz.ntmps186
  go_wp2_with fail
  go_loopw [12, 13] (fun v t wr => ∃ k : Nat, k ≤ h + q ∧ t = .int .i64 k ∧ Own wr w.heap.size v (List.replicate k (-1)) ∧ Below w.heap.size w wr) (fun _ t _ => h + q - (intOf t).toNat)
  case atStart => exact ⟨0, Nat.zero_le _, rfl, Own.lit [] (Nat.le_refl _) (by simp), (Below.refl _ _).alloc (Nat.le_refl _) _⟩
  case round =>
    obtain ⟨k, hk, rfl, ho, hb⟩ := hrel
    have HO := Lib.hid ho
    have HB := Lib.hid hb
    have hsw := hb.size
    by_cases hlt : k < h + q
    · have hki : (k : Int) < (h : Int) + (q : Int) := by omega
      have hj9 : Hid ((List.replicate k (-1 : Int)).length ≤ 1000000000) := Lib.hid (by rw [List.length_replicate]; omega)
      have HT : Hid (List.replicate (k + 1) (-1 : Int) = List.replicate k (-1) ++ [-1]) := Lib.hid (by rw [List.replicate_succ'])
      obtain ⟨zs, hzs⟩ : ∃ zs, List.replicate k (-1 : Int) = zs := ⟨_, rfl⟩
      rw [hzs] at HO hj9 HT
      clear ho hb hzs
      go_wp2_with (at_builtin; refine wpList_app eltI rfl (.tmp 31) (.tmp 32) rfl w.heap.size _ _ _ rfl HO.out [.int .i64 (-1)] rfl (by intro u hu; simp at hu; subst hu; rfl) rfl rfl hj9.out hsw ?_)
      intro v' w2 ho2 hb2 _
      have HO2 := Lib.hid (show Own w2 w.heap.size v' (List.replicate (k + 1) (-1)) by
        rw [HT.out]
        unfold Own
        rw [List.length_append, List.length_singleton, List.map_append, List.map_singleton]
        exact ho2)
      have HB2 := Lib.hid (HB.out.trans hb2)
      clear ho2 hb2
      go_wp2_with fail
      go_roundw
      case rel => exact ⟨k + 1, by omega, by go_num, HO2.out, HB2.out⟩
      case measure => simp [intOf]; omega
    · obtain rfl : k = h + q := by omega
      obtain ⟨ao, pb, cp, hv0, -, -, h34, -⟩ := orow_cells ho
      rw [List.length_replicate] at hv0 h34
      obtain ⟨rfl, hpb1, hpb2⟩ := h34 (by omega)
      subst hv0
      have hp0 : PRow wr pb cp (List.replicate (h + q) (-1)) := by
        have ho' := ho
        unfold Own at ho'
        obtain ⟨f, q1, q2, -, q4, -, -⟩ := ownE_rowIs (r := List.replicate (h + q) (-1)) (n := h + q) ho'
        exact ⟨⟨f, q1, q2⟩, q4⟩
      have hil : i < (List.replicate (h + q) (-1 : Int)).length := by rw [List.length_replicate]; omega
      obtain ⟨s1, s2, s3⟩ := hp0.cell hil
      have hp1 := hp0.set hil (i : Int)
      have hB1 := (HB.out.setCell (p := ⟨pb, i, none⟩) hpb1 (.int .i64 (i : Int))).alloc (by simpa [World.setCell] using hsw) (.cells #[.int .i64 (i : Int)] 3)
      have hp2 := hp1.below ((Below.refl wr.heap.size _).alloc (by simp [World.setCell]) (.cells #[.int .i64 (i : Int)] 3)) hpb2
      have hsz1 : (wr.setCell ⟨pb, i, none⟩ (.int .i64 (i : Int))).heap.size = wr.heap.size := by simp [World.setCell]
      have ho1 := Own.lit (w := wr.setCell ⟨pb, i, none⟩ (.int .i64 (i : Int))) (base := wr.heap.size) [(i : Int)] (by rw [hsz1]; exact Nat.le_refl _) (by simp)
      rw [hsz1] at ho1
      have HS := Lib.hid (show PathI w E (h + q) i pb cp wr.heap.size (.slice (some ⟨wr.heap.size, 0, none⟩) 1 1) [i] 0 ((List.replicate (h + q) (-1)).set i (i : Int)) ((wr.setCell ⟨pb, i, none⟩ (.int .i64 (i : Int))).alloc (.cells #[.int .i64 (i : Int)] 3)) from
        ⟨hp2, Bfs.first (by omega), ho1, hB1, by simp [World.setCell]⟩)
      have hki : ¬ ((h : Int) + (q : Int) < (h : Int) + (q : Int)) := by omega
      have hin : (i : Int) < (h : Int) + (q : Int) := by omega
      have hin2 : (i : Int) < ((h + q : Nat) : Int) := by omega
      clear ho hb hp0 hil hp1 hB1 hp2 ho1 h34
      go_wp2_with fail
      clear s1 s2
      obtain ⟨W1, hW1⟩ : ∃ W1, (wr.setCell ⟨pb, i, none⟩ (.int .i64 (i : Int))).alloc (.cells #[.int .i64 (i : Int)] 3) = W1 := ⟨_, rfl⟩
      obtain ⟨B, hBB⟩ : ∃ B, wr.heap.size = B := ⟨_, rfl⟩
      rw [hW1] at HS ⊢
      rw [hBB] at HS hpb2 hsw ⊢
      clear hW1 hBB HO HB hsz1
      go_loopw [14, 15] (fun v t W => ∃ (D : List Nat) (k : Nat) (P : List Int), k ≤ D.length ∧ t = .int .i64 k ∧ PathI w E (h + q) i pb cp B v D k P W) (fun _ t _ => h + q + 1 - (intOf t).toNat)
      case atStart => exact ⟨[i], 0, _, Nat.zero_le _, rfl, HS.out⟩
      case round =>
        obtain ⟨D, k, P, hk, rfl, hpr, hbf, ho, hb, hB⟩ := hrel
        have hDN := hbf.le
        by_cases hlt : k < D.length
        · obtain ⟨wb, cw, rfl, hwc, -, -⟩ := work_at ho (by omega)
          have hu := hbf.lt (D.getD k 0) (by rw [List.getD_eq_getElem?_getD, List.getElem?_eq_getElem hlt]; exact List.getElem_mem _)
          have HI := Lib.hid (show PathI w E (h + q) i pb cp B (.slice (some ⟨wb, 0, none⟩) D.length cw) D k P _ from ⟨hpr, hbf, ho, hb, hB⟩)
          obtain ⟨u, hue⟩ : ∃ u, D.getD k 0 = u := ⟨_, rfl⟩
          rw [hue] at hu
          have HUE := Lib.hid hue
          clear hpr hbf ho hb hB hwc hue
          go_wp2_with fail
          go_loopw [14, 16] (fun v t W => ∃ (D' : List Nat) (z : Nat) (P' : List Int), z ≤ h + q ∧ t = .int .i64 z ∧ k < D'.length ∧ D'.getD k 0 = u ∧ (∀ x, x < z → E u x → x ∈ D') ∧ PathI w E (h + q) i pb cp B v D' k P' W) (fun _ t _ => h + q - (intOf t).toNat)
          case atStart => exact ⟨D, 0, P, Nat.zero_le _, rfl, hlt, HUE.out, fun x hx => absurd hx (Nat.not_lt_zero _), HI.out⟩
          case round =>
            clear HI hDN hlt HUE
            obtain ⟨D, z, P, hz, rfl, hlt, hue, hall, hpr, hbf, ho, hb, hB⟩ := hrel
            have hDN := hbf.le
            obtain ⟨wb, cw, rfl, hwc, hwb, -⟩ := work_at ho (by omega)
            have HI := Lib.hid (show PathI w E (h + q) i pb cp B (.slice (some ⟨wb, 0, none⟩) D.length cw) D k P _ from ⟨hpr, hbf, ho, hb, hB⟩)
            have HALL := Lib.hid hall
            have HUE := Lib.hid hue
            by_cases hzn : z < h + q
            · have hwu := hwc k hlt
              rw [hue] at hwu
              obtain ⟨p1, p2, p3⟩ := hpr.cell (j := z) (by rw [hbf.len]; exact hzn)
              have HNEG := Lib.hid (hbf.neg hzn)
              have hzi : i ∈ D := hbf.mem
              have HMEM := Lib.hid hzi
              have HOPW := Lib.hid (HOP.out u z hu hzn _ hb)
              obtain ⟨y, hy⟩ : ∃ y, P.getD z 0 = y := ⟨_, rfl⟩
              rw [hy] at p1 HNEG
              have hkd : (k : Int) < (D.length : Int) := by omega
              have hzz : (z : Int) < (h : Int) + (q : Int) := by omega
              have hzz2 : (z : Int) < ((h + q : Nat) : Int) := by omega
              have hpbW := World.block_lt_of_cell? _ _ p1
              clear hpr hbf ho hb hB hwc hue hall hzi hy
              by_cases hyy : y < 0
              · have HNM := Lib.hid (HNEG.out.1 hyy)
                have HZI := Lib.hid (show z ≠ i from fun e => HNM.out (by rw [e]; exact HMEM.out))
                by_cases e1 : u = i
                · have f1 : ((u : Int) == (i : Int)) = true := by rw [e1]; simp
                  by_cases e2 : z = h + j
                  · have f2 : ((z : Int) == (h : Int) + (j : Int)) = true := by rw [e2]; simp
                    have HE1 := Lib.hid e1
                    have HE2 := Lib.hid e2
                    clear e1 e2
                    go_wp2_with fail
                    go_roundw
                    case rel =>
                      refine ⟨D, z + 1, P, by omega, by go_num, hlt, HUE.out, fun x hx he => ?_, HI.out⟩
                      by_cases ex : x = z
                      · subst ex
                        exact absurd ⟨HE1.out, HE2.out⟩ ((HED.out u x hu hzn HZI.out).1 he).2
                      · exact HALL.out x (by omega) he
                    case measure => simp [intOf]; omega
                  · have f2 : ((z : Int) == (h : Int) + (j : Int)) = false := by rw [beq_eq_false_iff_ne]; omega
                    have HE := Lib.hid (show ¬ (u = i ∧ z = h + j) from fun e => e2 e.2)
                    clear e1 e2
                    cases hop : openB X M h raise u z with
                    | false =>
                      rw [hop] at HOPW
                      have HOF := Lib.hid hop
                      clear hop
                      go_wp2_with fail
                      refine (HOPW.out).mono ?_
                      rintro e w' ⟨rfl, rfl⟩
                      go_wp2_with fail
                      go_roundw
                      case rel =>
                        refine ⟨D, z + 1, P, by omega, by go_num, hlt, HUE.out, fun x hx he => ?_, HI.out⟩
                        by_cases ex : x = z
                        · subst ex
                          have h9 := ((HED.out u x hu hzn HZI.out).1 he).1
                          rw [HOF.out] at h9
                          cases h9
                        · exact HALL.out x (by omega) he
                      case measure => simp [intOf]; omega
                    | true =>
                      rw [hop] at HOPW
                      have HEE := Lib.hid ((HED.out u z hu hzn HZI.out).2 ⟨hop, HE.out⟩)
                      clear hop
                      obtain ⟨g1, g2, g3, g4, g5⟩ := HI.out
                      have HO1 := Lib.hid (own_other (o := z) (x := .int .i64 (u : Int)) g3 hpb2)
                      have HP1 := Lib.hid (g1.set (v := z) (by rw [g2.len]; exact hzn) (u : Int))
                      have HBB1 := Lib.hid (g4.setCell (p := ⟨pb, z, none⟩) hpb1 (.int .i64 (u : Int)))
                      have HBF := Lib.hid (g2.add hlt hzn HNM.out (by rw [HUE.out]; exact HEE.out))
                      have hsz2 : B ≤ (wr.setCell ⟨pb, z, none⟩ (.int .i64 (u : Int))).heap.size := by simpa [World.setCell] using g5
                      have HSZ2 := Lib.hid hsz2
                      have HSE : Hid (wr.heap.size = (wr.setCell ⟨pb, z, none⟩ (.int .i64 (u : Int))).heap.size) := Lib.hid (by simp [World.setCell])
                      have HDL : Hid ((D.map Int.ofNat).length ≤ 1000000000) := Lib.hid (by rw [List.length_map]; omega)
                      clear g1 g2 g3 g4 g5 hsz2 HI
                      go_wp2_with fail
                      refine (HOPW.out).mono ?_
                      rintro e w' ⟨rfl, rfl⟩
                      go_wp2_with (at_builtin; refine wpList_appH eltI rfl (.tmp 92) (.tmp 94) rfl B _ _ _ rfl HO1.out [.int .i64 (z : Int)] rfl (by intro u hu; simp at hu; subst hu; rfl) rfl wr.heap.size HSE.out rfl HDL.out HSZ2.out ?_)
                      intro v' w2 ho2 hb2 _
                      have HI2 := Lib.hid (show PathI w E (h + q) i pb cp B v' (D ++ [z]) k (P.set z (u : Int)) w2 from ⟨HP1.out.below hb2 hpb2, by have := HBF.out; rw [HUE.out] at this; exact this, (by
                        unfold Own
                        rw [List.map_append, List.length_append, List.map_append, List.map_singleton, List.map_singleton, List.length_singleton, List.length_map, List.map_map]
                        exact ho2), HBB1.out.trans (hb2.mono hsw), Nat.le_trans HSZ2.out hb2.size⟩)
                      clear ho2 hb2
                      go_wp2_with fail
                      go_roundw
                      case rel =>
                        refine ⟨D ++ [z], z + 1, P.set z (u : Int), by omega, by go_num, by simp; omega, ?_, fun x hx he => ?_, HI2.out⟩
                        · rw [List.getD_eq_getElem?_getD, List.getElem?_append_left hlt, ← List.getD_eq_getElem?_getD]; exact HUE.out
                        · rw [List.mem_append]
                          by_cases ex : x = z
                          · right; simp [ex]
                          · left; exact HALL.out x (by omega) he
                      case measure => simp [intOf]; omega
                · have f1 : ((u : Int) == (i : Int)) = false := by rw [beq_eq_false_iff_ne]; omega
                  have HE := Lib.hid (show ¬ (u = i ∧ z = h + j) from fun e => e1 e.1)
                  clear e1
                  cases hop : openB X M h raise u z with
                  | false =>
                    rw [hop] at HOPW
                    have HOF := Lib.hid hop
                    clear hop
                    go_wp2_with fail
                    refine (HOPW.out).mono ?_
                    rintro e w' ⟨rfl, rfl⟩
                    go_wp2_with fail
                    go_roundw
                    case rel =>
                      refine ⟨D, z + 1, P, by omega, by go_num, hlt, HUE.out, fun x hx he => ?_, HI.out⟩
                      by_cases ex : x = z
                      · subst ex
                        have h9 := ((HED.out u x hu hzn HZI.out).1 he).1
                        rw [HOF.out] at h9
                        cases h9
                      · exact HALL.out x (by omega) he
                    case measure => simp [intOf]; omega
                  | true =>
                    rw [hop] at HOPW
                    have HEE := Lib.hid ((HED.out u z hu hzn HZI.out).2 ⟨hop, HE.out⟩)
                    clear hop
                    obtain ⟨g1, g2, g3, g4, g5⟩ := HI.out
                    have HO1 := Lib.hid (own_other (o := z) (x := .int .i64 (u : Int)) g3 hpb2)
                    have HP1 := Lib.hid (g1.set (v := z) (by rw [g2.len]; exact hzn) (u : Int))
                    have HBB1 := Lib.hid (g4.setCell (p := ⟨pb, z, none⟩) hpb1 (.int .i64 (u : Int)))
                    have HBF := Lib.hid (g2.add hlt hzn HNM.out (by rw [HUE.out]; exact HEE.out))
                    have hsz2 : B ≤ (wr.setCell ⟨pb, z, none⟩ (.int .i64 (u : Int))).heap.size := by simpa [World.setCell] using g5
                    have HSZ2 := Lib.hid hsz2
                    have HSE : Hid (wr.heap.size = (wr.setCell ⟨pb, z, none⟩ (.int .i64 (u : Int))).heap.size) := Lib.hid (by simp [World.setCell])
                    have HDL : Hid ((D.map Int.ofNat).length ≤ 1000000000) := Lib.hid (by rw [List.length_map]; omega)
                    clear g1 g2 g3 g4 g5 hsz2 HI
                    go_wp2_with fail
                    refine (HOPW.out).mono ?_
                    rintro e w' ⟨rfl, rfl⟩
                    go_wp2_with (at_builtin; refine wpList_appH eltI rfl (.tmp 92) (.tmp 94) rfl B _ _ _ rfl HO1.out [.int .i64 (z : Int)] rfl (by intro u hu; simp at hu; subst hu; rfl) rfl wr.heap.size HSE.out rfl HDL.out HSZ2.out ?_)
                    intro v' w2 ho2 hb2 _
                    have HI2 := Lib.hid (show PathI w E (h + q) i pb cp B v' (D ++ [z]) k (P.set z (u : Int)) w2 from ⟨HP1.out.below hb2 hpb2, by have := HBF.out; rw [HUE.out] at this; exact this, (by
                      unfold Own
                      rw [List.map_append, List.length_append, List.map_append, List.map_singleton, List.map_singleton, List.length_singleton, List.length_map, List.map_map]
                      exact ho2), HBB1.out.trans (hb2.mono hsw), Nat.le_trans HSZ2.out hb2.size⟩)
                    clear ho2 hb2
                    go_wp2_with fail
                    go_roundw
                    case rel =>
                      refine ⟨D ++ [z], z + 1, P.set z (u : Int), by omega, by go_num, by simp; omega, ?_, fun x hx he => ?_, HI2.out⟩
                      · rw [List.getD_eq_getElem?_getD, List.getElem?_append_left hlt, ← List.getD_eq_getElem?_getD]; exact HUE.out
                      · rw [List.mem_append]
                        by_cases ex : x = z
                        · right; simp [ex]
                        · left; exact HALL.out x (by omega) he
                    case measure => simp [intOf]; omega
              · have HM := Lib.hid (show z ∈ D from Classical.not_not.1 fun e => hyy (HNEG.out.2 e))
                have hyy' : 0 ≤ y := by omega
                by_cases e1 : u = i
                · have f1 : ((u : Int) == (i : Int)) = true := by rw [e1]; simp
                  by_cases e2 : z = h + j
                  · have f2 : ((z : Int) == (h : Int) + (j : Int)) = true := by rw [e2]; simp
                    clear e1 e2
                    go_wp2_with fail
                    go_roundw
                    case rel =>
                      refine ⟨D, z + 1, P, by omega, by go_num, hlt, HUE.out, fun x hx he => ?_, HI.out⟩
                      by_cases ex : x = z
                      · rw [ex]; exact HM.out
                      · exact HALL.out x (by omega) he
                    case measure => simp [intOf]; omega
                  · have f2 : ((z : Int) == (h : Int) + (j : Int)) = false := by rw [beq_eq_false_iff_ne]; omega
                    clear e1 e2
                    go_wp2_with fail
                    go_roundw
                    case rel =>
                      refine ⟨D, z + 1, P, by omega, by go_num, hlt, HUE.out, fun x hx he => ?_, HI.out⟩
                      by_cases ex : x = z
                      · rw [ex]; exact HM.out
                      · exact HALL.out x (by omega) he
                    case measure => simp [intOf]; omega
                · have f1 : ((u : Int) == (i : Int)) = false := by rw [beq_eq_false_iff_ne]; omega
                  clear e1
                  go_wp2_with fail
                  go_roundw
                  case rel =>
                    refine ⟨D, z + 1, P, by omega, by go_num, hlt, HUE.out, fun x hx he => ?_, HI.out⟩
                    by_cases ex : x = z
                    · rw [ex]; exact HM.out
                    · exact HALL.out x (by omega) he
                  case measure => simp [intOf]; omega
            · obtain rfl : z = h + q := by omega
              have hzz : ¬ ((h : Int) + (q : Int) < (h : Int) + (q : Int)) := by omega
              clear hpr hbf ho hb hB hwc hue hall
              go_wp2_with fail
              go_roundw
              case rel =>
                obtain ⟨g1, g2, g3, g4, g5⟩ := HI.out
                refine ⟨D, k + 1, P, by omega, by go_num, g1, g2.next (fun v hv he => ?_), g3, g4, g5⟩
                rw [HUE.out] at he
                exact HALL.out v hv he
              case measure => simp [intOf]; omega
        · have hke : k = D.length := by omega
          obtain ⟨wb, cw, rfl, -, -, -⟩ := work_at ho (List.length_pos_of_mem hbf.mem)
          have hpl := World.block_lt_of_cell? _ _ (hpr.cell (j := 0) (by rw [hbf.len]; omega)).1
          have HF := Lib.hid (show PRow _ pb cp P ∧ Go.FlowMath.Reach E (h + q) i D.idxOf P ∧ w.heap.size ≤ pb ∧ pb < _ ∧ Below w.heap.size w _ from ⟨hpr, hbf.reach (by omega), hpb1, hpl, hb⟩)
          clear hpr hbf ho hb hB hpl
          go_wp2_with fail
          go_ret
          exact ⟨pb, cp, P, _, rfl, HF.out⟩
end Go.Proofs.YtlmlchkolcmhpaaGreatDoor
