/-
  Contract: impl.reach.
-/
import Derived.Test.YtcjhenfofekofaaGreatDoorYRep
import Derived.Test.YtcjhenfofekofaaGreatDoorYFlow2
import Derived.Test.YtcjhenfofekofaaGreatDoorJ3
import Derived.Test.YtcjhenfofekofaaGreatDoorJ1
import Derived.ArgAppend
import Derived.Deep.LoopGhost
import Derived.IntWalk
namespace Go.Proofs.YtcjhenfofekofaaGreatDoor
open Go.RowKit
open Go.FlowMath (Bfs)

/-- The rooms in a table. -/
def roomR (R : List (List Int)) (u v : Nat) : Int := (R.getD u []).getD v 0
/-- A queue: a slice of the call's own, somewhere in its block. -/
def Que (w : World) (base fb : Nat) (v : Value) (q : List Nat) : Prop :=
  ∃ b off cap, v = .slice (some ⟨b, off, none⟩) q.length cap ∧ base ≤ b ∧ b ≠ fb ∧ b < w.heap.size ∧ q.length ≤ cap ∧ cap ≤ 9223372036854775807 ∧ (∀ j, j < cap → (w.cell? ⟨b, off + j, none⟩).isSome = true ∧ w.frozen? ⟨b, off + j, none⟩ = false) ∧
    ∀ j, j < q.length → w.cell? ⟨b, off + j, none⟩ = some (.int .i64 ((q.getD j 0 : Nat) : Int))
theorem Que.other {w : World} {base fb o : Nat} {v : Value} {q : List Nat} (h : Que w base fb v q) (u : Value) : Que (w.setCell ⟨fb, o, none⟩ u) base fb v q := by
  obtain ⟨b, off, cap, h1, h2, h3, h4, h5, h6, h7, h8⟩ := h
  have hb := Below.heap_setCell w ⟨fb, o, none⟩ u b h3
  refine ⟨b, off, cap, h1, h2, h3, by rw [World.size_setCell]; exact h4, h5, h6, fun j hj => ?_, fun j hj => (World.cell?_of_block hb).trans (h8 j hj)⟩
  rw [World.cell?_of_block (w := w) (w' := w.setCell ⟨fb, o, none⟩ u) hb, World.frozen?_of_block (w := w) (w' := w.setCell ⟨fb, o, none⟩ u) hb]
  exact h7 j hj
/-- The first one taken off. -/
theorem Que.pop {w : World} {base fb b off cap : Nat} {q : List Nat} (h : Que w base fb (.slice (some ⟨b, off, none⟩) q.length cap) q) (h0 : 0 < q.length) (A : Addr) (hA : (if cap = 1 then (some ⟨b, off, none⟩ : Option Addr) else some ⟨b, off + 1, none⟩) = some A) : Que w base fb (.slice (some A) (q.length - 1) (cap - 1)) (q.drop 1) := by
  obtain ⟨b', off', cap', h1, h2, h3, h4, h5, h6, h7, h8⟩ := h
  injection h1 with e1 e2 e3
  injection e1 with e1
  injection e1 with e1 e4 _
  subst e1 e4 e3
  have hl : (q.drop 1).length = q.length - 1 := List.length_drop
  by_cases hc : cap = 1
  · rw [if_pos hc] at hA
    obtain rfl := Option.some.inj hA
    exact ⟨b, off, cap - 1, by rw [hl], h2, h3, h4, by omega, by omega, fun j hj => absurd hj (by omega), fun j hj => absurd hj (by omega)⟩
  · rw [if_neg hc] at hA
    obtain rfl := Option.some.inj hA
    refine ⟨b, off + 1, cap - 1, by rw [hl], h2, h3, h4, by omega, by omega, fun j hj => ?_, fun j hj => ?_⟩
    · rw [Nat.add_assoc, Nat.add_comm 1 j]; exact h7 (j + 1) (by omega)
    · rw [Nat.add_assoc, Nat.add_comm 1 j, h8 (j + 1) (by omega)]
      simp [List.getD_eq_getElem?_getD, Nat.add_comm]
/-- One more, within the room. -/
theorem Que.room {w : World} {base fb b off cap : Nat} {q : List Nat} (h : Que w base fb (.slice (some ⟨b, off, none⟩) q.length cap) q) (hr : q.length + 1 ≤ cap) (x : Nat) : Que (w.setCells b (off + q.length * 1) [.int .i64 (x : Int)]) base fb (.slice (some ⟨b, off, none⟩) (q.length + 1) cap) (q ++ [x]) := by
  obtain ⟨b', off', cap', h1, h2, h3, h4, h5, h6, h7, h8⟩ := h
  injection h1 with e1 e2 e3
  injection e1 with e1
  injection e1 with e1 e4 _
  subst e1 e4 e3
  rw [Nat.mul_one]
  show Que (w.setCell ⟨b, off + q.length, none⟩ (.int .i64 (x : Int))) _ _ _ _
  have hs := h7 q.length (by omega)
  refine ⟨b, off, cap, by rw [List.length_append]; rfl, h2, h3, by rw [World.size_setCell]; exact h4, by rw [List.length_append]; exact hr, h6, fun j hj => ?_, fun j hj => ?_⟩
  · have hj := h7 j hj
    refine ⟨?_, by rw [World.frozen?_setCell]; exact hj.2⟩
    by_cases e : j = q.length
    · subst e
      rw [World.cell?_setCell_same' _ _ _ hs.1]; rfl
    · rw [World.cell?_setCell_other _ _ _ _ (fun e' => e (by have := congrArg Addr.off e'; simp at this; omega))]; exact hj.1
  · rw [List.length_append, List.length_singleton] at hj
    by_cases e : j = q.length
    · subst e
      rw [World.cell?_setCell_same' _ _ _ hs.1]
      simp [List.getD_eq_getElem?_getD]
    · rw [World.cell?_setCell_other _ _ _ _ (fun e' => e (by have := congrArg Addr.off e'; simp at this; omega)), h8 j (by omega)]
      simp only [List.getD_eq_getElem?_getD]
      rw [List.getElem?_append_left (by omega)]
/-- One more, in a new block. -/
theorem Que.grow {w : World} {base fb B : Nat} {v : Value} {q : List Nat} {x : Nat} (h : w.ownsRow B 3 1 v (q.length + 1) ((q.map fun (n : Nat) => Value.int .i64 (n : Int)) ++ [.int .i64 (x : Int)])) (hB : base ≤ B) (hf : fb < B) : Que w base fb v (q ++ [x]) := by
  have hcl := fun (g n c : Nat) (e : v = .slice (some ⟨g, 0, none⟩) n c) => World.ownsRow.cells (g := g) h (by rw [e]; rfl)
  rcases h.2 with ⟨h0, h1⟩ | ⟨g, cap, cur, hv, hg, hh, h1, h2, h3, h4⟩
  · omega
  · subst hv
    have hc := hcl g _ cap rfl
    refine ⟨g, 0, cap, by rw [List.length_append]; rfl, by omega, by omega, (Array.getElem?_eq_some_iff.1 hh).1, by rw [List.length_append]; exact h1, h2, fun j hj => ?_, fun j hj => ?_⟩
    · rw [Nat.zero_add]
      have : j < cur.size := by omega
      exact ⟨by simp [World.cell?, hh, this], by simp [World.frozen?, hh]⟩
    · rw [List.length_append, List.length_singleton] at hj
      have := hc j (.int .i64 (((q ++ [x]).getD j 0 : Nat) : Int)) (by
        have e : (q.map fun (n : Nat) => Value.int .i64 (n : Int)) ++ [.int .i64 (x : Int)] = (q ++ [x]).map fun (n : Nat) => Value.int .i64 (n : Int) := by simp
        rw [e, List.getElem?_map, List.getElem?_eq_getElem (by simp; omega), List.getD_eq_getElem?_getD, List.getElem?_eq_getElem (by simp; omega)]
        rfl)
      rw [add_none] at this
      exact this
theorem own_of_block {w w' : World} {base fb n cap size m : Nat} {e : TypeId} {cs : List Value} (h : w.ownsRow base e size (.slice (some ⟨fb, 0, none⟩) n cap) m cs) (hb : w'.heap[fb]? = w.heap[fb]?) : w'.ownsRow base e size (.slice (some ⟨fb, 0, none⟩) n cap) m cs := by
  refine ⟨h.1, ?_⟩
  rcases h.2 with ⟨h0, _⟩ | ⟨g2, cap2, cur2, hv2, hb2, hh2, r⟩
  · cases h0
  · have e1 := hv2
    injection e1 with e1 _ _
    injection e1 with e1
    injection e1 with e1 _ _
    subst e1
    exact .inr ⟨fb, cap2, cur2, hv2, hb2, by rw [hb]; exact hh2, r⟩
/-- append to a queue. -/
theorem wpList_que {ops : Array Oper} {rest : List Oper} {o : Oper} {a : Act} {Q : Exit → Act → World → Prop} {w0 : World} {ob : Obj} (hg : o.guard = none) (s x : Operand)
    (ho : o.op = .call { callee := .builtin .append, args := #[s, x], argTypes := #[50, 50] }) (base fb : Nat) (v : Value) (q : List Nat) (hs : a.eval s = v) (hq : Que w0 base fb v q)
    (z : Nat) (hob : ob = .cells #[.int .i64 (z : Int)] 3) (H : Nat) (hH : H = w0.heap.size) (hx : a.eval x = .slice (some ⟨H, 0, none⟩) 1 1) (hl : q.length ≤ 1000) (hbase : base ≤ w0.heap.size) (hf : fb < w0.heap.size)
    (h : ∀ v' w', Que w' base fb v' (q ++ [z]) → Below base w0 w' → w'.heap[fb]? = w0.heap[fb]? → wpList Tryz.prog ops Q rest (a.put o.dst v') w') : wpList Tryz.prog ops Q (o :: rest) a (w0.alloc ob) := by
  subst hob hH
  obtain ⟨b, off, cap, rfl, h2, h3, h4, h5, h6, h7, h8⟩ := hq
  obtain ⟨i0, hi, hz0, hz1, hz2⟩ := info_parts Tryz.info3
  have hal := (Below.refl w0.heap.size w0).alloc (Nat.le_refl _) (.cells #[.int .i64 (z : Int)] 3)
  have hQA : Que (w0.alloc (.cells #[.int .i64 (z : Int)] 3)) base fb (.slice (some ⟨b, off, none⟩) q.length cap) q :=
    ⟨b, off, cap, rfl, h2, h3, by simp; omega, h5, h6, fun j hj => by rw [hal.cell (p := ⟨b, off + j, none⟩) h4, hal.frozen (p := ⟨b, off + j, none⟩) h4]; exact h7 j hj, fun j hj => (hal.cell (p := ⟨b, off + j, none⟩) h4).trans (h8 j hj)⟩
  refine wpList_append_arg _ hg s x 50 ho 3 i0 (.int .i64 0) 1 8 Tryz.underlying50 hi hz0 hz1 hz2 rfl (by decide) b off q.length cap (q.map fun (n : Nat) => Value.int .i64 (n : Int)) hs (by simp) (fun j u hu => ?_) ⟨w0.heap.size, 0, none⟩ 1 1 [.int .i64 (z : Int)] hx rfl (fun j u hu => ?_) (by intro u hu; simp at hu; subst hu; rfl) (fun hr j hj => ?_) (by unfold maxLen; omega) (by omega) (fun hr => ?_) (fun hr v' w' hO hG => ?_)
  · rw [List.getElem?_map, Option.map_eq_some_iff] at hu
    obtain ⟨n, hn, rfl⟩ := hu
    obtain ⟨hj, hn⟩ := List.getElem?_eq_some_iff.1 hn
    have := (hal.cell (p := ⟨b, off + j, none⟩) h4).trans (h8 j hj)
    rw [List.getD_eq_getElem?_getD, List.getElem?_eq_getElem hj, Option.getD_some, hn] at this
    exact this
  · match j, hu with
    | 0, hu =>
      simp at hu
      subst hu
      rw [Addr.add_lit, World.cell?_alloc_new]
      rfl
  · obtain rfl : j = 0 := by simp at hj; omega
    rw [Nat.mul_one, Nat.add_zero, hal.cell (p := ⟨b, off + q.length, none⟩) h4, hal.frozen (p := ⟨b, off + q.length, none⟩) h4]
    exact h7 q.length (by omega)
  · refine h _ _ (hQA.room hr z) ?_ ?_
    · rw [Nat.mul_one]
      exact ((Below.refl base w0).alloc hbase _).setCell (p := ⟨b, off + q.length, none⟩) h2 _
    · rw [Nat.mul_one]
      exact (Below.heap_setCell _ ⟨b, off + q.length, none⟩ _ fb (fun e => h3 e.symm)).trans (hal.block fb hf)
  · have hs1 : (w0.alloc (.cells #[.int .i64 (z : Int)] 3)).heap.size = w0.heap.size + 1 := by simp
    refine h _ _ (Que.grow hO (by omega) (by omega)) ?_ ?_
    · exact ((Below.refl base w0).alloc hbase _).trans ⟨hG.os, hG.tape, hG.output, hG.size, fun k hk => hG.block k (by omega) (fun e => by cases e)⟩
    · exact (hG.block fb (by omega) (fun e => by cases e)).trans (hal.block fb hf)
theorem Own.set {w : World} {base fb n cap i : Nat} {P : List Int} (h : Own w base (.slice (some ⟨fb, 0, none⟩) n cap) P) (x : Int) : Own (w.setCell ⟨fb, i, none⟩ (.int .i64 x)) base (.slice (some ⟨fb, 0, none⟩) n cap) (P.set i x) := by
  unfold Own at h ⊢
  rw [List.length_set, List.map_set]
  exact orow_set h
theorem Own.cell {w : World} {base fb n cap i : Nat} {P : List Int} (h : Own w base (.slice (some ⟨fb, 0, none⟩) n cap) P) (hi : i < P.length) : w.cell? ⟨fb, i, none⟩ = some (.int .i64 (P.getD i 0)) ∧ w.frozen? ⟨fb, i, none⟩ = false ∧ base ≤ fb ∧ fb < w.heap.size := by
  have hh := h
  unfold Own at hh
  refine ⟨?_, ?_, ?_⟩
  · have := World.ownsRow.cells (g := fb) hh rfl i (.int .i64 (P.getD i 0)) (by rw [List.getElem?_map, List.getElem?_eq_getElem hi, List.getD_eq_getElem?_getD, List.getElem?_eq_getElem hi]; rfl)
    rw [add_none, Nat.zero_add] at this
    exact this
  · rcases hh.2 with ⟨h0, _⟩ | ⟨g2, cap2, cur2, hv2, hb2, hh2, hn2, hm2, hs2, _⟩
    · cases h0
    · injection hv2 with e1 e2 e3
      injection e1 with e1
      injection e1 with e1 _ _
      subst e1
      simp [World.frozen?, hh2]
  · rcases hh.2 with ⟨h0, _⟩ | ⟨g2, cap2, cur2, hv2, hb2, hh2, hn2, hm2, hs2, _⟩
    · cases h0
    · injection hv2 with e1 e2 e3
      injection e1 with e1
      injection e1 with e1 _ _
      subst e1
      exact ⟨hb2, (Array.getElem?_eq_some_iff.1 hh2).1⟩

/-- The search under way. -/
def RchS (R : List (List Int)) (N s : Nat) (w0 : World) (base fb cF k : Nat) (D : List Nat) (P : List Int) (v : Value) (wr : World) : Prop :=
  Bfs (fun u v => 0 < roomR R u v) N s D k P ∧ k ≤ D.length ∧ Own wr base (.slice (some ⟨fb, 0, none⟩) N cF) P ∧ Que wr base fb v (D.drop k) ∧ Below base w0 wr
theorem que_len {w : World} {base fb : Nat} {v : Value} {q : List Nat} (h : Que w base fb v q) : ∃ b off cap, v = .slice (some ⟨b, off, none⟩) q.length cap := by
  obtain ⟨b, off, cap, h1, -⟩ := h
  exact ⟨b, off, cap, h1⟩

set_option maxRecDepth 100000 in
set_option maxHeartbeats 4000000 in
theorem reachI (ao : Option Addr) (b cap : Nat) (R : List (List Int)) (N s : Nat) (w : World) (hr : Tab .i64 w ao b 0 R) (hl : R.length = N) (hrow : ∀ i, i < N → (R.getD i []).length = N) (hN : N ≤ 8) (hs : s < N) :
    Calls Tryz.prog 135 #[.slice ao N cap, .int .i64 (s : Int)] w fun e w' => ∃ v P rank, e = .returned v ∧ Own w' w.heap.size v P ∧ P.length = N ∧ Go.FlowMath.Reach (fun u v => 0 < roomR R u v) N s rank P ∧ Below w.heap.size w w' := by
  have HR := Lib.hid hr
  have HL := Lib.hid hl
  have HROW := Lib.hid hrow
  obtain rfl := hr.1 (by omega)
  have hb1 := (Below.refl w.heap.size w).alloc (Nat.le_refl _) (.cells #[.int .i64 (-1)] 3)
  have HREP := Lib.hid (repI w.heap.size N (w.alloc (.cells #[.int .i64 (-1)] 3)) (by rw [World.cell?_alloc_new]; rfl) (by omega) (by omega))
  have HB1 := Lib.hid hb1
  clear hr hl hrow hb1
  go_enter Tryz.func135, Tryz.ntmps135
  go_wp2_with fail
  refine (HREP.out).mono ?_
  rintro e w1 ⟨v1, rfl, ho1, hb1⟩
  have HB2 := Lib.hid (HB1.out.trans (hb1.mono HB1.out.size))
  have ho2 := ho1.mono (base' := w.heap.size) HB1.out.size
  obtain ⟨aF, fb, cF, rfl, hc1, hc2, hrF, hlowF, -⟩ := ho2.row
  rw [List.length_replicate] at hc1 hlowF
  obtain rfl := hrF.1 (by rw [List.length_replicate]; omega)
  rw [List.length_replicate]
  rw [List.length_replicate] at ho2
  have hcs := ho2.cell (i := s) (by rw [List.length_replicate]; exact hs)
  obtain ⟨hcs1, hcs2, hcs3, hcs4⟩ := hcs
  have hsi : (s : Int) < (N : Int) := by omega
  have HO3 := Lib.hid (ho2.set (i := s) (s : Int))
  clear ho1 hb1 hrF hlowF ho2 HREP
  go_wp2_with fail
  have HB4 := Lib.hid ((HB2.out.setCell (p := ⟨fb, s, none⟩) hcs3 (.int .i64 (s : Int))).alloc (by rw [World.size_setCell]; exact HB2.out.size) (.cells #[.int .i64 (s : Int)] 3))
  have HO4 := Lib.hid (HO3.out.alloc (.cells #[.int .i64 (s : Int)] 3))
  have HQ4 : Hid (Que ((w1.setCell ⟨fb, s, none⟩ (.int .i64 (s : Int))).alloc (.cells #[.int .i64 (s : Int)] 3)) w.heap.size fb (.slice (some ⟨w1.heap.size, 0, none⟩) 1 1) [s]) := Lib.hid (by
    have hsz : (w1.setCell ⟨fb, s, none⟩ (.int .i64 (s : Int))).heap.size = w1.heap.size := World.size_setCell _ _ _
    have h1 := World.cell?_alloc_new (w1.setCell ⟨fb, s, none⟩ (.int .i64 (s : Int))) #[.int .i64 (s : Int)] 3
    rw [hsz] at h1
    refine ⟨w1.heap.size, 0, 1, rfl, HB2.out.size, by omega, by rw [World.size_alloc, hsz]; omega, Nat.le_refl _, by omega, fun j hj => ?_, fun j hj => ?_⟩
    · obtain rfl : j = 0 := by omega
      refine ⟨by rw [h1]; rfl, ?_⟩
      have h2 := heap_alloc_new (w1.setCell ⟨fb, s, none⟩ (.int .i64 (s : Int))) (.cells #[.int .i64 (s : Int)] 3)
      rw [hsz] at h2
      unfold World.frozen?
      simp only
      rw [h2]
      rfl
    · obtain rfl : j = 0 := by simp at hj; omega
      rw [h1]; rfl)
  have HBF := Lib.hid (Bfs.first (E := fun u v => 0 < roomR R u v) hs)
  obtain ⟨w4, hw4⟩ : ∃ w4, (w1.setCell ⟨fb, s, none⟩ (.int .i64 (s : Int))).alloc (.cells #[.int .i64 (s : Int)] 3) = w4 := ⟨_, rfl⟩
  rw [hw4] at HB4 HO4 HQ4 ⊢
  have HST := Lib.hid (show RchS R N s w w.heap.size fb cF 0 [s] ((List.replicate N (-1)).set s (s : Int)) (.slice (some ⟨w1.heap.size, 0, none⟩) 1 1) w4 from ⟨HBF.out, Nat.zero_le _, HO4.out, HQ4.out, HB4.out⟩)
  clear hw4 HB4 HO4 HQ4 HBF HO3 hcs1 hcs2 hcs4
  go_loopg [6] N (fun g v wr => ∃ (k : Nat) (D : List Nat) (P : List Int), g + k = N ∧ RchS R N s w w.heap.size fb cF k D P v wr)
  case atStart => exact ⟨0, _, _, rfl, HST.out⟩
  case round =>
    clear HST
    obtain ⟨k, D, P, hg, hbf, hk, ho, hq, hb⟩ := hrel
    obtain ⟨G, hG⟩ : ∃ G, G = gk := ⟨_, rfl⟩
    have HGK := Lib.hid hG
    have HG := Lib.hid hg
    clear hG
    have hDN := hbf.le
    have HBF := Lib.hid hbf
    have HO := Lib.hid ho
    have HB := Lib.hid hb
    have HQ := Lib.hid hq
    obtain ⟨qb, qo, qc, rfl⟩ := que_len hq
    have hql : (D.drop k).length = D.length - k := List.length_drop
    rw [hql] at HQ ⊢
    by_cases hkd : k < D.length
    · obtain ⟨u, hu⟩ : ∃ u, D.getD k 0 = u := ⟨_, rfl⟩
      have huN : u < N := by
        rw [← hu, List.getD_eq_getElem?_getD, List.getElem?_eq_getElem hkd]
        exact hbf.lt _ (List.getElem_mem hkd)
      have hd0 : (D.drop k).getD 0 0 = u := by rw [← hu]; simp [List.getD_eq_getElem?_getD]
      obtain ⟨_, _, _, e0, hqB, -, hql2, hqcap, -, hqs, hqv⟩ := hq
      injection e0 with e1 e2 e3
      injection e1 with e1
      injection e1 with e1 e4 _
      subst e1 e4 e3
      have hq0 := hqv 0 (by omega)
      rw [hd0, Nat.add_zero] at hq0
      obtain ⟨ra, rb, ro, rc, hrw, hre, hrc, -⟩ := (HR.out.keep hb (Nat.le_refl _)).2 u (by rw [HL.out]; exact huN)
      have hru := HROW.out u huN
      rw [Nat.zero_add, hru] at hrw
      rw [hru] at hrc
      obtain rfl := hre.1 (by omega)
      have hrw0 : w.cell? ⟨b, u, none⟩ = some (.slice (some ⟨rb, ro, none⟩) N rc) := by
        obtain ⟨_, _, _, _, h1, -, -, -⟩ := HR.out.2 u (by rw [HL.out]; exact huN)
        have h2 := World.block_lt_of_cell? _ _ h1
        rw [Nat.zero_add] at h1
        rw [← hb.cell (p := ⟨b, u, none⟩) h2]; exact hrw
      have HRE : Hid (Row .i64 w (some ⟨rb, ro, none⟩) rb ro (R.getD u [])) := Lib.hid (by
        obtain ⟨_, _, _, _, h1, h2, -, -⟩ := HR.out.2 u (by rw [HL.out]; exact huN)
        rw [Nat.zero_add, hrw0] at h1
        injection h1 with h1
        injection h1 with e1 _ _
        subst e1
        have := h2.1 (by omega)
        injection this with this
        injection this with e1 e2 _
        subst e1 e2
        exact h2)
      have hui : (u : Int) < (N : Int) := by omega
      have hDk : 0 < D.length - k := by omega
      have HU := Lib.hid hu
      have HRU := Lib.hid hru
      have HST := Lib.hid (show RchS R N s w w.heap.size fb cF k D P (.slice (some ⟨qb, qo, none⟩) (D.length - k) qc) wr from ⟨HBF.out, hk, HO.out, HQ.out, HB.out⟩)
      clear hbf ho hb hqs hqv hd0 hu hrw0 hre hru hql e2 HBF HO HQ HB
      go_wp2_with fail
      go_loopg [6, 31] N (fun g' v i wr => ∃ (j : Nat) (D : List Nat) (P : List Int), g' + j = N ∧ i = .int .i64 j ∧ RchS R N s w w.heap.size fb cF k D P v wr ∧ k < D.length ∧ D.getD k 0 = u ∧ ∀ v', v' < j → 0 < roomR R u v' → v' ∈ D)
      case atStart => exact ⟨0, D, P, rfl, rfl, HST.out, hkd, HU.out, fun v' h => absurd h (Nat.not_lt_zero _)⟩
      case round =>
        clear HST HU hq0 hrw hqB hql2 hqcap hkd hDk hk hDN
        obtain ⟨j, D, P, hg2, rfl, ⟨hbf, hk, ho, hq, hb⟩, hkd, hu, hall⟩ := hrel
        have hDN := hbf.le
        have HBF := Lib.hid hbf
        have HO := Lib.hid ho
        have HB := Lib.hid hb
        have HQ := Lib.hid hq
        have HU := Lib.hid hu
        have HALL := Lib.hid hall
        obtain ⟨qb, qo, qc, rfl⟩ := que_len hq
        have hql : (D.drop k).length = D.length - k := List.length_drop
        have hsw := hb.size
        by_cases hjN : j < N
        · have hji : (j : Int) < (N : Int) := by omega
          have hjl : j < (R.getD u []).length := by rw [HRU.out]; exact hjN
          have hel := (HRE.out.keep hb (Nat.le_refl _)).2 j hjl
          obtain ⟨x, hx⟩ : ∃ x, (R.getD u []).getD j 0 = x := ⟨_, rfl⟩
          rw [hx] at hel
          have HXE := Lib.hid (show roomR R u j = x from hx)
          obtain ⟨f1, f2, f3, f4⟩ := ho.cell (i := j) (by rw [hbf.len]; exact hjN)
          obtain ⟨y, hy⟩ : ∃ y, P.getD j 0 = y := ⟨_, rfl⟩
          rw [hy] at f1
          have HNEG := Lib.hid (hbf.neg (v := j) hjN)
          rw [hy] at HNEG
          rw [hql] at HQ ⊢
          clear hx hy hu hall
          by_cases hx0 : 0 < x
          · by_cases hy0 : y < 0
            · have hnm := HNEG.out.1 hy0
              have hE : 0 < roomR R (D.getD k 0) j := by rw [HU.out, HXE.out]; exact hx0
              have HADD := Lib.hid (hbf.add hkd hjN hnm hE)
              rw [HU.out] at HADD
              have hd0 : (D.drop k).getD 0 0 = u := by rw [← HU.out]; simp [List.getD_eq_getElem?_getD]
              obtain ⟨_, _, _, e0, hqB, hqf, hqlt, hqcap, hqc2, hqs, hqv⟩ := hq
              injection e0 with e1 e2 e3
              injection e1 with e1
              injection e1 with e1 e4 _
              subst e1 e4 e3
              have hq0 := hqv 0 (by omega)
              rw [hd0, Nat.add_zero] at hq0
              have hDk : 0 < D.length - k := by omega
              have hDki : (0 : Int) < ((D.length - k : Nat) : Int) := by omega
              have HO2 := Lib.hid (ho.set (i := j) (u : Int))
              have HQ2 := Lib.hid (HQ.out.other (o := j) (.int .i64 (u : Int)))
              have HB2 := Lib.hid (hb.setCell (p := ⟨fb, j, none⟩) f3 (.int .i64 (u : Int)))
              obtain ⟨n, hn⟩ : ∃ n, D.length - k = n := ⟨_, rfl⟩
              have HDL := Lib.hid (show (D.drop k).length = n by rw [hql, hn])
              rw [hql] at hqcap
              rw [hn] at HQ2 hqcap hDk hDki ⊢
              have hn8 : n ≤ 8 := by omega
              have HDA := Lib.hid (show (D ++ [j]).drop k = D.drop k ++ [j] by rw [List.drop_append_of_le_length (by omega)])
              have HUA := Lib.hid (show (D ++ [j]).getD k 0 = u by rw [← HU.out]; simp only [List.getD_eq_getElem?_getD]; rw [List.getElem?_append_left (by omega)])
              have HKA := Lib.hid (show k ≤ (D ++ [j]).length ∧ k < (D ++ [j]).length by rw [List.length_append]; omega)
              clear hbf ho hb hqs hqv hql hn HO HQ HB e2 hnm hE
              obtain ⟨wb, hwb⟩ : ∃ wb, wr.setCell ⟨fb, j, none⟩ (.int .i64 (u : Int)) = wb := ⟨_, rfl⟩
              have hsz : wr.heap.size = wb.heap.size := by rw [← hwb]; exact (World.size_setCell _ _ _).symm
              rw [hwb] at HO2 HQ2 HB2
              have hqr : (D.drop k).length ≤ 1000 := by rw [HDL.out]; omega
              have HQR := Lib.hid hqr
              have hbw := HB2.out.size
              have hfw : fb < wb.heap.size := by omega
              have HSZ := Lib.hid hsz
              clear hqr hsz
              go_wp2_with (at_builtin; refine wpList_que rfl (.tmp 51) (.tmp 53) rfl w.heap.size fb _ (D.drop k) rfl HQ2.out j rfl _ (by first | rfl | exact HSZ.out) rfl HQR.out hbw hfw ?_)
              intro v' w9 hq9 hb9 hf9
              have hO9 : Own w9 w.heap.size (.slice (some ⟨fb, 0, none⟩) N cF) (P.set j (u : Int)) := own_of_block HO2.out (by first | exact hf9 | exact hf9.trans (Array.getElem?_eq_getElem _).symm)
              have HST := Lib.hid (show RchS R N s w w.heap.size fb cF k (D ++ [j]) (P.set j (u : Int)) v' w9 from ⟨HADD.out, HKA.out.1, hO9, by rw [HDA.out]; exact hq9, HB2.out.trans hb9⟩)
              obtain ⟨b9, o9, c9, rfl⟩ := que_len hq9
              clear hq9 hb9 hf9 hO9 hwb HQ2 HO2
              go_wp2_with fail
              go_roundg (gk - 1)
              case measure => omega
              case rel =>
                refine ⟨j + 1, D ++ [j], _, by omega, by go_num, HST.out, HKA.out.2, HUA.out, fun v' hv' he => ?_⟩
                by_cases e : v' = j
                · subst e; simp
                · exact List.mem_append_left _ (HALL.out v' (by omega) he)
            · have hmem : j ∈ D := Classical.byContradiction fun h => hy0 (HNEG.out.2 h)
              have HMEM := Lib.hid hmem
              have hy0i : ¬ y < 0 := hy0
              clear hbf ho hb hq hql hmem
              go_wp2_with fail
              go_roundg (gk - 1)
              case measure => omega
              case rel =>
                refine ⟨j + 1, D, P, by omega, by go_num, ⟨HBF.out, hk, HO.out, HQ.out, HB.out⟩, hkd, HU.out, fun v' hv' he => ?_⟩
                by_cases e : v' = j
                · subst e; exact HMEM.out
                · exact HALL.out v' (by omega) he
          · clear hbf ho hb hq hql
            go_wp2_with fail
            go_roundg (gk - 1)
            case measure => omega
            case rel =>
              refine ⟨j + 1, D, P, by omega, by go_num, ⟨HBF.out, hk, HO.out, HQ.out, HB.out⟩, hkd, HU.out, fun v' hv' he => ?_⟩
              by_cases e : v' = j
              · subst e; rw [HXE.out] at he; exact absurd he (by omega)
              · exact HALL.out v' (by omega) he
        · obtain rfl : j = N := by omega
          have HNX := Lib.hid (hbf.next (fun v' hv' he => by rw [HU.out] at he; exact HALL.out v' hv' he))
          have hDk : 0 < D.length - k := by omega
          have HQX := hq
          obtain ⟨_, _, _, e0, hqB, -, hql2, hqcap, hqcx, hqs, hqv⟩ := hq
          injection e0 with e1 e2 e3
          injection e1 with e1
          injection e1 with e1 e4 _
          subst e1 e4 e3
          rw [hql] at hqcap
          obtain ⟨A, hA⟩ : ∃ A : Addr, (if qc = 1 then (some ⟨qb, qo, none⟩ : Option Addr) else some ⟨qb, qo + 1, none⟩) = some A := by
            by_cases h : qc = 1
            · exact ⟨_, if_pos h⟩
            · exact ⟨_, if_neg h⟩
          have hpop := HQX.pop (by omega) A hA
          rw [List.drop_drop, hql] at hpop
          rw [hql]
          obtain ⟨n, hn⟩ : ∃ n, D.length - k = n := ⟨_, rfl⟩
          rw [hn] at hpop hqcap hDk ⊢
          have HPOP := Lib.hid hpop
          have h1n : (1 : Int) ≤ (n : Int) := by omega
          have h1c : 1 ≤ qc := by omega
          have h1ci : (1 : Int) ≤ (qc : Int) := by omega
          clear hbf ho hb hql hqs hqv HQX hpop hn hu hall HQ
          go_wp2_with fail
          go_roundg (G - 1)
          case measure => have h1 := HGK.out; have h2 := HG.out; omega
          case rel => exact ⟨k + 1, D, P, by have h1 := HGK.out; have h2 := HG.out; omega, HNX.out, by omega, HO.out, HPOP.out, HB.out⟩
    · have HRCH := Lib.hid (hbf.reach (by omega))
      have HPL := Lib.hid hbf.len
      have h0 : D.length - k = 0 := by omega
      rw [h0]
      clear hbf ho hb hq hql
      go_wp2_with fail
      go_ret
      exact ⟨_, P, D.idxOf, rfl, HO.out, HPL.out, HRCH.out, HB.out⟩
end Go.Proofs.YtcjhenfofekofaaGreatDoor
