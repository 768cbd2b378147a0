/-
  Contracts: slices.Delete of one person; PeopleWithout of the program and of the reference.
-/
import Derived.Test.YtcjhenfofekofaaGreatDoorJ4
import Derived.Test.YtcjhenfofekofaaGreatDoorJ1
import Derived.StillTailTactics
import Derived.IntWalk
namespace Go.Proofs.YtcjhenfofekofaaGreatDoor
open Go.RowKit

/-- Some cells stored anew. -/
def setL (cs : List Value) : Nat → List Value → List Value
  | _, [] => cs
  | o, v :: r => setL (cs.set o v) (o + 1) r
theorem setL_len (cs : List Value) : ∀ (vs : List Value) (o : Nat), (setL cs o vs).length = cs.length := by
  intro vs
  induction vs generalizing cs with
  | nil => intro o; rfl
  | cons v r ih => intro o; rw [setL, ih, List.length_set]
theorem setL_at (vs : List Value) : ∀ (cs : List Value) (o i : Nat), o + vs.length ≤ cs.length → (setL cs o vs)[i]? = if o ≤ i ∧ i < o + vs.length then vs[i - o]? else cs[i]? := by
  induction vs with
  | nil => intro cs o i _; rw [setL, if_neg (by rintro ⟨h1, h2⟩; rw [List.length_nil] at h2; omega)]
  | cons v r ih =>
    intro cs o i h
    rw [List.length_cons] at h ⊢
    rw [setL, ih _ _ _ (by rw [List.length_set]; omega), List.getElem?_set]
    by_cases h1 : o = i
    · subst h1
      rw [if_neg (by omega), if_pos rfl, if_pos (by omega), if_pos (by omega), Nat.sub_self]
      first | done | rfl
    · rw [if_neg h1]
      by_cases h2 : o ≤ i ∧ i < o + (r.length + 1)
      · rw [if_pos (by omega), if_pos h2, show i - o = (i - (o + 1)) + 1 by omega, List.getElem?_cons_succ]
      · rw [if_neg (by omega), if_neg h2]
theorem orow_sets {base size n b m cap : Nat} {e : TypeId} (vs : List Value) : ∀ {w : World} {cs : List Value} (o : Nat), w.ownsRow base e size (.slice (some ⟨b, 0, none⟩) m cap) n cs → (w.setCells b o vs).ownsRow base e size (.slice (some ⟨b, 0, none⟩) m cap) n (setL cs o vs) := by
  induction vs with
  | nil => intro w cs o h; exact h
  | cons v r ih => intro w cs o h; exact ih (o + 1) (orow_set h)
theorem orow_less {w : World} {base size n n' b m cap : Nat} {e : TypeId} {cs : List Value} (h : w.ownsRow base e size (.slice (some ⟨b, 0, none⟩) m cap) n cs) (hn : n' ≤ n) : w.ownsRow base e size (.slice (some ⟨b, 0, none⟩) n' cap) n' (cs.take (n' * size)) := by
  have hle : n' * size ≤ n * size := Nat.mul_le_mul_right _ hn
  refine ⟨by rw [List.length_take, h.1]; omega, ?_⟩
  rcases h.2 with ⟨h0, _⟩ | ⟨g, c2, cur, hv, hg, hh, h1, h2, h3, h4⟩
  · cases h0
  · injection hv with e1 e2 e3
    injection e1 with e1
    injection e1 with e1 _ _
    subst e1 e2 e3
    refine .inr ⟨b, cap, cur, rfl, hg, hh, by omega, h2, h3, ?_⟩
    rw [← h4, List.take_take, Nat.min_eq_left hle]
theorem below_sets {b B : Nat} (hB : B ≤ b) (vs : List Value) : ∀ (w w0 : World) (o : Nat), Below B w0 w → Below B w0 (w.setCells b o vs) := by
  induction vs with
  | nil => intro w w0 o h; exact h
  | cons v r ih => intro w w0 o h; exact ih _ _ _ (h.setCell (p := ⟨b, o, none⟩) hB _)
theorem pc_append (A B : List Per) : pc (A ++ B) = pc A ++ pc B := by
  induction A with
  | nil => rfl
  | cons p A ih => show _ :: _ :: _ :: _ :: pc (A ++ B) = _; rw [ih]; rfl
theorem pc_drop : ∀ (L : List Per) (k : Nat), (pc L).drop (k * 4) = pc (L.drop k)
  | L, 0 => by simp
  | [], k + 1 => by simp [pc]
  | p :: L, k + 1 => by
    have := pc_drop L k
    rw [List.drop_succ_cons, ← this, show (k + 1) * 4 = k * 4 + 4 by omega]
    rfl
theorem pc_take (L : List Per) (k : Nat) (hk : k ≤ L.length) : (pc L).take (k * 4) = pc (L.take k) := by
  have h1 : pc L = pc (L.take k) ++ pc (L.drop k) := by rw [← pc_append, List.take_append_drop]
  rw [h1, List.take_append_of_le_length (by rw [pc_len, List.length_take]; omega), List.take_of_length_le (by rw [pc_len, List.length_take]; omega)]
/-- What the shift to the left leaves. -/
theorem shift_pc {L : List Per} {k : Nat} (hk : k < L.length) (zs : List Value) (hz : zs.length = 4) :
    (setL (setL (pc L) (k * 4) (pc (L.drop (k + 1)))) ((L.length - 1) * 4) zs).take ((L.length - 1) * 4) = pc (without L k) := by
  have hl := pc_len L
  have hd : (pc (L.drop (k + 1))).length = (L.length - (k + 1)) * 4 := by rw [pc_len, List.length_drop]
  apply List.ext_getElem?
  intro i
  rw [List.getElem?_take]
  have hw : (pc (without L k)).length = (L.length - 1) * 4 := by rw [pc_len]; have := without_len hk; omega
  by_cases hi : i < (L.length - 1) * 4
  · rw [if_pos hi, setL_at _ _ _ _ (by rw [setL_len, hl, hz]; omega), if_neg (by omega), setL_at _ _ _ _ (by rw [hd, hl]; omega)]
    unfold without
    rw [pc_append]
    have ht : (pc (L.take k)).length = k * 4 := by rw [pc_len, List.length_take]; omega
    by_cases h2 : k * 4 ≤ i
    · rw [if_pos (by omega), List.getElem?_append_right (by omega), ht]
    · rw [if_neg (by omega), List.getElem?_append_left (by omega), ← pc_take L k (by omega), List.getElem?_take, if_pos (by omega)]
  · rw [if_neg hi, List.getElem?_eq_none (by omega)]

/-- append within the room that there is. -/
theorem wp_room {o : Oper} {a : Act} {w : World} {K : Act → World → Prop} {Q : Exit → Act → World → Prop} (s x : Operand) (t : TypeId) (hop : o.op = Op.call { callee := Callee.builtin Builtin.append, args := #[s, x], argTypes := #[t, t] })
    (e : TypeId) (i : TypeInfo) (size : Nat) (h1 : Tryz.prog.underlying t = some (.slice e)) (h2 : Tryz.prog.info? e = some i) (h4 : i.size = size)
    (b off n cap : Nat) (hs : a.eval s = .slice (some ⟨b, off, none⟩) n cap)
    (ad : Addr) (m c : Nat) (news : List Value) (hx : a.eval x = .slice (some ad) m c) (hn : news.length = m * size) (hc : ∀ j u, news[j]? = some u → w.cell? (ad.add j) = some u) (h1c : ∀ u ∈ news, u.oneCell' = true)
    (hroom : n + m ≤ cap) (hspare : ∀ j, j < news.length → (w.cell? ⟨b, off + n * size + j, none⟩).isSome = true ∧ w.frozen? ⟨b, off + n * size + j, none⟩ = false)
    (hK : K (a.put o.dst (.slice (some ⟨b, off, none⟩) (n + m) cap)) (w.setCells b (off + n * size) news)) : Oper.wp Tryz.prog o a w K Q := by
  subst h4
  have hrun := run_append_room_cells (P := Tryz.prog) w t o.type e i h1 h2 b off n cap ad m c news hn hc h1c hroom (fun j hj => (hspare j hj).1) (fun j hj => (hspare j hj).2)
  unfold Oper.wp
  simp [execOp, hop, resolve, invoke, builtin, hs, hx, hrun, Result.andThen]
  exact hK
def z4 : List Value := [.int .i64 0, .int .i64 0, .int .i64 0, .int .i64 0]
theorem clear_one (w : World) (ty : TypeId) (b o c : Nat) (hc : ∀ j, j < 4 → (w.cell? ⟨b, o + j, none⟩).isSome = true) (hf : ∀ j, j < 4 → w.frozen? ⟨b, o + j, none⟩ = false) :
    (Builtin.clear_ #[23] ty #[.slice (some ⟨b, o, none⟩) 1 c]).run Tryz.prog w = .ok (.tuple #[]) (w.setCells b o z4) := by
  have hst := run_storeCells_cells (P := Tryz.prog) b o z4 0 w (by simpa [z4] using hc) (by simpa [z4] using hf) (by intro v hv; simp [z4] at hv; subst hv; rfl)
  simp only [Nat.add_zero] at hst
  have hz : (Builtin.zeroCells (Value.agg #[.int .i64 0, .int .i64 0, .int .i64 0, .int .i64 0]).cells 1).toList = z4 := by kernel_rfl
  simp [Builtin.clear_, run_underlying Tryz.underlying23, Tryz.zeroValue57, hz, hst]

theorem orow_at {w : World} {base b m n cap size : Nat} {e : TypeId} {cs : List Value} (h : w.ownsRow base e size (.slice (some ⟨b, 0, none⟩) m cap) n cs) {j : Nat} (hj : j < n * size) : (w.cell? ⟨b, j, none⟩).isSome = true ∧ w.frozen? ⟨b, j, none⟩ = false := by
  have h1 := World.ownsRow.cells (g := b) h rfl j (cs[j]'(by rw [h.1]; exact hj)) (List.getElem?_eq_getElem _)
  rw [add_none, Nat.zero_add] at h1
  refine ⟨by rw [h1]; rfl, ?_⟩
  rcases h.2 with ⟨h0, _⟩ | ⟨g2, cap2, cur2, hv2, hb2, hh2, hn2, hm2, hs2, _⟩
  · cases h0
  · injection hv2 with e1 e2 e3
    injection e1 with e1
    injection e1 with e1 _ _
    subst e1
    simp [World.frozen?, hh2]
theorem own_at {w : World} {base b n cap : Nat} {L : List Per} (h : OwnPpl w base (.slice (some ⟨b, 0, none⟩) n cap) L) {j : Nat} (hj : j < L.length * 4) : (w.cell? ⟨b, j, none⟩).isSome = true ∧ w.frozen? ⟨b, j, none⟩ = false := by
  refine ⟨?_, own_frozen h j⟩
  have := World.ownsRow.cells (g := b) h rfl j ((pc L)[j]'(by rw [pc_len]; exact hj)) (List.getElem?_eq_getElem _)
  rw [add_none, Nat.zero_add] at this
  rw [this]
  rfl

set_option maxRecDepth 100000 in
set_option maxHeartbeats 2000000 in
theorem delP (base b cap : Nat) (L : List Per) (k j : Nat) (w : World) (ho : OwnPpl w base (.slice (some ⟨b, 0, none⟩) L.length cap) L) (hk : k < L.length) (hj : j = k + 1) (h40 : L.length ≤ 1000) :
    Calls Tryz.prog 48 #[.slice (some ⟨b, 0, none⟩) L.length cap, .int .i64 (k : Int), .int .i64 (j : Int)] w fun e w' =>
      e = .returned (.slice (some ⟨b, 0, none⟩) (L.length - 1) cap) ∧ OwnPpl w' base (.slice (some ⟨b, 0, none⟩) (L.length - 1) cap) (without L k) ∧ Below base w w' := by
  obtain ⟨ao', b', cap', hv, hc1, hc2, hlow, hpl⟩ := ho.ppl
  injection hv with e1 _ e3
  subst e3
  obtain ⟨e2, hbB, -⟩ := hlow (by omega)
  rw [← e1] at e2
  injection e2 with e2
  injection e2 with e2 _ _
  subst e2
  obtain ⟨i0, hi0, hz0, hz1, hz2⟩ := info_parts eltP.info
  obtain ⟨news, hnews⟩ : ∃ news, news = pc (L.drop j) := ⟨_, rfl⟩
  have hlen : news.length = (L.length - j) * 4 := by rw [hnews, pc_len, List.length_drop]
  have hget : ∀ t u, news[t]? = some u → w.drew.cell? ⟨b, j * 4 + t, none⟩ = some u := by
    intro t u hu
    rw [hnews, ← pc_drop, List.getElem?_drop] at hu
    have := ppl_cells hpl _ u hu
    rw [Nat.zero_add] at this
    exact this
  obtain ⟨A, hA, hsrc⟩ : ∃ A : Addr, (if cap = j then (some ⟨b, 0, none⟩ : Option Addr) else some ⟨b, j * 4, none⟩) = some A ∧ Hid (∀ t u, news[t]? = some u → w.drew.cell? (A.add t) = some u) := by
    by_cases h : cap = j
    · refine ⟨⟨b, 0, none⟩, by simp [h], fun t u hu => ?_⟩
      have h0 : news.length = 0 := by rw [hlen]; omega
      rw [List.length_eq_zero_iff.1 h0] at hu
      simp at hu
    · refine ⟨⟨b, j * 4, none⟩, by simp [h], fun t u hu => ?_⟩
      rw [Addr.add_lit]
      exact hget t u hu
  have HNL := Lib.hid hlen
  have HNW := Lib.hid hnews
  have H1C : Hid (∀ u ∈ news, u.oneCell' = true) := Lib.hid (by rw [hnews]; exact pc_one _)
  have HO := Lib.hid ho
  have hkn : L.length - 1 = k + (L.length - j) := by omega
  have HKN := Lib.hid hkn
  have HJ := Lib.hid hj
  have hki : (k : Int) ≤ (j : Int) := by omega
  have hkj : k ≤ j := by omega
  have hji : (j : Int) ≤ (L.length : Int) := by omega
  have hjl : j ≤ L.length := by omega
  have hne : ((k : Int) == (j : Int)) = false := by simp; omega
  have hjc : j ≤ cap := by omega
  have hkc : k ≤ cap := by omega
  clear hj hnews hget hlen hpl e1 hkn ho
  go_enter Tryz.func48, Tryz.ntmps48
  go_wp2_with fail
  go_still_tail 6, (by kernel_rfl)
  change wpList _ _ _ _ _ w.drew
  refine wpList_want rfl fun _ hK => wp_room (.tmp 22) (.tmp 25) _ rfl _ i0 4 eltP.und hi0 hz1 b 0 k cap rfl A (L.length - j) (cap - j) news rfl HNL.out hsrc.out H1C.out (by omega) (fun t ht => ?_) ?_
  · rw [HNL.out] at ht
    rw [Nat.zero_add]
    exact own_at (show OwnPpl w.drew base _ L from HO.out) (by omega)
  refine hK _ _ ?_
  rw [Nat.zero_add, ← HKN.out]
  have hO1 : w.drew.ownsRow base 57 4 (.slice (some ⟨b, 0, none⟩) L.length cap) L.length (pc L) := HO.out
  have hO2 := orow_sets news (k * 4) hO1
  have hB2 := below_sets hbB news w.drew w (k * 4) ((Below.refl base w).drew)
  obtain ⟨W2, hW2⟩ : ∃ W2, w.drew.setCells b (k * 4) news = W2 := ⟨_, rfl⟩
  rw [hW2] at hO2 hB2 ⊢
  have HO2 := Lib.hid hO2
  have HB2 := Lib.hid hB2
  obtain ⟨m, hm⟩ : ∃ m, L.length - 1 = m := ⟨_, rfl⟩
  obtain ⟨n, hn⟩ : ∃ n, L.length = n := ⟨_, rfl⟩
  have HM := Lib.hid hm
  have HN := Lib.hid hn
  have hml : m ≤ n := by omega
  have hmi : (m : Int) ≤ (n : Int) := by omega
  have hmc : m ≤ cap := by omega
  have hnc : n ≤ cap := by omega
  have hmne : ¬ cap = m := by omega
  have hmn : n - m = 1 := by omega
  have hcl : ∀ ty, (Builtin.clear_ #[23] ty #[.slice (some ⟨b, m * 4, none⟩) 1 (cap - m)]).run Tryz.prog W2 = .ok (.tuple #[]) (W2.setCells b (m * 4) z4) := fun ty =>
    clear_one W2 ty b (m * 4) (cap - m) (fun t ht => (orow_at hO2 (show m * 4 + t < L.length * 4 by omega)).1) (fun t ht => (orow_at hO2 (show m * 4 + t < L.length * 4 by omega)).2)
  clear hO1 hO2 hB2 hW2 hK HO hsrc HNL H1C
  rw [hm, hn]
  clear hm hn
  go_wp2_with fail
  go_ret
  have h1 := orow_less (n' := m) (orow_sets z4 (m * 4) HO2.out) (by rw [HN.out]; exact hml)
  have h2 := shift_pc hk z4 rfl
  rw [HNW.out, HJ.out, ← HM.out] at h1
  rw [h2] at h1
  refine ⟨by rw [HM.out]; rfl, ?_, below_sets hbB z4 W2 w _ HB2.out⟩
  unfold OwnPpl
  have h3 : (without L k).length = L.length - 1 := by have := without_len hk; omega
  rw [h3, ← HM.out]
  exact h1

set_option maxHeartbeats 1000000 in
theorem withoutI_f (ao : Option Addr) (b cap : Nat) (L : List Per) (k : Int) (w : World) (hr : Ppl w ao b 0 L) (hl : L.length ≤ 100) (hv : ¬ (pplB L = true ∧ 0 ≤ k ∧ k < L.length)) :
    Calls Tryz.prog 20 #[.slice ao L.length cap, .int .i64 k] w fun e w' => e = .returned (.tuple #[.slice none 0 0, .bool false]) ∧ Below w.heap.size w w' := by
  have HC := Lib.hid (peopleI ao b 0 cap L w hr (by omega))
  have HV := Lib.hid hv
  clear hr hv
  go_enter Tryz.func20, Tryz.ntmps20
  go_wp2_with fail
  refine (HC.out).mono ?_
  rintro e w1 ⟨rfl, hb1⟩
  have HB1 := Lib.hid hb1
  clear hb1
  cases hp : pplB L with
  | false =>
    go_wp2_with fail
    go_ret2
    exact ⟨rfl, HB1.out⟩
  | true =>
    by_cases h0 : k < 0
    · clear hp
      go_wp2_with fail
      go_ret2
      exact ⟨rfl, HB1.out⟩
    · have hge : (L.length : Int) ≤ k := by
        have := HV.out
        rw [hp] at this
        by_cases h : k < (L.length : Int)
        · exact absurd ⟨rfl, by omega, h⟩ this
        · omega
      clear hp
      go_wp2_with fail
      go_ret2
      exact ⟨rfl, HB1.out⟩

set_option maxHeartbeats 1000000 in
theorem withoutI (ao : Option Addr) (b cap : Nat) (L : List Per) (k : Nat) (w : World) (hr : Ppl w ao b 0 L) (hv : pplB L = true) (hk : k < L.length) (hc : L.length ≤ cap) (hn : ao = none → cap = 0) :
    Calls Tryz.prog 20 #[.slice ao L.length cap, .int .i64 (k : Int)] w fun e w' => ∃ v, e = .returned (.tuple #[v, .bool true]) ∧ OwnPpl w' w.heap.size v (without L k) ∧ Below w.heap.size w w' := by
  have h40 := (ppl_t.1 hv).1
  have HC := Lib.hid (peopleI ao b 0 cap L w hr (by omega))
  have HV := Lib.hid hv
  have HR := Lib.hid hr
  have HK := Lib.hid (show ∀ W : World, Ppl W ao b 0 L → _ from fun W h => cloneP ao b cap L W h (by omega) hc hn)
  have hk0 : ¬ (k : Int) < 0 := by omega
  have hk1 : ¬ (L.length : Int) ≤ (k : Int) := by omega
  have hwr : IntKind.i64.wrap ((k : Int) + 1) = ((k + 1 : Nat) : Int) := by rw [IntWalk.i64_in _ ⟨by omega, by omega⟩]; rfl
  obtain ⟨j, hj⟩ : ∃ j, k + 1 = j := ⟨_, rfl⟩
  rw [hj] at hwr
  have HJ := Lib.hid hj
  have HH := Lib.hid hk
  clear hr hv hj hn
  go_enter Tryz.func20, Tryz.ntmps20
  go_wp2_with fail
  refine (HC.out).mono ?_
  rintro e w1 ⟨rfl, hb1⟩
  rw [HV.out]
  have HB1 := Lib.hid hb1
  have HR1 := Lib.hid (HR.out.keep hb1 (Nat.le_refl _))
  clear hb1
  go_wp2_with fail
  refine (HK.out _ HR1.out).mono ?_
  rintro e w2 ⟨v, rfl, ho, hb2⟩
  have HB2 := Lib.hid (HB1.out.trans (hb2.mono HB1.out.size))
  obtain ⟨av, bv, cv, rfl, k1, k2, k3, -⟩ := ho.ppl
  obtain ⟨rfl, -, -⟩ := k3 (by omega)
  have HO := Lib.hid (own_mono ho HB1.out.size)
  clear ho hb2
  go_wp2_with fail
  refine (delP w.heap.size bv cv L k j w2 HO.out HH.out HJ.out.symm (by omega)).mono ?_
  rintro e w3 ⟨rfl, ho3, hb3⟩
  have HO3 := Lib.hid ho3
  have HB3 := Lib.hid (HB2.out.trans hb3)
  clear ho3 hb3
  go_wp2_with fail
  go_ret2
  exact ⟨_, rfl, HO3.out, HB3.out⟩
end Go.Proofs.YtcjhenfofekofaaGreatDoor
