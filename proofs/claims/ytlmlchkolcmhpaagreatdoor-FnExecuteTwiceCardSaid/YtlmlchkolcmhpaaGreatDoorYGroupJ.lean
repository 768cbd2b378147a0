/-
  Contracts: impl.groupsOf.
-/
import Derived.Test.YtlmlchkolcmhpaaGreatDoorYGroupI
import Derived.Test.YtlmlchkolcmhpaaGreatDoorJ6
import Derived.Test.YtlmlchkolcmhpaaGreatDoorJ3
import Derived.Maps.RangeWalk
import Derived.Deep.RegionWith
import Derived.IntWalk
import Derived.Carry
namespace Go.Proofs.YtlmlchkolcmhpaaGreatDoor
open Go.RowKit Go.Maps Go.WideShapes

attribute [local go_sem] run_makeMap

/-- What the loop of groupsOf keeps. -/
def GrpR (w : World) (L : List Per) (k : Nat) (wr : World) : Prop :=
  ∃ D, wr.ownsMap Tryz.prog 69 (plainElem Tryz.prog 3) w.heap.size k D ∧ MapG kp (L.take k) D ∧ Below w.heap.size w wr
/-- One more person in a group. -/
def EntR (w : World) (L : List Per) (k : Nat) (p : Per) (c : Nat) (V : World) : Prop :=
  ∃ (st : Nat) (W2 W3 : World), (Instr.lookup 112 (.map (some w.heap.size)) (gv p) false).run Tryz.prog V = .ok (.int .i64 (c : Int)) V ∧ (Instr.mapEntry 112 (.map (some w.heap.size)) (gv p)).run Tryz.prog V = .ok (.tuple #[.int .i64 (c : Int), .int .i64 (st : Int)]) W2 ∧
    (Instr.lookup 112 (.map (some w.heap.size)) (gv p) false).run Tryz.prog W2 = .ok (.int .i64 (c : Int)) W2 ∧
    (Instr.entryStore 112 (.map (some w.heap.size)) (.int .i64 (st : Int)) (.int .i64 ((c : Int) + 1))).run Tryz.prog W2 = .ok () W3 ∧ GrpR w L (k + 1) W3
theorem entR {w V : World} {L : List Per} {k : Nat} {D : DataW Unit} {p : Per} (hp : PerOk p) (hk : k ≤ 40) (hT : L.take (k + 1) = L.take k ++ [p]) (hl : (L.take k).length ≤ 40) (hown : V.ownsMap Tryz.prog 69 (plainElem Tryz.prog 3) w.heap.size k D) (hm : MapG kp (L.take k) D) (hb : Below w.heap.size w V) : EntR w L k p (sizeG (L.take k) p) V := by
  have hle := sizeG_le (L.take k) p
  obtain ⟨c, hrun, hat, hwc⟩ := hown.lookup_int keyP Tryz.underlying112 Tryz.underlying3 (Tryz.zeroValue3 V) (keyOf_kp hp)
  have hc : c = (sizeG (L.take k) p : Int) := dn_inj (hat.symm.trans (hm.at_ p hp))
  subst hc
  obtain ⟨st, W2, W3, h1, h2, h3, h4, h5⟩ := entry_law (R := plainElem Tryz.prog 3) keyLawP Tryz.underlying112 (fun u => Tryz.zeroValue3 u) hown (by unfold maxLen; omega) (val := .int .i64 ((sizeG (L.take k) p : Int) + 1)) (keyOf_kp hp) hrun (plainElem_int Tryz.underlying3 (wf_small (by omega)))
  refine ⟨st, W2, W3, hrun, h1, h2, h3, _, h4, ?_, hb.trans (below_grown h5 (Nat.le_refl _) hb.size)⟩
  rw [hT]
  exact hm.snoc gkeyP hp

set_option maxRecDepth 100000 in
set_option maxHeartbeats 4000000 in
theorem groupsI (ao : Option Addr) (b cap : Nat) (L : List Per) (w : World) (hr : Ppl w ao b 0 L) (hv : pplB L = true) :
    Calls Tryz.prog 86 #[.slice ao L.length cap] w fun e w' => ∃ D, e = .returned (.map (some w.heap.size)) ∧ w'.ownsMap Tryz.prog 69 (plainElem Tryz.prog 3) w.heap.size L.length D ∧ MapG kp L D ∧ Below w.heap.size w w' := by
  have h40 := (ppl_t.1 hv).1
  have HV := Lib.hid hv
  have HR := Lib.hid hr
  clear hr hv
  go_enter Tryz.func86, Tryz.ntmps86
  have HI := Lib.hid (show GrpR w L 0 (w.alloc (.map #[] 0)) from ⟨_, World.ownsMap_made _ _ _ _, by rw [List.take_zero]; exact MapG.nil _, (Below.refl _ _).alloc (Nat.le_refl _) _⟩)
  go_wp2_with fail
  go_loopw [9] (fun i wr => ∃ k : Nat, k ≤ L.length ∧ i = .int .i64 k ∧ GrpR w L k wr) (fun i _ => L.length - (intOf i).toNat)
  case atStart => exact ⟨0, Nat.zero_le _, rfl, HI.out⟩
  case round =>
    obtain ⟨k, hk, rfl, D, hown, hmg, hb⟩ := hrel
    have HB := Lib.hid hb
    have hsw := hb.size
    by_cases hlt : k < L.length
    · have h2 := (HR.out.keep HB.out (Nat.le_refl _)).2 k hlt
      obtain rfl := HR.out.1 (by omega)
      have hpo := (ppl_t.1 HV.out).2 k hlt
      have hT : L.take (k + 1) = L.take k ++ [L.getD k per0] := by rw [List.take_add_one, List.getD_eq_getElem?_getD, List.getElem?_eq_getElem hlt]; rfl
      obtain ⟨p, hp⟩ : ∃ p, L.getD k per0 = p := ⟨_, rfl⟩
      rw [hp] at h2 hT hpo
      have hle := sizeG_le (L.take k) p
      have htl : (L.take k).length ≤ 40 := by rw [List.length_take]; omega
      have ENT := Lib.hid (fun (W : World) (hW : Below wr.heap.size wr W) => entR (w := w) hpo (by omega) hT htl (hown.kept (row := none) ⟨hW.os, hW.tape, hW.output, hW.size, fun i hi _ => hW.block i hi⟩ (by simp)) hmg (hb.trans (hW.mono hsw)))
      obtain ⟨c, hc⟩ : ∃ c, sizeG (L.take k) p = c := ⟨_, rfl⟩
      rw [hc] at ENT hle
      obtain ⟨c0, c1, c2, c3⟩ := h2
      simp only [Nat.zero_add] at c0 c1 c2 c3
      have HGO := Lib.hid (fun W => groupOfI p W)
      have hsc : IntKind.i64.wrap ((c : Int) + 1) = (c : Int) + 1 := IntWalk.i64_in _ ⟨by omega, by omega⟩
      clear hown hb hp hpo hT hmg hc
      go_upto_region 5 with fail
      have hal := (Below.refl wr.heap.size wr).alloc (Nat.le_refl _) (.cells #[.int .i64 p.area, .int .i64 p.job, .int .i64 p.sex, .int .i64 p.pay] 69)
      obtain ⟨V, hV⟩ : ∃ V, wr.alloc (.cells #[.int .i64 p.area, .int .i64 p.job, .int .i64 p.sex, .int .i64 p.pay] 69) = V := ⟨_, rfl⟩
      have v0 : V.cell? ⟨wr.heap.size, 0, none⟩ = some (.int .i64 p.area) := by rw [← hV, World.cell?_alloc_new]; rfl
      have v1 : V.cell? ⟨wr.heap.size, 1, none⟩ = some (.int .i64 p.job) := by rw [← hV, World.cell?_alloc_new]; rfl
      have v2 : V.cell? ⟨wr.heap.size, 2, none⟩ = some (.int .i64 p.sex) := by rw [← hV, World.cell?_alloc_new]; rfl
      have v3 : V.cell? ⟨wr.heap.size, 3, none⟩ = some (.int .i64 p.pay) := by rw [← hV, World.cell?_alloc_new]; rfl
      rw [hV] at hal ⊢
      have HAL := Lib.hid (hal.drew)
      have hsV := hal.size
      clear hV c0 c1 c2 c3 hal
      go_region_with (first | (go_at_call 122; refine (HGO.out _).mono ?_; rintro e w4 ⟨rfl, hb4⟩; obtain ⟨st, W2, W3, e1, e2, e3, e4, hg⟩ := ENT.out w4 (HAL.out.trans (hb4.mono hsV)); have HG := Lib.hid hg; clear hg hb4))
      all_goals
        clear e1 e2 e3 e4 v0 v1 v2 v3
        go_wp2_with fail
        go_roundw
        case rel => exact ⟨k + 1, by omega, by go_num, HG.out⟩
        case measure => simp [intOf]; omega
    · obtain rfl : k = L.length := by omega
      rw [List.take_length] at hmg
      have HO := Lib.hid hown
      have HM := Lib.hid hmg
      clear hown hmg hb
      go_wp2_with fail
      go_ret
      exact ⟨D, rfl, HO.out, HM.out, HB.out⟩

set_option maxRecDepth 100000 in
set_option maxHeartbeats 4000000 in
theorem leastI (ao : Option Addr) (b cap : Nat) (L : List Per) (la : Option Addr) (lc : Nat) (w : World) (hr : Ppl w ao b 0 L) (hv : pplB L = true) :
    Calls Tryz.prog 48 #[.slice ao L.length cap, .slice la 0 lc, .agg #[.int .i64 0, .int .i64 0, .int .i64 0]] w fun e w' => e = .returned (.int .i64 (leastG L)) ∧ Below w.heap.size w w' := by
  have h40 := (ppl_t.1 hv).1
  have HV := Lib.hid hv
  have HR := Lib.hid hr
  have HC := Lib.hid (fun (W : World) (hb : Below w.heap.size w W) => recodeI ao b cap L la lc W (hr.keep hb (Nat.le_refl _)) hv)
  clear hr hv
  go_enter Tryz.func48, Tryz.ntmps48
  go_wp2_with fail
  have hb1 : Below w.heap.size w (w.alloc (.cells #[.int .i64 0, .int .i64 0, .int .i64 0] 81)) := (Below.refl _ _).alloc (Nat.le_refl _) _
  obtain ⟨W1, hW1⟩ : ∃ W1, w.alloc (.cells #[.int .i64 0, .int .i64 0, .int .i64 0] 81) = W1 := ⟨_, rfl⟩
  rw [hW1] at hb1 ⊢
  have HB1 := Lib.hid hb1
  clear hb1 hW1
  refine (HC.out W1 HB1.out).mono ?_
  rintro e w2 ⟨v, rfl, ho, hb2⟩
  obtain ⟨av, bv, cv, rfl, hc1, hc2, -, hp2⟩ := ho.ppl
  have HP2 := Lib.hid hp2
  have HB2 := Lib.hid (HB1.out.trans (hb2.mono HB1.out.size))
  clear ho hb2 hp2 HC
  by_cases h0 : L.length = 0
  · obtain rfl : L = [] := List.length_eq_zero_iff.1 h0
    clear h0
    go_wp2_with fail
    go_ret
    exact ⟨rfl, HB2.out⟩
  · have hn0 : ((L.length : Int) == 0) = false := by rw [beq_eq_false_iff_ne]; omega
    have HGR := Lib.hid (groupsI av bv cv L w2 HP2.out HV.out)
    clear h0
    go_wp2_with fail
    refine (HGR.out).mono ?_
    rintro e w3 ⟨D, rfl, hown, hmg, hb3⟩
    have HO3 := Lib.hid hown
    have HM := Lib.hid hmg
    have HB3 := Lib.hid (HB2.out.trans (hb3.mono HB2.out.size))
    have hmb : w.heap.size ≤ w2.heap.size := HB2.out.size
    obtain ⟨mb, hmb2⟩ : ∃ mb, w2.heap.size = mb := ⟨_, rfl⟩
    rw [hmb2] at HO3 hmb ⊢
    clear hown hmg hb3 hmb2 hn0 HGR
    go_wp2_with (at_range; refine wpList_range_own _ rfl _ 112 rfl 69 3 keyP Tryz.underlying112 _ mb L.length D rfl HO3.out ?_; intro w4 hrg4 hg4 hs4)
    have HRG := Lib.hid hrg4
    have HB4 := Lib.hid (HB3.out.trans (⟨hg4.os, hg4.tape, hg4.output, hg4.size, fun i hi => hg4.block i (by have := HB3.out.size; omega) (by simp)⟩ : Below w.heap.size w3 w4))
    have h3s : w.heap.size ≤ w3.heap.size := HB3.out.size
    clear hrg4 hg4 hs4
    go_frame
    go_loopw [9, 11] (fun v _ wr => ∃ left cnt x, wr.ranges Tryz.prog 69 (plainElem Tryz.prog 3) mb w3.heap.size L.length D left cnt ∧ v = .int .i64 x ∧ LeastS kp L left x ∧ (∀ kl, left kl = true → Maps.has D kl = true) ∧ Below w.heap.size w wr) (fun _ _ wr => wr.rangeLeft mb w3.heap.size)
    case atStart => exact ⟨_, _, _, HRG.out, rfl, LeastS.start HM.out (ppl_all HV.out), fun _ h => h, HB4.out⟩
    case round =>
      obtain ⟨left, cnt, x, hrg, rfl, hls, hlh, hb⟩ := hrel
      have HLS := Lib.hid hls
      have HLH := Lib.hid hlh
      have HB := Lib.hid hb
      have HRO := Lib.hid hrg
      clear hls hlh hb hrg
      go_wp2_with (at_next; refine wpList_next_ranges _ rfl _ rfl 69 keyP (plainElem Tryz.prog 3) (fun x : Value => x) (Value.int .i64) (fun key kl _ => ⟨key, rfl⟩) (fun v y hy => (let ⟨a, h, _⟩ := plainElem_int_inv Tryz.underlying3 hy; ⟨a, h⟩)) mb w3.heap.size L.length D left cnt rfl HRO.out ?_ ?_)
      · intro _ hl0
        have HE := Lib.hid (HLS.out.done hl0)
        clear hl0
        go_wp2_with fail
        go_ret
        exact ⟨by rw [HE.out]; rfl, HB.out⟩
      · intro y c kl z pl w5 cnt5 hkey hlx hyz hat hrg5 hlt hg5 hs5 hen
        obtain ⟨p, hp, hkl⟩ := HM.out.from_ kl (HLH.out kl hlx)
        subst hkl
        have hpo := ppl_all HV.out p hp
        obtain ⟨c', hc', hz, -⟩ := plainElem_int_inv (H := Unit) Tryz.underlying3 hyz
        have hcs : c = (sizeG L p : Int) := by
          have h1 := hat (dn 0)
          injection hc' with _ hc'
          injection hz with hz
          rw [HM.out.at_ p hpo, hz] at h1
          have h2 := dn_inj h1
          omega
        subst hcs
        have HLS5 := Lib.hid (HLS.out.step gkeyP (ppl_all HV.out) hp)
        have HRG5 := Lib.hid hrg5
        have HLT := Lib.hid hlt
        have HB5 := Lib.hid (HB.out.trans (⟨hg5.os, hg5.tape, hg5.output, hg5.size, fun i hi => hg5.block i (by have := HB.out.size; omega) (fun e => by injection e with e; omega)⟩ : Below w.heap.size wr w5))
        obtain ⟨sz, hsz⟩ : ∃ sz, sizeG L p = sz := ⟨_, rfl⟩
        rw [hsz] at HLS5 hen ⊢
        clear hkey hlx hyz hat hrg5 hlt hg5 hs5 hc' hz hsz
        go_wp2_with fail
        refine ⟨⟨_, _, _, HRG5.out, rfl, HLS5.out, fun kl h => HLH.out kl (by simp only [Bool.and_eq_true] at h; exact h.1), HB5.out⟩, ?_⟩
        rw [HRG5.out.left_eq, HRO.out.left_eq]
        exact HLT.out

set_option maxHeartbeats 2000000 in
theorem manyGI (ao : Option Addr) (b cap : Nat) (L : List Per) (la : Option Addr) (lc : Nat) (w : World) (hr : Ppl w ao b 0 L) (hv : pplB L = true) :
    Calls Tryz.prog 49 #[.slice ao L.length cap, .slice la 0 lc, .agg #[.int .i64 0, .int .i64 0, .int .i64 0]] w fun e w' => e = .returned (.int .i64 (manyG L : Int)) ∧ Below w.heap.size w w' := by
  have HV := Lib.hid hv
  have HC := Lib.hid (fun (W : World) (hb : Below w.heap.size w W) => recodeI ao b cap L la lc W (hr.keep hb (Nat.le_refl _)) hv)
  clear hr hv
  go_enter Tryz.func49, Tryz.ntmps49
  go_wp2_with fail
  have hb1 : Below w.heap.size w (w.alloc (.cells #[.int .i64 0, .int .i64 0, .int .i64 0] 81)) := (Below.refl _ _).alloc (Nat.le_refl _) _
  obtain ⟨W1, hW1⟩ : ∃ W1, w.alloc (.cells #[.int .i64 0, .int .i64 0, .int .i64 0] 81) = W1 := ⟨_, rfl⟩
  rw [hW1] at hb1 ⊢
  have HB1 := Lib.hid hb1
  clear hb1 hW1
  refine (HC.out W1 HB1.out).mono ?_
  rintro e w2 ⟨v, rfl, ho, hb2⟩
  obtain ⟨av, bv, cv, rfl, hc1, hc2, -, hp2⟩ := ho.ppl
  have HP2 := Lib.hid hp2
  have HB2 := Lib.hid (HB1.out.trans (hb2.mono HB1.out.size))
  have HGR := Lib.hid (groupsI av bv cv L w2 HP2.out HV.out)
  clear ho hb2 hp2 HC
  go_wp2_with fail
  refine (HGR.out).mono ?_
  rintro e w3 ⟨D, rfl, hown, hmg, hb3⟩
  have HO3 := Lib.hid hown
  have HM := Lib.hid hmg
  have HB3 := Lib.hid (HB2.out.trans (hb3.mono HB2.out.size))
  clear hown hmg hb3 HGR
  go_wp2_with (at_len; refine wpList_len_own _ rfl _ _ rfl 69 3 Tryz.underlying112 _ _ _ _ rfl HO3.out ?_)
  rw [HM.out.size]
  go_wp2_with fail
  go_ret
  exact ⟨rfl, HB3.out⟩

theorem peopleNoI (n : Int) (w : World) (h : 1 ≤ n) (h2 : n ≤ 40) : Calls Tryz.prog 152 #[.int .i64 n] w fun e w' => e = .returned (.bool true) ∧ w = w' := by
  have t1 : decide ((1 : Int) ≤ n) = true := decide_eq_true h
  have t2 : decide (n ≤ (40 : Int)) = true := decide_eq_true h2
  go_enter Tryz.func152, Tryz.ntmps152
  go_wp2_with fail
  go_ret
  exact ⟨rfl, rfl⟩

/-- The people kept among the first k. -/
def KeepR (w w3 : World) (L : List Per) (n : Int) (k : Nat) (v : Value) (wr : World) : Prop := OwnPpl wr w3.heap.size v ((L.take k).filter fun p => decide (n ≤ sizeG L p)) ∧ Below w3.heap.size w3 wr ∧ Below w.heap.size w wr
theorem filter_take' {L : List Per} {k : Nat} (hk : k < L.length) (f : Per → Bool) : (L.take (k + 1)).filter f = if f (L.getD k per0) then (L.take k).filter f ++ [L.getD k per0] else (L.take k).filter f := by
  rw [List.take_add_one, List.getElem?_eq_getElem hk, Option.toList_some, List.filter_append, List.getD_eq_getElem?_getD, List.getElem?_eq_getElem hk, Option.getD_some]
  cases h : f L[k] <;> simp [h]

set_option maxRecDepth 100000 in
set_option maxHeartbeats 4000000 in
theorem keepI (ao : Option Addr) (b cap : Nat) (L : List Per) (la : Option Addr) (lc : Nat) (n : Int) (w : World) (hr : Ppl w ao b 0 L) (hv : pplB L = true) (hn1 : 1 ≤ n) (hn2 : n ≤ 40) :
    Calls Tryz.prog 123 #[.slice ao L.length cap, .slice la 0 lc, .agg #[.int .i64 0, .int .i64 0, .int .i64 0], .int .i64 n] w fun e w' => ∃ v, e = .returned (.tuple #[v, .bool true]) ∧ OwnPpl w' w.heap.size v (L.filter fun p => decide (n ≤ sizeG L p)) ∧ Below w.heap.size w w' := by
  have h40 := (ppl_t.1 hv).1
  have HV := Lib.hid hv
  have HC := Lib.hid (fun (W : World) (hb : Below w.heap.size w W) => recodeI ao b cap L la lc W (hr.keep hb (Nat.le_refl _)) hv)
  have HPN := Lib.hid (fun W => peopleNoI n W hn1 hn2)
  clear hr hv
  go_enter Tryz.func123, Tryz.ntmps123
  go_wp2_with fail
  have hb1 : Below w.heap.size w (w.alloc (.cells #[.int .i64 0, .int .i64 0, .int .i64 0] 81)) := (Below.refl _ _).alloc (Nat.le_refl _) _
  obtain ⟨W1, hW1⟩ : ∃ W1, w.alloc (.cells #[.int .i64 0, .int .i64 0, .int .i64 0] 81) = W1 := ⟨_, rfl⟩
  rw [hW1] at hb1 ⊢
  have HB1 := Lib.hid hb1
  clear hb1 hW1
  refine (HC.out W1 HB1.out).mono ?_
  rintro e w2 ⟨v, rfl, ho, hb2⟩
  obtain ⟨av, bv, cv, rfl, hc1, hc2, -, hp2⟩ := ho.ppl
  have HP2 := Lib.hid hp2
  have HB2 := Lib.hid (HB1.out.trans (hb2.mono HB1.out.size))
  have HGR := Lib.hid (groupsI av bv cv L w2 HP2.out HV.out)
  clear ho hb2 hp2 HC
  go_wp2_with fail
  refine (HPN.out _).mono ?_
  rintro e w' ⟨rfl, rfl⟩
  go_wp2_with fail
  refine (HGR.out).mono ?_
  rintro e w3 ⟨D, rfl, hown, hmg, hb3⟩
  have HO3 := Lib.hid hown
  have HM := Lib.hid hmg
  have HP3 := Lib.hid (HP2.out.keep hb3 (Nat.le_refl _))
  have HB3 := Lib.hid (HB2.out.trans (hb3.mono HB2.out.size))
  have hlt3 := hown.lt
  obtain ⟨mb, hmb⟩ : ∃ mb, w2.heap.size = mb := ⟨_, rfl⟩
  rw [hmb] at HO3 hlt3 ⊢
  clear hown hmg hb3 HGR hmb
  go_wp2_with fail
  go_loopw [13, 34] (fun v i wr => ∃ k : Nat, k ≤ L.length ∧ i = .int .i64 k ∧ KeepR w w3 L n k v wr) (fun _ i _ => L.length - (intOf i).toNat)
  case atStart => exact ⟨0, Nat.zero_le _, rfl, World.ownsRow_nil _ _ _ _, Below.refl _ _, HB3.out⟩
  case round =>
    obtain ⟨k, hk, rfl, hown, hb, hbw⟩ := hrel
    have HB := Lib.hid hb
    have HBW := Lib.hid hbw
    have hsw := hb.size
    by_cases hlt : k < L.length
    · have h2 := (HP3.out.keep HB.out (Nat.le_refl _)).2 k hlt
      obtain rfl := HP3.out.1 (by omega)
      have hpo := (ppl_t.1 HV.out).2 k hlt
      have HT := Lib.hid (filter_take' hlt fun p => decide (n ≤ sizeG L p))
      obtain ⟨p, hp⟩ : ∃ p, L.getD k per0 = p := ⟨_, rfl⟩
      rw [hp] at h2 HT hpo
      have hle := sizeG_le L p
      have LOOK := Lib.hid (fun (W : World) (hW : Below w3.heap.size w3 W) => (show (Instr.lookup 112 (.map (some mb)) (gv p) false).run Tryz.prog W = .ok (.int .i64 (sizeG L p : Int)) W from by
        obtain ⟨c, hrun, hat, -⟩ := (HO3.out.kept (row := none) ⟨hW.os, hW.tape, hW.output, hW.size, fun i hi _ => hW.block i hi⟩ (by simp)).lookup_int keyP Tryz.underlying112 Tryz.underlying3 (Tryz.zeroValue3 W) (keyOf_kp hpo)
        have hc : c = (sizeG L p : Int) := dn_inj (hat.symm.trans (HM.out.at_ p hpo))
        rw [← hc]
        exact hrun))
      obtain ⟨c, hc⟩ : ∃ c, sizeG L p = c := ⟨_, rfl⟩
      rw [hc] at LOOK HT hle
      obtain ⟨p0, p1, p2, p3⟩ := p
      obtain ⟨c0, c1, c2, c3⟩ := h2
      simp only [Nat.zero_add] at c0 c1 c2 c3
      obtain ⟨M, hM⟩ : ∃ M, (L.take k).filter (fun p => decide (n ≤ sizeG L p)) = M := ⟨_, rfl⟩
      have hml : M.length ≤ 40 := by rw [← hM]; have h1 := List.length_filter_le (fun p => decide (n ≤ sizeG L p)) (L.take k); rw [List.length_take] at h1; omega
      rw [hM] at hown HT
      obtain ⟨aM, bM, cM, hvM, -, -, -, -⟩ := hown.ppl
      subst hvM
      have HML := Lib.hid (show M.length ≤ 1000000000 by omega)
      have HGO := Lib.hid (fun W => groupOfI ⟨p0, p1, p2, p3⟩ W)
      have HO := Lib.hid hown
      clear hown hb hbw hp hpo hc hM
      go_wp2_with fail
      have hal := (Below.refl wr.heap.size wr).alloc (Nat.le_refl _) (.cells #[.int .i64 p0, .int .i64 p1, .int .i64 p2, .int .i64 p3] 69)
      obtain ⟨V, hV⟩ : ∃ V, wr.alloc (.cells #[.int .i64 p0, .int .i64 p1, .int .i64 p2, .int .i64 p3] 69) = V := ⟨_, rfl⟩
      have v0 : V.cell? ⟨wr.heap.size, 0, none⟩ = some (.int .i64 p0) := by rw [← hV, World.cell?_alloc_new]; rfl
      have v1 : V.cell? ⟨wr.heap.size, 1, none⟩ = some (.int .i64 p1) := by rw [← hV, World.cell?_alloc_new]; rfl
      have v2 : V.cell? ⟨wr.heap.size, 2, none⟩ = some (.int .i64 p2) := by rw [← hV, World.cell?_alloc_new]; rfl
      have v3 : V.cell? ⟨wr.heap.size, 3, none⟩ = some (.int .i64 p3) := by rw [← hV, World.cell?_alloc_new]; rfl
      have hsV : V.heap.size = wr.heap.size + 1 := by rw [← hV]; simp
      rw [hV] at hal ⊢
      have HAL := Lib.hid hal
      clear hV c0 c1 c2 c3 hal
      refine (HGO.out V).mono ?_
      rintro e w4 ⟨rfl, hb4⟩
      have u0 := (hb4.cell (p := ⟨wr.heap.size, 0, none⟩) (by show wr.heap.size < _; omega)).trans v0
      have u1 := (hb4.cell (p := ⟨wr.heap.size, 1, none⟩) (by show wr.heap.size < _; omega)).trans v1
      have u2 := (hb4.cell (p := ⟨wr.heap.size, 2, none⟩) (by show wr.heap.size < _; omega)).trans v2
      have u3 := (hb4.cell (p := ⟨wr.heap.size, 3, none⟩) (by show wr.heap.size < _; omega)).trans v3
      have hbr := HAL.out.trans (hb4.mono (by omega))
      have HBR := Lib.hid hbr
      have HB4 := Lib.hid (HB.out.trans (hbr.mono hsw))
      have HBW4 := Lib.hid (HBW.out.trans (hbr.mono HBW.out.size))
      have look := LOOK.out w4 HB4.out
      have HO4 := Lib.hid (show OwnPpl w4 w3.heap.size (.slice aM M.length cM) M from orow_below HO.out hbr)
      have hs4 := HB4.out.size
      clear hb4 hbr v0 v1 v2 v3 hsV HGO
      by_cases hnc : n ≤ (c : Int)
      · have hnc2 : decide (n ≤ (c : Int)) = true := decide_eq_true hnc
        rw [hnc2, if_pos rfl] at HT
        go_wp2_with (at_builtin; refine wpList_app eltP rfl (.tmp 44) (.tmp 46) rfl w3.heap.size _ _ _ rfl HO4.out [.int .i64 p0, .int .i64 p1, .int .i64 p2, .int .i64 p3] rfl (by intro u hu; simp at hu; rcases hu with rfl | rfl | rfl | rfl <;> rfl) rfl rfl HML.out hs4 ?_)
        intro v' w9 ho9 hb9 _
        have HO9 := Lib.hid (show OwnPpl w9 w3.heap.size v' (M ++ [⟨p0, p1, p2, p3⟩]) by unfold OwnPpl; rw [pc_snoc, List.length_append, List.length_singleton]; exact ho9)
        have HB9 := Lib.hid (HB4.out.trans hb9)
        have HBW9 := Lib.hid (HBW4.out.trans (hb9.mono HB3.out.size))
        clear ho9 hb9 look u0 u1 u2 u3
        go_wp2_with fail
        go_roundw
        case rel => exact ⟨k + 1, by omega, by go_num, by unfold KeepR; rw [HT.out]; exact ⟨HO9.out, HB9.out, HBW9.out⟩⟩
        case measure => simp [intOf]; omega
      · have hnc2 : decide (n ≤ (c : Int)) = false := decide_eq_false hnc
        rw [hnc2, if_neg (by decide)] at HT
        have hnc3 : (c : Int) < n := by omega
        clear hnc
        go_wp2_with fail
        go_roundw
        case rel => exact ⟨k + 1, by omega, by go_num, by unfold KeepR; rw [HT.out]; exact ⟨HO4.out, HB4.out, HBW4.out⟩⟩
        case measure => simp [intOf]; omega
    · obtain rfl : k = L.length := by omega
      rw [List.take_length] at hown
      have HO := Lib.hid (own_mono hown HB3.out.size)
      obtain ⟨aM, bM, cM, hvM, -, -, -, -⟩ := hown.ppl
      subst hvM
      clear hown hb hbw
      go_wp2_with fail
      go_ret2
      exact ⟨_, rfl, HO.out, HBW.out⟩

set_option maxHeartbeats 2000000 in
theorem dropI (ao : Option Addr) (b cap : Nat) (L : List Per) (la : Option Addr) (lc : Nat) (w : World) (hr : Ppl w ao b 0 L) (hv : pplB L = true) :
    Calls Tryz.prog 87 #[.slice ao L.length cap, .slice la 0 lc, .agg #[.int .i64 0, .int .i64 0, .int .i64 0], .int .i64 2] w fun e w' => e = .returned (.int .i64 (aloneG L : Int)) ∧ Below w.heap.size w w' := by
  have h40 := (ppl_t.1 hv).1
  have HC := Lib.hid (fun (W : World) (hb : Below w.heap.size w W) => keepI ao b cap L la lc 2 W (hr.keep hb (Nat.le_refl _)) hv (by decide) (by decide))
  have hka : (((L.filter fun p => decide ((2 : Int) ≤ sizeG L p)).length : Int)) + (aloneG L : Int) = L.length := by
    have := kept_alone L
    have e : (fun p => decide ((2 : Int) ≤ sizeG L p)) = fun p => decide (2 ≤ sizeG L p) := by
      funext p
      rw [Bool.eq_iff_iff]
      simp only [decide_eq_true_eq]
      omega
    rw [e]
    exact this
  obtain ⟨M, hM⟩ : ∃ M, (L.filter fun p => decide ((2 : Int) ≤ sizeG L p)) = M := ⟨_, rfl⟩
  rw [hM] at HC hka
  have hsub : IntKind.i64.wrap ((L.length : Int) - (M.length : Int)) = (aloneG L : Int) := by rw [IntWalk.i64_in _ ⟨by omega, by omega⟩]; omega
  have hsu2 : (L.length : Int) - (M.length : Int) = (aloneG L : Int) := by omega
  have HSU := Lib.hid hsub
  have HS2 := Lib.hid hsu2
  have hb0 : 0 ≤ (L.length : Int) - (M.length : Int) := by omega
  have hb9 : (L.length : Int) - (M.length : Int) ≤ 40 := by omega
  clear hr hv hM hka hsub hsu2
  go_enter Tryz.func87, Tryz.ntmps87
  go_wp2_with fail
  have hb1 : Below w.heap.size w (w.alloc (.cells #[.int .i64 0, .int .i64 0, .int .i64 0] 81)) := (Below.refl _ _).alloc (Nat.le_refl _) _
  obtain ⟨W1, hW1⟩ : ∃ W1, w.alloc (.cells #[.int .i64 0, .int .i64 0, .int .i64 0] 81) = W1 := ⟨_, rfl⟩
  rw [hW1] at hb1 ⊢
  have HB1 := Lib.hid hb1
  clear hb1 hW1
  refine (HC.out W1 HB1.out).mono ?_
  rintro e w2 ⟨v, rfl, ho, hb2⟩
  obtain ⟨av, bv, cv, rfl, -, -, -, -⟩ := ho.ppl
  have HB2 := Lib.hid (HB1.out.trans (hb2.mono HB1.out.size))
  clear ho hb2 HC
  go_wp2_with fail
  go_ret
  refine ⟨?_, HB2.out⟩
  first
  | (rw [← HS2.out]; rfl)
  | (rw [← HSU.out]; rfl)
  | (show Ending.returned (.int .i64 (wrap64 ((L.length : Int) - (M.length : Int)))) = _; rw [HS2.out]; simp only [Ending.returned.injEq, Value.int.injEq, true_and]; exact HSU.out ▸ HS2.out ▸ rfl)

set_option maxHeartbeats 2000000 in
theorem aloneI (ao : Option Addr) (b cap : Nat) (L : List Per) (la : Option Addr) (lc : Nat) (w : World) (hr : Ppl w ao b 0 L) (hv : pplB L = true) :
    Calls Tryz.prog 50 #[.slice ao L.length cap, .slice la 0 lc, .agg #[.int .i64 0, .int .i64 0, .int .i64 0]] w fun e w' => e = .returned (.int .i64 (aloneG L : Int)) ∧ Below w.heap.size w w' := by
  have HC := Lib.hid (fun (W : World) (hb : Below w.heap.size w W) => dropI ao b cap L la lc W (hr.keep hb (Nat.le_refl _)) hv)
  clear hr hv
  go_enter Tryz.func50, Tryz.ntmps50
  go_wp2_with fail
  have hb1 : Below w.heap.size w (w.alloc (.cells #[.int .i64 0, .int .i64 0, .int .i64 0] 81)) := (Below.refl _ _).alloc (Nat.le_refl _) _
  obtain ⟨W1, hW1⟩ : ∃ W1, w.alloc (.cells #[.int .i64 0, .int .i64 0, .int .i64 0] 81) = W1 := ⟨_, rfl⟩
  rw [hW1] at hb1 ⊢
  have HB1 := Lib.hid hb1
  clear hb1 hW1
  refine (HC.out W1 HB1.out).mono ?_
  rintro e w2 ⟨rfl, hb2⟩
  have HB2 := Lib.hid (HB1.out.trans (hb2.mono HB1.out.size))
  clear hb2 HC
  go_wp2_with fail
  go_ret
  exact ⟨rfl, HB2.out⟩
end Go.Proofs.YtlmlchkolcmhpaaGreatDoor
