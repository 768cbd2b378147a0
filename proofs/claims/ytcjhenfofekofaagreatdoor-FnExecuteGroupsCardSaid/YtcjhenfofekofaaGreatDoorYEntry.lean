/-
  An entry of a map of the call's own: looked up, made and stored, in either order.
-/
import Derived.Maps.OwnSet
import Derived.Maps.OwnOps
import Derived.WideKeyEntry
import Derived.Test.YtcjhenfofekofaaGreatDoorJ1
namespace Go.Proofs.YtcjhenfofekofaaGreatDoor
open Go.RowKit Go.Maps Go.WideShapes

section
variable {P : Program} {k e t : TypeId} {b : Nat} {es : Array MapEntry} {clock : Nat} {key : Value} {kl : Lit}
theorem look_found (K : WideMaps.KeyLaw P k) (ht : P.underlying t = some (.map k e)) {W : World} (hb : W.heap[b]? = some (.map es clock)) (hkey : keyOf P k key = some kl) {j : Nat} {v : Value} (hf : (Instr.findKey k key es.toList).run P W = .ok (some (j, v)) W) :
    (Instr.lookup t (.map (some b)) key false).run P W = .ok v W := by
  simp [Instr.lookup, run_underlying ht, MapKept.run_getObj_map hb, K.check W _ hkey, hf, Result.andThen]
theorem look_lost (K : WideMaps.KeyLaw P k) (ht : P.underlying t = some (.map k e)) {z : Value} (hz : ∀ u : World, (zeroValue e).run P u = .ok z u) {W : World} (hb : W.heap[b]? = some (.map es clock)) (hkey : keyOf P k key = some kl) (hf : (Instr.findKey k key es.toList).run P W = .ok none W) :
    (Instr.lookup t (.map (some b)) key false).run P W = .ok z W := by
  simp [Instr.lookup, run_underlying ht, MapKept.run_getObj_map hb, K.check W _ hkey, hf, hz, Result.andThen]
theorem entry_law {R : Value → Option (DataW Unit × List MemPlace)} {n : Nat} {D : DataW Unit} {V : World} (K : WideMaps.KeyLaw P k) (ht : P.underlying t = some (.map k e)) {z : Value} (hz : ∀ u : World, (zeroValue e).run P u = .ok z u)
    (hown : V.ownsMap P k R b n D) (hn : n < maxLen) {v0 val : Value} {d : DataW Unit} {ps : List MemPlace} (hkey : keyOf P k key = some kl) (hlook : (Instr.lookup t (.map (some b)) key false).run P V = .ok v0 V) (hval : R val = some (d, ps)) :
    ∃ (st : Nat) (W2 W3 : World), (Instr.mapEntry t (.map (some b)) key).run P V = .ok (.tuple #[v0, goInt st]) W2 ∧ (Instr.lookup t (.map (some b)) key false).run P W2 = .ok v0 W2 ∧
      (Instr.entryStore t (.map (some b)) (goInt st) val).run P W2 = .ok () W3 ∧ W3.ownsMap P k R b (n + 1) (D.put kl d) ∧ V.grownBy W3 (some b) := by
  have hkeep := hown
  obtain ⟨es, clock, hb, F, hs, hD⟩ := hown
  obtain ⟨v, st, es1, clock1, h1, h2, h3⟩ := WideElems.entry_then_store K ht hz hb F hkey
  obtain ⟨w', hu, ho, hg⟩ := hkeep.update (Keyed.of_law K) ht hn hkey hval
  have hb1 := ChangeMaps.heap_setBlock_same hb (.map es1 clock1)
  obtain ⟨es', clock', h4, h5⟩ := h3 (ChangeMaps.setBlock V b (.map es1 clock1)) val hb1
  have e3 : ChangeMaps.setBlock V b (.map es' clock') = w' := by
    rw [h5] at hu
    simpa using hu
  have key2 : v = v0 ∧ (Instr.lookup t (.map (some b)) key false).run P (ChangeMaps.setBlock V b (.map es1 clock1)) = .ok v0 (ChangeMaps.setBlock V b (.map es1 clock1)) := by
    rcases K.find V hkey es.toList F.keys with ⟨f1, f2⟩ | ⟨j, e0, f1, f2, f3⟩
    · have hl := look_lost K ht hz hb hkey f1
      rw [hlook] at hl
      injection hl with hl _
      subst hl
      have hm : (Instr.mapEntry t (.map (some b)) key).run P V = .ok (.tuple #[v0, goInt clock]) (ChangeMaps.setBlock V b (.map (es.push ⟨key, v0, clock⟩) (clock + 1))) := by
        simp [Instr.mapEntry, run_underlying ht, MapKept.run_getObj_map hb, K.check V false hkey, f1, hz, MapKept.run_setObj_map _ hb, Result.andThen, ChangeMaps.setBlock]
      rw [h1] at hm
      injection hm with hm1 hm2
      have hv : v = v0 := by
        injection hm1 with hm1
        have := congrArg (fun a : Array Value => a[0]?) hm1
        simpa using this
      have hes : es1 = es.push ⟨key, v0, clock⟩ := by
        have := congrArg (fun w : World => w.heap[b]?) hm2
        rw [hb1, ChangeMaps.heap_setBlock_same hb] at this
        injection this with this
        injection this with this _
      subst hes
      refine ⟨hv, ?_⟩
      have hkeys : ∀ x ∈ (es.push ⟨key, v0, clock⟩).toList, ∃ l, keyOf P k x.key = some l := by
        intro x hx
        rw [Array.toList_push, List.mem_append, List.mem_singleton] at hx
        rcases hx with hx | rfl
        · exact F.keys x hx
        · exact ⟨kl, hkey⟩
      rcases K.find (ChangeMaps.setBlock V b (.map (es.push ⟨key, v0, clock⟩) clock1)) hkey _ hkeys with ⟨_, g2⟩ | ⟨j, e0, g1, g2, g3⟩
      · exact absurd rfl (g2 ⟨key, v0, clock⟩ (by simp))
      · have hmem := List.mem_of_getElem? g2
        rw [Array.toList_push, List.mem_append, List.mem_singleton] at hmem
        rcases hmem with hmem | rfl
        · exact absurd g3 (f2 e0 hmem)
        · exact look_found K ht hb1 hkey g1
    · have hl := look_found K ht hb hkey f1
      rw [hlook] at hl
      injection hl with hl _
      subst hl
      have hj : es[j]? = some e0 := by simpa using f2
      have hsame : es.modify j (fun e => { e with key := key }) = es := by
        apply Array.ext
        · simp
        · intro i h1 h2
          rw [Array.getElem_modify]
          split
          · rename_i hij
            subst hij
            rw [Array.getElem?_eq_getElem h2] at hj
            injection hj with hj
            rw [hj, ← f3]
          · rfl
      have hm : (Instr.mapEntry t (.map (some b)) key).run P V = .ok (.tuple #[e0.val, goInt e0.born]) (ChangeMaps.setBlock V b (.map es clock)) := by
        simp [Instr.mapEntry, run_underlying ht, MapKept.run_getObj_map hb, K.check V false hkey, f1, hj, f3, K.stays V hkey, hsame, MapKept.run_setObj_map _ hb, Result.andThen, ChangeMaps.setBlock]
      rw [h1] at hm
      injection hm with hm1 hm2
      have hv : v = e0.val := by
        injection hm1 with hm1
        have := congrArg (fun a : Array Value => a[0]?) hm1
        simpa using this
      have hes : es1 = es := by
        have := congrArg (fun w : World => w.heap[b]?) hm2
        rw [hb1, ChangeMaps.heap_setBlock_same hb] at this
        injection this with this
        injection this with this _
      subst hes
      refine ⟨hv, ?_⟩
      rcases K.find (ChangeMaps.setBlock V b (.map es1 clock1)) hkey es1.toList F.keys with ⟨_, g2⟩ | ⟨j', e1, g1, g2, g3⟩
      · exact absurd f3 (g2 e0 (List.mem_of_getElem? f2))
      · have hjj : j = j' := by
          refine (List.getElem?_inj (l := es1.toList.map (·.key)) (by rw [List.length_map]; exact (List.getElem?_eq_some_iff.1 f2).1) F.stamped.2.2).1 ?_
          rw [List.getElem?_map, List.getElem?_map, f2, g2, Option.map_some, Option.map_some, f3, g3]
        subst hjj
        rw [f2] at g2
        have g2 := Option.some.inj g2
        have g4 := g2.symm
        clear g2
        subst g4
        exact look_found K ht hb1 hkey g1
  obtain ⟨rfl, hl2⟩ := key2
  have e4 : ChangeMaps.setBlock (ChangeMaps.setBlock V b (.map es1 clock1)) b (.map es' clock') = w' := by
    rw [← e3]
    simp [ChangeMaps.setBlock]
  exact ⟨st, _, _, h1, hl2, h4, by rw [e4]; exact ho, by rw [e4]; exact hg⟩
end
end Go.Proofs.YtcjhenfofekofaaGreatDoor
