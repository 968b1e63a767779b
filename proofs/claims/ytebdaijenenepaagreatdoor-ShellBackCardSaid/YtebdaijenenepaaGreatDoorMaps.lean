/- Laws on maps whose keys are strings or ints, over any program: a look-up, an update, a deletion, off the entries as they lie. -/
import Derived.Test.YtebdaijenenepaaGreatDoorWords
import Derived.MapKept
import Derived.ChangeMaps
set_option maxRecDepth 100000
namespace Go.Mp
open Go Go.RowKit Go.MapKept

section
variable {P : Program}
/-- What is known of a map type: its key's plain kind. -/
structure Plain (P : Program) (t K E : TypeId) (kd : TypeDesc) : Prop where
  map : P.underlying t = some (.map K E)
  key : P.underlying K = some kd

theorem run_check {t K E : TypeId} {kd : TypeDesc} (h : Plain P t K E kd) (em : Bool) {k : Value} (hk : IsKey kd k) (w : World) : (Instr.checkKey em 10000 K k).run P w = .ok () w :=
  run_checkKey h.key hk em 9999

theorem run_lookup_hit {t K E : TypeId} {kd : TypeDesc} (h : Plain P t K E kd) {w : World} {r : Nat} {es : Array MapEntry} {c : Nat} (hm : w.heap[r]? = some (.map es c)) {k : Value} (ik : IsKey kd k) (ok : Bool) {i : Nat} {v : Value}
    (hf : Instr.findNow kd k es.toList 0 = some (some (i, v))) :
    (Instr.lookup t (.map (some r)) k ok).run P w = .ok (if ok then .tuple #[v, .bool true] else v) w := by
  simp [Instr.lookup, run_underlying h.map, getObj, Sem.run, hm, run_check h _ ik, Instr.findKey, run_underlying h.key, hf]
theorem run_lookup_miss {t K E : TypeId} {kd : TypeDesc} (h : Plain P t K E kd) {w : World} {r : Nat} {es : Array MapEntry} {c : Nat} (hm : w.heap[r]? = some (.map es c)) {k : Value} (ik : IsKey kd k) (ok : Bool) {z : Value}
    (hz : ∀ w, (zeroValue E).run P w = .ok z w) (hf : Instr.findNow kd k es.toList 0 = some none) :
    (Instr.lookup t (.map (some r)) k ok).run P w = .ok (if ok then .tuple #[z, .bool false] else z) w := by
  simp [Instr.lookup, run_underlying h.map, getObj, Sem.run, hm, run_check h _ ik, Instr.findKey, run_underlying h.key, hf, hz]

/-- The world with another map in block r. -/
def mapAt (w : World) (r : Nat) (es : Array MapEntry) (c : Nat) : World := { w with heap := w.heap.setIfInBounds r (.map es c) }
theorem mapAt_heap {w : World} {r : Nat} {o : Obj} (h : w.heap[r]? = some o) (es : Array MapEntry) (c : Nat) : (mapAt w r es c).heap[r]? = some (.map es c) := by
  simp [mapAt, Array.getElem?_setIfInBounds_self_of_lt (Array.getElem?_eq_some_iff.1 h).1]
theorem mapAt_other (w : World) {r k : Nat} (es : Array MapEntry) (c : Nat) (h : k ≠ r) : (mapAt w r es c).heap[k]? = w.heap[k]? := by
  simp [mapAt, Array.getElem?_setIfInBounds_ne (Ne.symm h)]
theorem mapAt_size (w : World) (r : Nat) (es : Array MapEntry) (c : Nat) : (mapAt w r es c).heap.size = w.heap.size := by simp [mapAt]

theorem mapAt_facts {w : World} {r : Nat} {o : Obj} (h : w.heap[r]? = some o) (es : Array MapEntry) (c : Nat) :
    ∃ w', w' = mapAt w r es c ∧ w'.heap[r]? = some (.map es c) ∧ (∀ j, j ≠ r → w'.heap[j]? = w.heap[j]?) ∧ w'.heap.size = w.heap.size ∧ ∀ B, B ≤ r → Below B w w' :=
  ⟨_, rfl, mapAt_heap h _ _, fun j hj => mapAt_other w _ _ hj, mapAt_size w r _ _, fun B hB => ⟨rfl, rfl, rfl, by simp [mapAt], fun j hj => mapAt_other w _ _ (by omega)⟩⟩

theorem run_update_new {t K E : TypeId} {kd : TypeDesc} (h : Plain P t K E kd) {w : World} {r : Nat} {es : Array MapEntry} {c : Nat} (hm : w.heap[r]? = some (.map es c)) {k : Value} (ik : IsKey kd k) (v : Value)
    (hf : Instr.findNow kd k es.toList 0 = some none) :
    (Instr.mapUpdate t (.map (some r)) k v).run P w = .ok () (mapAt w r (es.push { key := k, val := v, born := c }) (c + 1)) := by
  simp [Instr.mapUpdate, run_underlying h.map, getObj, setObj, Sem.run, hm, run_check h _ ik, Instr.findKey, run_underlying h.key, hf, mapAt]
end

section
variable {P : Program} {ops : Array Oper} {Q : Exit → Act → World → Prop} {a : Act} {w : World} {rest : List Oper} {o : Oper}
theorem wpList_insert_new {t K E : TypeId} {kd : TypeDesc} (hgd : o.guard = none) (m k x : Operand) (ho : o.op = .insert t m k x) (h : Plain P t K E kd) {r : Nat} {es : Array MapEntry} {c : Nat}
    (hm : a.eval m = .map (some r)) (hw : w.heap[r]? = some (.map es c)) {kv v : Value} (hk : a.eval k = kv) (hv : a.eval x = v) (ik : IsKey kd kv) (hf : Instr.findNow kd kv es.toList 0 = some none)
    (hn : ∀ w', w'.heap[r]? = some (.map (es.push { key := kv, val := v, born := c }) (c + 1)) → (∀ j, j ≠ r → w'.heap[j]? = w.heap[j]?) → w'.heap.size = w.heap.size → (∀ B, B ≤ r → Below B w w') → wpList P ops Q rest (a.put o.dst undef) w') :
    wpList P ops Q (o :: rest) a w := by
  refine wpList_plain hgd fun K' hK => ?_
  unfold Oper.wp
  have e : execOp a.eval o = (do Instr.mapUpdate t (a.eval m) (a.eval k) (a.eval x); pure .skip) := by simp only [execOp, ho]
  rw [e, hm, hk, hv, Sem.run_bind, run_update_new h hw ik v hf]
  simp only [Result.andThen, Oper.upon]
  refine hK _ _ (hn _ (mapAt_heap hw _ _) (fun j hj => mapAt_other w _ _ hj) (mapAt_size w r _ _) fun B hB => ?_)
  exact ⟨rfl, rfl, rfl, by simp [mapAt], fun j hj => mapAt_other w _ _ (by omega)⟩
end
end Go.Mp
