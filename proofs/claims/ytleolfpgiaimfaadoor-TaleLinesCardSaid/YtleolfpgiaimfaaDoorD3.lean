/- Maps keyed by ints, as they lie in memory: what comes of a new entry, and of a look. Nothing of the program. -/
import Derived.Test.YtleolfpgiaimfaaDoorK
import Derived.Maps.RangeRun
namespace Go.Proofs.YtleolfpgiaimfaaDoor
set_option linter.unusedVariables false
set_option linter.unusedSimpArgs false
open Go.RowKit
open Go.ChangeMaps (setBlock)
variable {P : Program}

theorem checkKey_int_n (em : Bool) (n : Nat) (t : TypeId) (z : Int) (w : World) (ht : P.underlying t = some (.int .i64)) : (Instr.checkKey em (n + 1) t (.int .i64 z)).run P w = .ok () w := by
  simp [Instr.checkKey, run_underlying ht]
theorem checkKey_int (em : Bool) (t : TypeId) (z : Int) (w : World) (ht : P.underlying t = some (.int .i64)) : (Instr.checkKey em 10000 t (.int .i64 z)).run P w = .ok () w := checkKey_int_n em 9999 t z w ht
theorem findKey_int (t : TypeId) (z : Int) (es : List MapEntry) (r : Option (Nat × Value)) (w : World) (ht : P.underlying t = some (.int .i64)) (h : Instr.findNow (.int .i64) (.int .i64 z) es 0 = some r) : (Instr.findKey t (.int .i64 z) es).run P w = .ok r w := by
  simp [Instr.findKey, run_underlying ht, h]
/-- a new key's entry -/
theorem run_update_new (w : World) (t k e : TypeId) (b clock : Nat) (es : Array MapEntry) (z : Int) (v : Value) (ht : P.underlying t = some (.map k e)) (hk : P.underlying k = some (.int .i64)) (hb : w.heap[b]? = some (.map es clock)) (hno : Instr.findNow (.int .i64) (.int .i64 z) es.toList 0 = some none) :
    (Instr.mapUpdate t (.map (some b)) (.int .i64 z) v).run P w = .ok () (setBlock w b (.map (es.push ⟨.int .i64 z, v, clock⟩) (clock + 1))) := by
  simp only [Instr.mapUpdate, Sem.run_bind, run_underlying ht, Result.andThen, MapKept.run_getObj_map hb, checkKey_int false k z w hk, findKey_int k z _ _ w hk hno]
  simp [setObj, Sem.run, hb, setBlock]
/-- a look, and whether there is an entry: one is there -/
theorem run_look_hit (w : World) (t k e : TypeId) (b clock i : Nat) (es : Array MapEntry) (z : Int) (v : Value) (ht : P.underlying t = some (.map k e)) (hk : P.underlying k = some (.int .i64)) (hb : w.heap[b]? = some (.map es clock)) (hit : Instr.findNow (.int .i64) (.int .i64 z) es.toList 0 = some (some (i, v))) :
    (Instr.lookup t (.map (some b)) (.int .i64 z) true).run P w = .ok (.tuple #[v, .bool true]) w := by
  simp only [Instr.lookup, Sem.run_bind, run_underlying ht, Result.andThen, MapKept.run_getObj_map hb, checkKey_int es.isEmpty k z w hk, findKey_int k z _ _ w hk hit]
  simp [checkKey_int es.isEmpty k z w hk, findKey_int k z _ _ w hk hit]
/-- a look, and whether there is an entry: none is -/
theorem run_look_miss (w : World) (t k e : TypeId) (b clock : Nat) (es : Array MapEntry) (z : Int) (v : Value) (ht : P.underlying t = some (.map k e)) (hk : P.underlying k = some (.int .i64)) (hb : w.heap[b]? = some (.map es clock)) (hno : Instr.findNow (.int .i64) (.int .i64 z) es.toList 0 = some none) (hz : (zeroValue e).run P w = .ok v w) :
    (Instr.lookup t (.map (some b)) (.int .i64 z) true).run P w = .ok (.tuple #[v, .bool false]) w := by
  simp only [Instr.lookup, Sem.run_bind, run_underlying ht, Result.andThen, MapKept.run_getObj_map hb, checkKey_int es.isEmpty k z w hk, findKey_int k z _ _ w hk hno, hz]
  simp [checkKey_int es.isEmpty k z w hk, findKey_int k z _ _ w hk hno, hz]

end Go.Proofs.YtleolfpgiaimfaaDoor
