/-
  Function values held against nil.
-/
import Derived.Test.YtfbkkhfmboaknaaGreatDoorBase
namespace Go.Proofs.YtfbkkhfmboaknaaGreatDoor
open Go Go.RowKit
theorem run_equalIn_func {P : Program} (w : World) (d : Nat) (t : TypeId) {ps rs : Array TypeId} {b : Bool} (f : Fn) (ts cs : Array Value) (h : P.underlying t = some (.func ps rs b)) : (Op.equalIn (d + 1) t (.func f ts cs) .nilFunc).run P w = .ok false w := by
  simp [Op.equalIn, run_underlying h]
theorem run_eql_func_nil {P : Program} (w : World) (t : TypeId) {ps rs : Array TypeId} {b : Bool} (f : Fn) (ts cs : Array Value) (h : P.underlying t = some (.func ps rs b)) : (binOp .eql t (.func f ts cs) .nilFunc).run P w = .ok (.bool false) w := by
  simp only [binOp]
  simp [show Op.equal t (.func f ts cs) .nilFunc = Op.equalIn (9999 + 1) t (.func f ts cs) .nilFunc from rfl, run_equalIn_func w 9999 t f ts cs h]
theorem run_equalIn_nilFunc {P : Program} (w : World) (d : Nat) (t : TypeId) {ps rs : Array TypeId} {b : Bool} (h : P.underlying t = some (.func ps rs b)) : (Op.equalIn (d + 1) t .nilFunc .nilFunc).run P w = .ok true w := by
  simp [Op.equalIn, run_underlying h]
theorem run_eql_nilFunc {P : Program} (w : World) (t : TypeId) {ps rs : Array TypeId} {b : Bool} (h : P.underlying t = some (.func ps rs b)) : (binOp .eql t .nilFunc .nilFunc).run P w = .ok (.bool true) w := by
  simp only [binOp]
  simp [show Op.equal t .nilFunc .nilFunc = Op.equalIn (9999 + 1) t .nilFunc .nilFunc from rfl, run_equalIn_nilFunc w 9999 t h]
end Go.Proofs.YtfbkkhfmboaknaaGreatDoor
