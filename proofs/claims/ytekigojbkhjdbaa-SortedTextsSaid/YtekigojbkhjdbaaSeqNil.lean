/- A function value held against nil. -/
import Derived.Test.YtekigojbkhjdbaaBase
namespace Go.Proofs.Ytekigojbkhjdbaa
set_option linter.all false
open Go.RowKit

theorem run_equalIn_func {P : Program} (d t : Nat) {ps rs : Array Nat} {vd : Bool} (h : P.underlying t = some (.func ps rs vd)) (f : Fn) (a b : Array Value) (w : World) : (Op.equalIn (d + 1) t (.func f a b) .nilFunc).run P w = .ok false w := by
  simp [Op.equalIn, run_underlying h]
theorem run_equal_func {P : Program} (t : Nat) {ps rs : Array Nat} {vd : Bool} (h : P.underlying t = some (.func ps rs vd)) (f : Fn) (a b : Array Value) (w : World) : (Op.equal t (.func f a b) .nilFunc).run P w = .ok false w := run_equalIn_func 9999 t h f a b w
theorem run_equalIn_nilf {P : Program} (d t : Nat) {ps rs : Array Nat} {vd : Bool} (h : P.underlying t = some (.func ps rs vd)) (w : World) : (Op.equalIn (d + 1) t .nilFunc .nilFunc).run P w = .ok true w := by
  simp [Op.equalIn, run_underlying h]
theorem run_neq_func (w : World) (f : Fn) (a b : Array Value) : (binOp .neq 83 (.func f a b) .nilFunc).run Try.prog w = .ok (.bool true) w := by
  simp only [binOp]
  simp [run_equal_func _ Try.underlying83]
theorem run_eql_func (w : World) (f : Fn) (a b : Array Value) : (binOp .eql 83 (.func f a b) .nilFunc).run Try.prog w = .ok (.bool false) w := by
  simp only [binOp]
  simp [run_equal_func _ Try.underlying83]
end Go.Proofs.Ytekigojbkhjdbaa
