/- The graph's predicates on arcs: joined$1, New$1, New$2. -/
import Derived.Test.YtidpmbbkpclccaaStable
namespace Go.Proofs.Ytidpmbbkpclccaa
set_option linter.all false
open Go.RowKit
set_option maxRecDepth 100000

def dropI (a : ArcI) : Bool := a.f == a.t || a.m == 0
theorem drop_is : PredSpec 39 #[] dropI (fun _ => True) := by
  intro a W _
  by_cases h1 : a.f = a.t
  · have e : dropI a = true := by simp [dropI, h1]
    rw [e]
    have hb : (a.f == a.t) = true := by simpa using h1
    go_enter Try.func39, Try.ntmps39
    go_wp2_with fail
    go_ret
    exact ⟨_, rfl, rfl, fr_alloc _ _ _⟩
  · have hb : (a.f == a.t) = false := by simpa using h1
    by_cases h2 : a.m = 0
    · have e : dropI a = true := by simp [dropI, h2]
      rw [e]
      have hb2 : (a.m == 0) = true := by simpa using h2
      go_enter Try.func39, Try.ntmps39
      go_wp2_with fail
      go_ret
      exact ⟨_, rfl, rfl, fr_alloc _ _ _⟩
    · have e : dropI a = false := by simp [dropI, h1, h2]
      rw [e]
      have hb2 : (a.m == 0) = false := by simpa using h2
      go_enter Try.func39, Try.ntmps39
      go_wp2_with fail
      go_ret
      exact ⟨_, rfl, rfl, fr_alloc _ _ _⟩

def BoolPost (b : Bool) (W : World) (v : Value) (w' : World) : Prop := v = .bool b ∧ W = w'
def outI (n v : Int) : Bool := decide (v < 0) || decide (n ≤ v)
theorem out_is {W : World} {nb : Nat} {n : Int} (hn : W.cell? ⟨nb, 0, none⟩ = some (.int .i64 n)) (v : Int) :
    Calls Try.prog 16 #[.int .i64 v, .pointer (some ⟨nb, 0, none⟩)] W (Rets (BoolPost (outI n v) W)) := by
  by_cases h1 : v < 0
  · have e : outI n v = true := by simp [outI, h1]
    rw [e]
    go_enter Try.func16, Try.ntmps16
    go_wp2_with fail
    go_ret
    exact ⟨_, rfl, rfl, rfl⟩
  · by_cases h2 : n ≤ v
    · have e : outI n v = true := by simp [outI, h2]
      rw [e]
      go_enter Try.func16, Try.ntmps16
      go_wp2_with fail
      go_ret
      exact ⟨_, by simp [h2], rfl, rfl⟩
    · have e : outI n v = false := by simp [outI, h1, h2]
      rw [e]
      go_enter Try.func16, Try.ntmps16
      go_wp2_with fail
      go_ret
      exact ⟨_, by simp [h2], rfl, rfl⟩
/-- The boxes that New$2 sees. -/
def OutK (nb ob : Nat) (n : Int) (W : World) : Prop := W.cell? ⟨nb, 0, none⟩ = some (.int .i64 n) ∧ W.cell? ⟨ob, 0, none⟩ = some (.func (.func 16) #[] #[.pointer (some ⟨nb, 0, none⟩)])
def badI (n : Int) (a : ArcI) : Bool := outI n a.f || outI n a.t
theorem out_enters : ∀ args w, (callFunc 16 args).run Try.prog w = .ok (.enter 16 args) w := enters_of Try.func16 (by kernel_rfl) rfl
theorem bad_is {nb ob : Nat} {n : Int} : PredSpec 18 #[.pointer (some ⟨ob, 0, none⟩)] (badI n) (OutK nb ob n) := by
  intro a W ⟨hn, ho⟩
  have hn' : (W.alloc (.cells #[.int .i64 a.f, .int .i64 a.t, .int .i64 a.m] 29)).cell? ⟨nb, 0, none⟩ = some (.int .i64 n) := (fr_alloc (fun _ => False) W _).cell hn (fun x => x)
  have ho' : (W.alloc (.cells #[.int .i64 a.f, .int .i64 a.t, .int .i64 a.m] 29)).cell? ⟨ob, 0, none⟩ = some (.func (.func 16) #[] #[.pointer (some ⟨nb, 0, none⟩)]) := (fr_alloc (fun _ => False) W _).cell ho (fun x => x)
  have hen := out_enters
  have HO := fun v => Lib.hid (out_is hn' v)
  clear hn ho hn'
  cases h1 : outI n a.f
  · cases h2 : outI n a.t
    · have e : badI n a = false := by simp [badI, h1, h2]
      rw [e]
      go_enter Try.func18, Try.ntmps18
      go_wp2_with (go_at_call 16; refine ((HO _).out).mono ?_; rintro e w' ⟨_, rfl, rfl, rfl⟩)
      go_ret
      exact ⟨_, rfl, rfl, fr_alloc _ _ _⟩
    · have e : badI n a = true := by simp [badI, h1, h2]
      rw [e]
      go_enter Try.func18, Try.ntmps18
      go_wp2_with (go_at_call 16; refine ((HO _).out).mono ?_; rintro e w' ⟨_, rfl, rfl, rfl⟩)
      go_ret
      exact ⟨_, rfl, rfl, fr_alloc _ _ _⟩
  · have e : badI n a = true := by simp [badI, h1]
    rw [e]
    go_enter Try.func18, Try.ntmps18
    go_wp2_with (go_at_call 16; refine ((HO _).out).mono ?_; rintro e w' ⟨_, rfl, rfl, rfl⟩)
    go_ret
    exact ⟨_, rfl, rfl, fr_alloc _ _ _⟩
end Go.Proofs.Ytidpmbbkpclccaa
