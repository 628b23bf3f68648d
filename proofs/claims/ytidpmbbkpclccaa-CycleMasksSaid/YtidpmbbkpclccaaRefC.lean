/- The document's graph: may it be; the rule of a kind. -/
import Derived.Test.YtidpmbbkpclccaaRefB
import Derived.Test.YtidpmbbkpclccaaNewG
namespace Go.Proofs.Ytidpmbbkpclccaa
set_option linter.all false
open Go.RowKit
set_option maxRecDepth 100000

/-- May a graph be, of at most so many vertices, and arcs? -/
def fewI (n : Int) (l : List ArcI) (most arcs : Int) : Bool := decide (0 ≤ n) && decide (n ≤ most) && decide ((l.length : Int) ≤ arcs) && !l.any (badI n)
theorem any_take_succ {l : List ArcI} {k : Nat} (h : k < l.length) (p : ArcI → Bool) : (l.take (k + 1)).any p = ((l.take k).any p || p (l.getD k default)) := by
  rw [take_snoc_a _ _ h, List.any_append]; simp
theorem any_get {l : List ArcI} {k : Nat} (h : k < l.length) {p : ArcI → Bool} (hp : p (l.getD k default) = true) : l.any p = true := by
  rw [List.any_eq_true]
  exact ⟨l.getD k default, by rw [List.getD_eq_getElem?_getD, List.getElem?_eq_getElem h]; exact List.getElem_mem _, hp⟩
set_option maxHeartbeats 2000000 in
theorem Few_is {W : World} {A : Option Addr} {c : Nat} {l : List ArcI} (hl : ArcsAt W A l) (n most arcs : Int) :
    Calls Try.prog 4 #[.int .i64 n, .slice A l.length c, .int .i64 most, .int .i64 arcs] W fun e w' => e = .returned (.bool (fewI n l most arcs)) ∧ W = w' := by
  have hlen := hl.1
  by_cases h0 : 0 ≤ n
  · by_cases h1 : n ≤ most
    · by_cases h2 : (l.length : Int) ≤ arcs
      · have e : fewI n l most arcs = !l.any (badI n) := by simp [fewI, h0, h1, h2]
        rw [e]
        have HA := Lib.hid hl
        clear hl e
        go_enter Try.func4, Try.ntmps4
        go_wp2_with fail
        go_loopw [9] (fun v wr => ∃ k : Nat, k ≤ l.length ∧ v = .int .i64 k ∧ Hid ((l.take k).any (badI n) = false) ∧ wr = W) (fun v _ => l.length - (intOf v).toNat)
        case atStart => exact ⟨0, by omega, rfl, Lib.hid (by simp), rfl⟩
        case round =>
          obtain ⟨k, hk, rfl, HN, rfl⟩ := hrel
          by_cases hlt : k < l.length
          · have hlt' : (k : Int) < (l.length : Int) := by omega
            rcases HA.out.2 with e | ⟨b, o, rfl, hc⟩
            · rw [e] at hlt; cases hlt
            obtain ⟨c1, c2, c3⟩ := hc k hlt
            have hst := any_take_succ hlt (badI n)
            have hget := fun h => any_get (p := badI n) hlt h
            generalize l.getD k default = a at c1 c2 c3 hst hget
            rw [HN.out, Bool.false_or] at hst
            have HS := Lib.hid hst
            have HG := Lib.hid hget
            clear hst hget hc
            by_cases q1 : a.f < 0
            · have hb : badI n a = true := by simp [badI, outI, q1]
              have hx := Lib.hid (HG.out hb)
              go_wp2_with fail
              go_ret
              exact ⟨by rw [hx.out]; rfl, rfl⟩
            · by_cases q2 : n ≤ a.f
              · have hb : badI n a = true := by simp [badI, outI, q2]
                have hx := Lib.hid (HG.out hb)
                go_wp2_with fail
                go_ret
                exact ⟨by rw [hx.out]; rfl, rfl⟩
              · by_cases q3 : a.t < 0
                · have hb : badI n a = true := by simp [badI, outI, q3]
                  have hx := Lib.hid (HG.out hb)
                  go_wp2_with fail
                  go_ret
                  exact ⟨by rw [hx.out]; rfl, rfl⟩
                · by_cases q4 : n ≤ a.t
                  · have hb : badI n a = true := by simp [badI, outI, q4]
                    have hx := Lib.hid (HG.out hb)
                    go_wp2_with fail
                    go_ret
                    exact ⟨by rw [hx.out]; rfl, rfl⟩
                  · have hb : badI n a = false := by simp [badI, outI, q1, q2, q3, q4]
                    have HB := Lib.hid hb
                    clear hb
                    go_wp2_with fail
                    go_roundw
                    case rel => exact ⟨k + 1, by omega, by go_num, Lib.hid (by rw [HS.out, HB.out]), by trivial⟩
                    case measure => simp [intOf]; omega
          · have hx : l.any (badI n) = false := by have := HN.out; rwa [List.take_of_length_le (by omega)] at this
            have HX := Lib.hid hx
            clear hx
            go_wp2_with fail
            go_ret
            exact ⟨by rw [HX.out]; rfl, rfl⟩
      · have e : fewI n l most arcs = false := by simp [fewI, h2]
        rw [e]
        clear e hl
        go_enter Try.func4, Try.ntmps4
        go_wp2_with fail
        go_ret
        exact ⟨rfl, rfl⟩
    · have e : fewI n l most arcs = false := by simp [fewI, h1]
      rw [e]
      clear e hl
      go_enter Try.func4, Try.ntmps4
      go_wp2_with fail
      go_ret
      exact ⟨rfl, rfl⟩
  · have e : fewI n l most arcs = false := by simp [fewI, h0]
    rw [e]
    clear e hl
    go_enter Try.func4, Try.ntmps4
    go_wp2_with fail
    go_ret
    exact ⟨rfl, rfl⟩
end Go.Proofs.Ytidpmbbkpclccaa
