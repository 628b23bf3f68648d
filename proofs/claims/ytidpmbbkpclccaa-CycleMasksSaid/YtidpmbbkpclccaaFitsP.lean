/- Labels that fit: the program's answer, walked. -/
import Derived.Test.YtidpmbbkpclccaaNeeds
import Derived.Test.YtidpmbbkpclccaaFuncI
namespace Go.Proofs.Ytidpmbbkpclccaa
set_option linter.all false
open Go.RowKit
set_option maxRecDepth 100000

def canN (n : Need) (had : Nat) (ms : List Int) : Bool := canI n.may n.counts n.least (mostN n) had ms
/-- Labels that fit, as the program has it. -/
def fitsP (kind : Int) (xs : List Int) : Bool := match needK kind with
  | none => false
  | some n => decide (1 < xs.length) && (!xs.any notLab && canN n 0 xs)
/-- A block of four cells. -/
def FourB (W : World) (b : Nat) (x y z w : Int) : Prop := W.heap[b]? = some (.cells #[.int .i64 x, .int .i64 y, .int .i64 z, .int .i64 w] 58 (0, 0))
section
variable {W W' : World} {b : Nat} {x y z w : Int}
theorem FourB.c0 (h : FourB W b x y z w) : W.cell? ⟨b, 0, none⟩ = some (.int .i64 x) := by unfold FourB at h; simp [World.cell?, h]
theorem FourB.c1 (h : FourB W b x y z w) : W.cell? ⟨b, 1, none⟩ = some (.int .i64 y) := by unfold FourB at h; simp [World.cell?, h]
theorem FourB.c2 (h : FourB W b x y z w) : W.cell? ⟨b, 2, none⟩ = some (.int .i64 z) := by unfold FourB at h; simp [World.cell?, h]
theorem FourB.c3 (h : FourB W b x y z w) : W.cell? ⟨b, 3, none⟩ = some (.int .i64 w) := by unfold FourB at h; simp [World.cell?, h]
theorem FourB.new (W : World) (x y z w : Int) : FourB (W.alloc (.cells #[.int .i64 x, .int .i64 y, .int .i64 z, .int .i64 w] 58)) W.heap.size x y z w := World.alloc_heap_new W _
theorem FourB.fr {S : Nat → Prop} (h : FourB W b x y z w) (f : Fr S W W') (hs : ¬ S b) : FourB W' b x y z w := f.heap h hs
theorem FourB.fr0 (h : FourB W b x y z w) (f : Fr0 W W') : FourB W' b x y z w := f.heap h (fun x => x)
end
theorem fits1_spec : PredSpecI 33 #[] notLab (fun _ => True) := by
  intro x w _
  exact Fits1_is x w
set_option maxHeartbeats 4000000 in
theorem Fits_is {W : World} {kind : Int} (hk : (Lit.int .i64 kind).wf = true) {A : Option Addr} {cp : Nat} {xs : List Int} (h : IntsAt W A xs) (hsm : xs.length ≤ 1000000) :
    Calls Try.prog 15 #[.int .i64 kind, .slice A xs.length cp] W (Rets (SamePost (fitsP kind xs) W)) := by
  have HX := Lib.hid h
  have HN := Lib.hid (Needs_is (W := W) hk)
  clear h
  unfold NeedPost at HN
  cases hK : needK kind with
  | none =>
    have HF : Hid (fitsP kind xs = false) := Lib.hid (by unfold fitsP; rw [hK])
    rw [hK] at HN
    clear hK
    go_enter Try.func15, Try.ntmps15
    go_wp2_with (go_at_call 22; refine HN.out.mono ?_; rintro e w1 ⟨_, rfl, hf1, a, b, c, d, rfl, hn⟩; simp only [needV, Option.isSome_none])
    go_ret
    exact ⟨_, rfl, by rw [HF.out]; rfl, hf1.alloc _⟩
  | some n =>
    have HF : Hid (fitsP kind xs = (decide (1 < xs.length) && (!xs.any notLab && canI n.may n.counts n.least (mostN n) 0 xs))) := Lib.hid (by unfold fitsP canN; rw [hK])
    rw [hK] at HN
    clear hK
    obtain ⟨b1, hb1⟩ : ∃ b1, xs.any notLab = b1 := ⟨_, rfl⟩
    obtain ⟨b2, hb2⟩ : ∃ b2, canI n.may n.counts n.least (mostN n) 0 xs = b2 := ⟨_, rfl⟩
    rw [hb1, hb2] at HF
    have HB1 := Lib.hid hb1
    have HB2 := Lib.hid hb2
    clear hb1 hb2
    have HIx : ∀ w, Fr0 W w → Hid (Calls Try.prog 35 #[.slice A xs.length cp, .func (.func 33) #[] #[]] w (Rets (PredPostI b1 w))) := fun w hw => Lib.hid (by have h := ContainsFuncI_is (c := cp) (K := fun _ => True) fits1_spec (fun _ _ _ _ => trivial) (fun _ _ => rfl) (HX.out.fr0 hw) hsm trivial; rw [HB1.out] at h; exact h)
    have HC : ∀ w, Fr0 W w → Hid (Calls Try.prog 23 #[needV n.may n.counts n.least (mostN n), .int .i64 0, .slice A xs.length cp] w (Rets (SamePost b2 w))) := fun w hw => Lib.hid (by have h := Can_is (a := (n.may : Int)) (b := n.counts) (c := n.least) (d := mostN n) (cp := cp) (had := 0) (HX.out.fr0 hw) hsm (by omega); rw [HB2.out] at h; exact h)
    have HIx2 := Lib.hid HIx
    have HC2 := Lib.hid HC
    clear HIx HC
    obtain ⟨a, b, c, d, hn⟩ : ∃ a b c d : Int, nV n = needV a b c d := ⟨_, _, _, _, rfl⟩
    rw [show needV (n.may : Int) n.counts n.least (mostN n) = nV n from rfl, hn] at HC2
    have HNN := Lib.hid hn
    clear hn
    simp only [needV] at HC2
    by_cases h1 : 1 < xs.length
    · have h1' : (1 : Int) < (xs.length : Int) := by omega
      have h2 : decide (1 < xs.length) = true := by simp [h1]
      rw [h2] at HF
      clear h1 h2
      cases b1 with
      | true =>
        go_enter Try.func15, Try.ntmps15
        go_wp2_with (first | (go_at_call 35; refine (HIx2.out _ (hf1.alloc _)).out.mono ?_; rintro e w3 ⟨_, rfl, rfl, hf3⟩) | (go_at_call 22; refine HN.out.mono ?_; rintro e w1 ⟨_, rfl, hf1, a', b', c', d', rfl, hn⟩; rw [(hn n rfl).trans HNN.out]; clear hn; simp only [needV, Option.isSome_some]))
        go_ret
        exact ⟨_, rfl, by rw [HF.out]; rfl, (hf1.alloc _).trans0 hf3⟩
      | false =>
        go_enter Try.func15, Try.ntmps15
        go_wp2_with (first | (go_at_call 23; refine (HC2.out _ ((hf1.alloc _).trans0 hf3)).out.mono ?_; rintro e w4 ⟨_, rfl, rfl, hf4⟩) | (go_at_call 35; refine (HIx2.out _ (hf1.alloc _)).out.mono ?_; rintro e w3 ⟨_, rfl, rfl, hf3⟩; have h4 := (FourB.new w1 a b c d).fr0 hf3; have k0 := h4.c0; have k1 := h4.c1; have k2 := h4.c2; have k3 := h4.c3; clear h4) | (go_at_call 22; refine HN.out.mono ?_; rintro e w1 ⟨_, rfl, hf1, a', b', c', d', rfl, hn⟩; rw [(hn n rfl).trans HNN.out]; clear hn; simp only [needV, Option.isSome_some]))
        go_ret
        exact ⟨_, rfl, by rw [HF.out]; rfl, ((hf1.alloc _).trans0 hf3).trans0 hf4⟩
    · have h1' : ¬ (1 : Int) < (xs.length : Int) := by omega
      have h2 : decide (1 < xs.length) = false := by simp [h1]
      rw [h2] at HF
      clear h1 h2
      go_enter Try.func15, Try.ntmps15
      go_wp2_with (go_at_call 22; refine HN.out.mono ?_; rintro e w1 ⟨_, rfl, hf1, a', b', c', d', rfl, hn⟩; rw [(hn n rfl).trans HNN.out]; clear hn; simp only [needV, Option.isSome_some])
      go_ret
      exact ⟨_, rfl, by rw [HF.out]; rfl, hf1.alloc _⟩
end Go.Proofs.Ytidpmbbkpclccaa
