/- Stable, Preds, JoinedPure, Joined, in one text. -/
import Derived.Test.YtdcjfpjpboafnaaDoorMergeC
import Derived.Deep.Onto
import Derived.BigRegion
namespace Go.Proofs.YtdcjfpjpboafnaaDoor
set_option linter.all false
open Go.RowKit
set_option maxRecDepth 100000

/-- From a on, runs of s are sorted. -/
def Runs (l : List ArcI) (s a n : Nat) : Prop := ∀ q, SortedOn l (a + q * s) (min (a + q * s + s) n)
/-- The first k runs of t are sorted. -/
def DoneR (l : List ArcI) (t k : Nat) : Prop := ∀ q, q < k → SortedOn l (q * t) (q * t + t)
theorem SortedOn.of {l l' : List ArcI} {x y : Nat} (h : SortedOn l x y) (he : ∀ p, x ≤ p → p < y → l'[p]? = l[p]?) : SortedOn l' x y := by
  intro p q a b c
  rw [getD_of_get (he p a (by omega)), getD_of_get (he q (by omega) c)]; exact h p q a b c
theorem DoneR.zero (l : List ArcI) (t : Nat) : DoneR l t 0 := fun q h => by omega
theorem DoneR.keep {l l' : List ArcI} {t k a b : Nat} (h : DoneR l t k) (ha : a = k * t) (hs : Shuf l l' a b) : DoneR l' t k := by
  intro q hq
  refine (h q hq).of fun p _ hp => hs.pre p ?_
  have : (q + 1) * t ≤ k * t := Nat.mul_le_mul_right t hq
  rw [Nat.succ_mul] at this
  omega
theorem DoneR.step {l l' : List ArcI} {t k a b : Nat} (h : DoneR l t k) (ha : a = k * t) (hb : b = a + t) (hs : Shuf l l' a b) (hn : SortedOn l' a b) : DoneR l' t (k + 1) := by
  intro q hq
  by_cases e : q = k
  · rw [e, ← ha, ← hb]; exact hn
  · exact h.keep ha hs q (by omega)
theorem DoneR.fin {l l' : List ArcI} {t k a n : Nat} (h : DoneR l t k) (ha : a = k * t) (hs : Shuf l l' a n) (hn : SortedOn l' a n) (hlt : n < a + t) (han : a ≤ n) : Runs l' t 0 n := by
  intro q
  rw [Nat.zero_add]
  by_cases e : q < k
  · have : (q + 1) * t ≤ k * t := Nat.mul_le_mul_right t e
    rw [Nat.succ_mul] at this
    rw [Nat.min_eq_left (by omega)]
    exact h.keep ha hs q e
  · by_cases e2 : q = k
    · rw [e2, ← ha, Nat.min_eq_right (by omega)]; exact hn
    · have : (k + 1) * t ≤ q * t := Nat.mul_le_mul_right t (by omega)
      rw [Nat.succ_mul] at this
      intro p r h1 h2 h3
      omega
theorem Runs.first {l : List ArcI} {s a n : Nat} (h : Runs l s a n) : SortedOn l a (min (a + s) n) := by
  have := h 0
  rwa [Nat.zero_mul, Nat.add_zero] at this
theorem Runs.next {l : List ArcI} {s a n : Nat} (h : Runs l s a n) : Runs l s (a + s) n := by
  intro q
  have := h (q + 1)
  rw [Nat.succ_mul] at this
  have e : a + s + q * s = a + (q * s + s) := by omega
  rw [e]; exact this
theorem Runs.keep {l l' : List ArcI} {s a b n : Nat} (h : Runs l s b n) (hs : Shuf l l' a b) : Runs l' s b n := by
  intro q
  exact (h q).of fun p hp _ => hs.post p (by omega)
theorem Runs.all {l : List ArcI} {s n : Nat} (h : Runs l s 0 n) (hs : n ≤ s) : SortedOn l 0 n := by
  have := h.first
  rwa [Nat.min_eq_right (by omega)] at this

set_option maxHeartbeats 4000000 in
theorem stable_is {W : World} {b cap N : Nat} {arr : List ArcI} {tail : List Value} (h : ArrAt W b arr tail) (hN : arr.length = N) (hlen : N ≤ 17592186044416) :
    Calls Tryd.prog 74 #[.slice (some ⟨b, 0, none⟩) N cap, .int .i64 N, .func (.func 62) #[] #[]] W (Rets (SortPost W b tail arr 0 N)) := by
  have hen := stands_enters
  have HN := Lib.hid hN
  clear hN
  go_enter Tryd.func74, Tryd.ntmps74
  go_wp2_with fail
  go_loopw [7, 8] (fun va vb wr => ∃ (k a : Nat) (cur : List ArcI), va = .int .i64 a ∧ vb = .int .i64 ((a : Int) + 20) ∧ a ≤ N ∧ Hid (a = k * 20) ∧ Hid (DoneR cur 20 k) ∧ Hid (Shuf arr cur 0 N) ∧ ArrAt wr b cur tail ∧ Fr (fun k => k = b) W wr) (fun va _ _ => N - (intOf va).toNat)
  case atStart => exact ⟨0, 0, arr, rfl, rfl, by omega, Lib.hid (by omega), Lib.hid (DoneR.zero _ _), Lib.hid (Shuf.refl _ _ _), h, Fr.refl _ _⟩
  case round =>
    obtain ⟨k, a, cur, rfl, rfl, hle, HK, HD, HSH, ha, hf⟩ := hrel
    have HcN := Lib.hid (HSH.out.len.trans HN.out)
    by_cases hlt : a + 20 ≤ N
    · have b1 : (a : Int) + 20 ≤ (N : Int) := by omega
      go_wp2_with fail
      refine (insertion_is ha HcN.out hlen _ _ a (a + 20) rfl (by omega) (by omega) (by omega)).mono ?_
      rintro ee w' ⟨_, rfl, rfl, hf2, T1, k1, k2, ha2⟩
      go_wp2_with fail
      go_roundw
      case rel => exact ⟨k + 1, a + 20, T1, by go_num, by go_num, by omega, Lib.hid (by have := HK.out; omega), Lib.hid (HD.out.step HK.out rfl k1 k2), Lib.hid (HSH.out.trans k1 (by omega) (by omega)), ha2, hf.trans hf2 (fun _ _ h => h)⟩
      case measure => simp [intOf]; omega
    · have b1 : ¬ ((a : Int) + 20 ≤ (N : Int)) := by omega
      go_wp2_with fail
      refine (insertion_is ha HcN.out hlen _ _ a N rfl rfl hle (by omega)).mono ?_
      rintro ee w' ⟨_, rfl, rfl, hf2, T1, k1, k2, ha2⟩
      have HSH2 := Lib.hid (HSH.out.trans k1 (by omega) (Nat.le_refl _))
      have HR := Lib.hid (HD.out.fin HK.out k1 k2 (by omega) hle)
      have hf3 := hf.trans hf2 (fun _ _ h => h)
      clear HK HD HSH HcN ha hf k1 k2 hlt b1 hle hf2
      go_wp2_with fail
      go_loopw [6] (fun vs wr => ∃ (s : Nat) (cur : List ArcI), vs = .int .i64 s ∧ 0 < s ∧ s ≤ 2 * N + 20 ∧ Hid (Runs cur s 0 N) ∧ Hid (Shuf arr cur 0 N) ∧ ArrAt wr b cur tail ∧ Fr (fun k => k = b) W wr) (fun vs _ => N - (intOf vs).toNat)
      case atStart => exact ⟨20, T1, rfl, by omega, by omega, HR, HSH2, ha2, hf3⟩
      case round =>
        clear HR HSH2 ha2 hf3
        obtain ⟨s, cur, rfl, hs0, hsN, HR, HSH, ha, hf⟩ := hrel
        by_cases hlt : s < N
        · have b1 : (s : Int) < (N : Int) := by omega
          go_wp2_with fail
          go_loopw [7, 8] (fun va vb wr => ∃ (k a : Nat) (cur : List ArcI), va = .int .i64 a ∧ vb = .int .i64 ((a : Int) + 2 * s) ∧ a ≤ N ∧ Hid (a = k * (2 * s)) ∧ Hid (DoneR cur (2 * s) k) ∧ Hid (Runs cur s a N) ∧ Hid (Shuf arr cur 0 N) ∧ ArrAt wr b cur tail ∧ Fr (fun k => k = b) W wr) (fun va _ _ => N - (intOf va).toNat)
          case atStart => exact ⟨0, 0, cur, rfl, int_eq (by omega), by omega, Lib.hid (by omega), Lib.hid (DoneR.zero _ _), HR, HSH, ha, hf⟩
          case round =>
            clear HR HSH ha hf
            obtain ⟨k, a, cur, rfl, rfl, hle, HK, HD, HR, HSH, ha, hf⟩ := hrel
            have HcN := Lib.hid (HSH.out.len.trans HN.out)
            by_cases hlt2 : a + 2 * s ≤ N
            · have b2 : (a : Int) + 2 * (s : Int) ≤ (N : Int) := by omega
              have r1 := HR.out.first
              have r2 := HR.out.next.first
              rw [Nat.min_eq_left (by omega)] at r1 r2
              have R1 := Lib.hid r1
              have R2 := Lib.hid r2
              clear r1 r2
              go_wp2_with fail
              refine (symMerge_is (a + 2 * s - a) _ b cap N cur tail _ _ _ a (a + s) (a + 2 * s) ha HcN.out hlen rfl (by omega) (by omega) (by omega) (by omega) (by omega) (Nat.le_refl _) R1.out (by have := R2.out; rwa [show a + s + s = a + 2 * s by omega] at this)).mono ?_
              rintro ee w' ⟨_, rfl, rfl, hf2, T1, k1, k2, ha2⟩
              go_wp2_with fail
              go_roundw
              case rel => exact ⟨k + 1, a + 2 * s, T1, int_eq (by omega), int_eq (by omega), by omega, Lib.hid (by rw [Nat.succ_mul k]; have := HK.out; omega), Lib.hid (HD.out.step HK.out rfl k1 k2), Lib.hid (by have h := HR.out.next.next; rw [show a + s + s = a + 2 * s by omega] at h; exact h.keep k1), Lib.hid (HSH.out.trans k1 (by omega) (by omega)), ha2, hf.trans hf2 (fun _ _ h => h)⟩
              case measure => simp [intOf]; omega
            · have b2 : ¬ ((a : Int) + 2 * (s : Int) ≤ (N : Int)) := by omega
              by_cases hm : a + s < N
              · have b3 : (a : Int) + (s : Int) < (N : Int) := by omega
                have r1 := HR.out.first
                have r2 := HR.out.next.first
                rw [Nat.min_eq_left (by omega)] at r1
                rw [Nat.min_eq_right (by omega)] at r2
                have R1 := Lib.hid r1
                have R2 := Lib.hid r2
                clear r1 r2
                go_wp2_with fail
                refine (symMerge_is (N - a) _ b cap N cur tail _ _ _ a (a + s) N ha HcN.out hlen rfl (by omega) rfl (by omega) hm (Nat.le_refl _) (Nat.le_refl _) R1.out R2.out).mono ?_
                rintro ee w' ⟨_, rfl, rfl, hf2, T1, k1, k2, ha2⟩
                go_wp2_with fail
                go_roundw
                case rel => exact ⟨s * 2, T1, int_eq (by omega), by omega, by omega, Lib.hid (by rw [Nat.mul_comm]; exact HD.out.fin HK.out k1 k2 (by omega) hle), Lib.hid (HSH.out.trans k1 (by omega) (Nat.le_refl _)), ha2, hf.trans hf2 (fun _ _ h => h)⟩
                case measure => simp [intOf]; omega
              · have b3 : ¬ ((a : Int) + (s : Int) < (N : Int)) := by omega
                have r1 := HR.out.first
                rw [Nat.min_eq_right (by omega)] at r1
                have R1 := Lib.hid r1
                clear r1
                go_wp2_with fail
                go_roundw
                case rel => exact ⟨s * 2, cur, int_eq (by omega), by omega, by omega, Lib.hid (by rw [Nat.mul_comm]; exact HD.out.fin HK.out (Shuf.refl _ _ _) R1.out (by omega) hle), HSH, ha, hf⟩
                case measure => simp [intOf]; omega
        · have b1 : ¬ ((s : Int) < (N : Int)) := by omega
          go_wp2_with fail
          go_end0
          exact ⟨_, rfl, rfl, hf, cur, HSH.out, HR.out.all (by omega), ha⟩
theorem SortStable_is {W : World} {b cap N : Nat} {arr : List ArcI} {tail : List Value} (h : ArrAt W b arr tail) (hN : arr.length = N) (hlen : N ≤ 17592186044416) :
    Calls Tryd.prog 61 #[.slice (some ⟨b, 0, none⟩) N cap, .func (.func 62) #[] #[]] W (Rets (SortPost W b tail arr 0 N)) := by
  go_enter Tryd.func61, Tryd.ntmps61
  go_wp2_with fail
  refine (stable_is h hN hlen).mono ?_
  rintro ee w' ⟨_, rfl, rfl, hf2, T1, k1, k2, ha2⟩
  go_wp2_with fail
  go_end0
  exact ⟨_, rfl, rfl, hf2, T1, k1, k2, ha2⟩
theorem insertion_nil {W : World} :
    Calls Tryd.prog 82 #[.slice none 0 0, .int .i64 0, .int .i64 0, .func (.func 62) #[] #[]] W (fun e w' => e = .returned (.tuple #[]) ∧ w' = W) := by
  go_enter Tryd.func82, Tryd.ntmps82
  go_wp2_with fail
  go_loopw [8] (fun vi wr => vi = .int .i64 1 ∧ wr = W) (fun _ _ => 0)
  case atStart => exact ⟨rfl, rfl⟩
  case round =>
    obtain ⟨rfl, rfl⟩ := hrel
    go_wp2_with fail
    go_end0
    exact ⟨rfl, rfl⟩
theorem stable_nil {W : World} :
    Calls Tryd.prog 74 #[.slice none 0 0, .int .i64 0, .func (.func 62) #[] #[]] W (fun e w' => e = .returned (.tuple #[]) ∧ w' = W) := by
  go_enter Tryd.func74, Tryd.ntmps74
  go_wp2_with fail
  go_loopw [7, 8] (fun va vb wr => va = .int .i64 0 ∧ vb = .int .i64 20 ∧ wr = W) (fun _ _ _ => 0)
  case atStart => exact ⟨rfl, rfl, rfl⟩
  case round =>
    obtain ⟨rfl, rfl, rfl⟩ := hrel
    go_wp2_with fail
    refine (insertion_nil).mono ?_
    rintro ee w' ⟨rfl, rfl⟩
    go_wp2_with fail
    go_loopw [6] (fun vs wr => vs = .int .i64 20 ∧ wr = w') (fun _ _ => 0)
    case atStart => exact ⟨rfl, rfl⟩
    case round =>
      obtain ⟨rfl, rfl⟩ := hrel
      go_wp2_with fail
      go_end0
      exact ⟨rfl, rfl⟩
theorem SortStable_nil {W : World} :
    Calls Tryd.prog 61 #[.slice none 0 0, .func (.func 62) #[] #[]] W (fun e w' => e = .returned (.tuple #[]) ∧ w' = W) := by
  go_enter Tryd.func61, Tryd.ntmps61
  go_wp2_with fail
  refine (stable_nil).mono ?_
  rintro ee w' ⟨rfl, rfl⟩
  go_wp2_with fail
  go_end0
  exact ⟨rfl, rfl⟩
end Go.Proofs.YtdcjfpjpboafnaaDoor
namespace Go.Proofs.YtdcjfpjpboafnaaDoor
set_option linter.all false
open Go.RowKit
set_option maxRecDepth 100000

def dropI (a : ArcI) : Bool := a.f == a.t || a.m == 0
theorem drop_is : PredSpec 60 #[] dropI (fun _ => True) := by
  intro a W _
  by_cases h1 : a.f = a.t
  · have e : dropI a = true := by simp [dropI, h1]
    rw [e]
    have hb : (a.f == a.t) = true := by simpa using h1
    go_enter Tryd.func60, Tryd.ntmps60
    go_wp2_with fail
    go_ret
    exact ⟨_, rfl, rfl, fr_alloc _ _ _⟩
  · have hb : (a.f == a.t) = false := by simpa using h1
    by_cases h2 : a.m = 0
    · have e : dropI a = true := by simp [dropI, h2]
      rw [e]
      have hb2 : (a.m == 0) = true := by simpa using h2
      go_enter Tryd.func60, Tryd.ntmps60
      go_wp2_with fail
      go_ret
      exact ⟨_, rfl, rfl, fr_alloc _ _ _⟩
    · have e : dropI a = false := by simp [dropI, h1, h2]
      rw [e]
      have hb2 : (a.m == 0) = false := by simpa using h2
      go_enter Tryd.func60, Tryd.ntmps60
      go_wp2_with fail
      go_ret
      exact ⟨_, rfl, rfl, fr_alloc _ _ _⟩

def BoolPost (b : Bool) (W : World) (v : Value) (w' : World) : Prop := v = .bool b ∧ W = w'
def outI (n v : Int) : Bool := decide (v < 0) || decide (n ≤ v)
theorem out_is {W : World} {nb : Nat} {n : Int} (hn : W.cell? ⟨nb, 0, none⟩ = some (.int .i64 n)) (v : Int) :
    Calls Tryd.prog 39 #[.int .i64 v, .pointer (some ⟨nb, 0, none⟩)] W (Rets (BoolPost (outI n v) W)) := by
  by_cases h1 : v < 0
  · have e : outI n v = true := by simp [outI, h1]
    rw [e]
    go_enter Tryd.func39, Tryd.ntmps39
    go_wp2_with fail
    go_ret
    exact ⟨_, rfl, rfl, rfl⟩
  · by_cases h2 : n ≤ v
    · have e : outI n v = true := by simp [outI, h2]
      rw [e]
      go_enter Tryd.func39, Tryd.ntmps39
      go_wp2_with fail
      go_ret
      exact ⟨_, by simp [h2], rfl, rfl⟩
    · have e : outI n v = false := by simp [outI, h1, h2]
      rw [e]
      go_enter Tryd.func39, Tryd.ntmps39
      go_wp2_with fail
      go_ret
      exact ⟨_, by simp [h2], rfl, rfl⟩
/-- The boxes that New$2 sees. -/
def OutK (nb ob : Nat) (n : Int) (W : World) : Prop := W.cell? ⟨nb, 0, none⟩ = some (.int .i64 n) ∧ W.cell? ⟨ob, 0, none⟩ = some (.func (.func 39) #[] #[.pointer (some ⟨nb, 0, none⟩)])
def badI (n : Int) (a : ArcI) : Bool := outI n a.f || outI n a.t
theorem out_enters : ∀ args w, (callFunc 39 args).run Tryd.prog w = .ok (.enter 39 args) w := enters_of Tryd.func39 (by kernel_rfl) rfl
theorem bad_is {nb ob : Nat} {n : Int} : PredSpec 41 #[.pointer (some ⟨ob, 0, none⟩)] (badI n) (OutK nb ob n) := by
  intro a W ⟨hn, ho⟩
  have hn' : (W.alloc (.cells #[.int .i64 a.f, .int .i64 a.t, .int .i64 a.m] 65)).cell? ⟨nb, 0, none⟩ = some (.int .i64 n) := (fr_alloc (fun _ => False) W _).cell hn (fun x => x)
  have ho' : (W.alloc (.cells #[.int .i64 a.f, .int .i64 a.t, .int .i64 a.m] 65)).cell? ⟨ob, 0, none⟩ = some (.func (.func 39) #[] #[.pointer (some ⟨nb, 0, none⟩)]) := (fr_alloc (fun _ => False) W _).cell ho (fun x => x)
  have hen := out_enters
  have HO := fun v => Lib.hid (out_is hn' v)
  clear hn ho hn'
  cases h1 : outI n a.f
  · cases h2 : outI n a.t
    · have e : badI n a = false := by simp [badI, h1, h2]
      rw [e]
      go_enter Tryd.func41, Tryd.ntmps41
      go_wp2_with (go_at_call 39; refine ((HO _).out).mono ?_; rintro e w' ⟨_, rfl, rfl, rfl⟩)
      go_ret
      exact ⟨_, rfl, rfl, fr_alloc _ _ _⟩
    · have e : badI n a = true := by simp [badI, h1, h2]
      rw [e]
      go_enter Tryd.func41, Tryd.ntmps41
      go_wp2_with (go_at_call 39; refine ((HO _).out).mono ?_; rintro e w' ⟨_, rfl, rfl, rfl⟩)
      go_ret
      exact ⟨_, rfl, rfl, fr_alloc _ _ _⟩
  · have e : badI n a = true := by simp [badI, h1]
    rw [e]
    go_enter Tryd.func41, Tryd.ntmps41
    go_wp2_with (go_at_call 39; refine ((HO _).out).mono ?_; rintro e w' ⟨_, rfl, rfl, rfl⟩)
    go_ret
    exact ⟨_, rfl, rfl, fr_alloc _ _ _⟩
end Go.Proofs.YtdcjfpjpboafnaaDoor
namespace Go.Proofs.YtdcjfpjpboafnaaDoor
set_option linter.all false
open Go.RowKit
set_option maxRecDepth 100000

/-- One more arc: into the last one, if they stand alike. -/
def joinS (out : List ArcI) (a : ArcI) : List ArcI :=
  match out.getLast? with
  | none => [a]
  | some b => if standsI b.f b.t a.f a.t = 0 then out.set (out.length - 1) ⟨b.f, b.t, bits .or .i64 b.m a.m⟩ else out ++ [a]
theorem joinS_nil (a : ArcI) : joinS [] a = [a] := rfl
theorem getLast_getD {l : List ArcI} (h : 0 < l.length) : l.getLast? = some (l.getD (l.length - 1) default) := by
  rw [List.getLast?_eq_getElem?, List.getD_eq_getElem?_getD, List.getElem?_eq_getElem (by omega)]; rfl
theorem joinS_eq {out : List ArcI} (h : 0 < out.length) {a : ArcI} (hs : standsI (out.getD (out.length - 1) default).f (out.getD (out.length - 1) default).t a.f a.t = 0) :
    joinS out a = out.set (out.length - 1) ⟨(out.getD (out.length - 1) default).f, (out.getD (out.length - 1) default).t, bits .or .i64 (out.getD (out.length - 1) default).m a.m⟩ := by
  unfold joinS; rw [getLast_getD h]; simp only; rw [if_pos hs]
theorem joinS_ne {out : List ArcI} (h : 0 < out.length) {a : ArcI} (hs : standsI (out.getD (out.length - 1) default).f (out.getD (out.length - 1) default).t a.f a.t ≠ 0) :
    joinS out a = out ++ [a] := by
  unfold joinS; rw [getLast_getD h]; simp only; rw [if_neg hs]
def joinL (l : List ArcI) : List ArcI := l.foldl joinS []
theorem joinS_len (out : List ArcI) (a : ArcI) : (joinS out a).length ≤ out.length + 1 := by
  unfold joinS
  split
  · rename_i h; simp
  · split <;> simp
theorem joinL_snoc (l : List ArcI) (a : ArcI) : joinL (l ++ [a]) = joinS (joinL l) a := by simp [joinL, List.foldl_append]
theorem join_len (l : List ArcI) : ∀ acc : List ArcI, (l.foldl joinS acc).length ≤ acc.length + l.length := by
  induction l with
  | nil => intro acc; simp
  | cons a l ih => intro acc; have h1 := ih (joinS acc a); have h2 := joinS_len acc a; simp only [List.foldl_cons, List.length_cons]; omega
theorem joinL_len (l : List ArcI) : (joinL l).length ≤ l.length := by have := join_len l []; simpa [joinL] using this
/-- A row that is its own, of arcs: either there is none, or a block holds it. -/
theorem own_arr {W : World} {B : Nat} {v : Value} {l : List ArcI} (h : W.ownsRow B 65 3 v l.length (arcCells l)) :
    (v = .slice none 0 0 ∧ l = []) ∨ ∃ g cap tail, v = .slice (some ⟨g, 0, none⟩) l.length cap ∧ B ≤ g ∧ ArrAt W g l tail ∧ l.length ≤ cap ∧ cap ≤ maxLen ∧ l.length * 3 + tail.length = cap * 3 := by
  rcases h.2 with ⟨h1, h2⟩ | ⟨g, cap, cur, h1, h2, h3, h4, h5, h6, h7⟩
  · exact .inl ⟨h1, List.length_eq_zero_iff.1 h2⟩
  · refine .inr ⟨g, cap, cur.toList.drop (l.length * 3), h1, h2, ?_, h4, h5, ?_⟩
    · unfold ArrAt
      rw [h3, ← h7, List.take_append_drop]
    · have h8 : cur.toList.length = cap * 3 := by simpa using h6
      have : l.length * 3 ≤ cap * 3 := Nat.mul_le_mul_right 3 h4
      rw [List.length_drop, h8]; omega
theorem arr_own {W : World} {B g cap : Nat} {l : List ArcI} {tail : List Value} (hB : B ≤ g) (h : ArrAt W g l tail) (hc : l.length ≤ cap) (hm : cap ≤ maxLen) (ht : l.length * 3 + tail.length = cap * 3) :
    W.ownsRow B 65 3 (.slice (some ⟨g, 0, none⟩) l.length cap) l.length (arcCells l) := by
  refine ⟨arcCells_len l, .inr ⟨g, cap, _, rfl, hB, h, hc, hm, ?_, ?_⟩⟩
  · rw [List.size_toArray, List.length_append, arcCells_len]; exact ht
  · simp [← arcCells_len]
theorem set_same {α} (l : List α) (i : Nat) (u : α) (h : l[i]? = some u) : l.set i u = l := by
  apply List.ext_getElem?
  intro k
  rw [List.getElem?_set]
  split
  · rename_i e; subst e; split
    · exact h.symm
    · rename_i hk; rw [List.getElem?_eq_none (by omega)] at h; cases h
  · rfl
theorem ArrAt.setM {W : World} {b : Nat} {l : List ArcI} {tail : List Value} (h : ArrAt W b l tail) {i : Nat} (hi : i < l.length) (m : Int) :
    ArrAt (W.setCell ⟨b, i * 3 + 2, none⟩ (.int .i64 m)) b (l.set i ⟨(l.getD i default).f, (l.getD i default).t, m⟩) tail := by
  have hg : l.getD i default = l[i] := by rw [List.getD_eq_getElem?_getD, List.getElem?_eq_getElem hi]; rfl
  have c0 : (arcCells l ++ tail)[i * 3]? = some (.int .i64 (l.getD i default).f) := by
    rw [List.getElem?_append_left (by rw [arcCells_len]; omega), show i * 3 = i * 3 + 0 by omega, arcCells_get l i hi 0 (by omega), hg]; rfl
  have c1 : (arcCells l ++ tail)[i * 3 + 1]? = some (.int .i64 (l.getD i default).t) := by
    rw [List.getElem?_append_left (by rw [arcCells_len]; omega), arcCells_get l i hi 1 (by omega), hg]; rfl
  unfold ArrAt at h ⊢
  rw [arcCells_set _ _ _ _ hi, set_same _ _ _ c0, set_same _ _ _ c1, heap_setCell_same h]
  simp
end Go.Proofs.YtdcjfpjpboafnaaDoor
namespace Go.Proofs.YtdcjfpjpboafnaaDoor
set_option linter.all false
open Go.RowKit
set_option maxRecDepth 100000

theorem DeleteFunc_nil {f : Nat} {caps : Array Value} {p : ArcI → Bool} {K : World → Prop} (hp : PredSpec f caps p K) (he : ∀ args w, (callFunc f args).run Tryd.prog w = .ok (.enter f args) w)
    {W : World} (hK : ∀ W W', K W → Fr0 W W' → K W') (h0 : K W) :
    Calls Tryd.prog 58 #[.slice none 0 0, .func (.func f) #[] caps] W (Rets (fun v w' => v = .slice none 0 0 ∧ Fr0 W w')) := by
  have hA : ArcsAt W none [] := ⟨by simp, .inl rfl⟩
  have HI := Lib.hid (IndexFunc_is (c := 0) hp hK he hA h0)
  clear hp hK
  go_enter Tryd.func58, Tryd.ntmps58
  go_wp2_with (go_at_call 57; refine HI.out.mono ?_; rintro e w2 ⟨_, rfl, rfl, h2⟩; rw [show idxI p [] = -1 from rfl])
  go_ret
  exact ⟨_, rfl, rfl, h2⟩
theorem cell3_new (W : World) (N : Nat) (hN : W.heap.size = N) (a : ArcI) (t : Nat) : ∀ j u, (arcV a)[j]? = some u → (W.alloc (.cells #[.int .i64 a.f, .int .i64 a.t, .int .i64 a.m] t)).cell? ((⟨N, 0, none⟩ : Addr).add j) = some u := by
  subst hN
  intro j u hu
  have hj : j < 3 := by
    by_cases h : j < 3
    · exact h
    · rw [List.getElem?_eq_none (by simp [arcV]; omega)] at hu; cases hu
  match j, hj with
  | 0, _ => rw [← hu]; simp [arcV, Addr.add]
  | 1, _ => rw [← hu]; simp [arcV, Addr.add]
  | 2, _ => rw [← hu]; simp [arcV, Addr.add]
theorem arcV_one (a : ArcI) : ∀ u ∈ arcV a, u.oneCell' = true := by
  intro u hu
  simp [arcV] at hu
  rcases hu with rfl | rfl | rfl <;> rfl
theorem arcCells_snoc (l : List ArcI) (a : ArcI) : arcCells l ++ arcV a = arcCells (l ++ [a]) := by simp [arcCells]
theorem drop_enters : ∀ args w, (callFunc 60 args).run Tryd.prog w = .ok (.enter 60 args) w := enters_of Tryd.func60 (by kernel_rfl) rfl
def JoinPost (W : World) (l : List ArcI) (v : Value) (w' : World) : Prop :=
  Fr0 W w' ∧ ∃ s : List ArcI, s.Perm (l.filter (fun a => !dropI a)) ∧ SortedOn s 0 s.length ∧ w'.ownsRow W.heap.size 65 3 v (joinL s).length (arcCells (joinL s))
set_option maxHeartbeats 4000000 in
theorem joined_is {W : World} {A : Option Addr} {c : Nat} {l : List ArcI} (hl : ArcsAt W A l) (hsm : l.length * 24 ≤ 140737488355328) :
    Calls Tryd.prog 42 #[.slice A l.length c] W (Rets (JoinPost W l)) := by
  have hde := drop_enters
  have hse := stands_enters
  obtain ⟨i0, hi, hz0, hz1, hz2⟩ := info_parts info_arc
  have HC := Lib.hid (CloneA_is (c := c) hl hsm)
  clear hl
  go_enter Tryd.func42, Tryd.ntmps42
  go_wp2_with fail
  refine HC.out.mono ?_
  clear HC
  rintro e w1 ⟨v1, rfl, hf1, hown1⟩
  rcases own_arr hown1 with ⟨rfl, hl0⟩ | ⟨g, cap, tail, rfl, hg, ha1, hcap, hmax, htl⟩
  · have hl0' := Lib.hid hl0
    clear hown1 hl0 hsm
    go_wp2_with fail
    refine (DeleteFunc_nil drop_is drop_enters (fun _ _ _ _ => trivial) trivial).mono ?_
    rintro e w2 ⟨_, rfl, rfl, hf2⟩
    go_wp2_with fail
    refine SortStable_nil.mono ?_
    rintro e w3 ⟨rfl, rfl⟩
    go_wp2_with fail
    go_loopw [4, 15] (fun v4 v15 wr => v4 = .slice none 0 0 ∧ v15 = .int .i64 0 ∧ wr = w3) (fun _ _ _ => 0)
    case atStart => exact ⟨rfl, rfl, rfl⟩
    case round =>
      obtain ⟨rfl, rfl, rfl⟩ := hrel
      go_wp2_with fail
      go_ret
      rw [hl0'.out]
      exact ⟨_, rfl, hf1.trans0 hf2, [], List.Perm.refl _, (fun p q _ _ h => by simp at h), own_nil _ _ _ _⟩
  · have HT := Lib.hid htl
    have HO1 := Lib.hid hown1
    clear htl hown1
    go_wp2_with fail
    refine (DeleteFunc_is drop_is drop_enters ha1 (by omega) hcap (fun _ _ _ _ => trivial) trivial).mono ?_
    rintro e w2 ⟨_, rfl, rfl, hf2, tail2, ha2⟩
    have hlen : (l.filter (fun a => !dropI a)).length ≤ l.length := List.length_filter_le _ _
    have hlen2 : (l.filter (fun a => !dropI a)).length ≤ 17592186044416 := by omega
    go_wp2_with fail
    refine (SortStable_is ha2 rfl hlen2).mono ?_
    rintro e w3 ⟨_, rfl, rfl, hf3, s, hs1, hs2, ha3⟩
    have hsl := hs1.len
    have hsl2 : s.length * 24 ≤ 140737488355328 := by omega
    have HF : Fr0 W w3 := (hf1.trans hf2 (fun j hj e => by omega)).trans hf3 (fun j hj e => by omega)
    have HS := Lib.hid (show s.Perm (l.filter (fun a => !dropI a)) ∧ SortedOn s 0 s.length from ⟨hs1.perm, by rw [hsl]; exact hs2⟩)
    rw [← hsl]
    clear hs1 hs2 hf1 hf2 hf3 ha1 ha2 HO1 HT hlen hlen2 hsl
    have hg3 : g < w3.heap.size := heap_lt ha3
    go_wp2_with fail
    go_loopw [4, 15] (fun v4 v15 wr => ∃ (k : Nat) (out : List ArcI), k ≤ s.length ∧ v15 = .int .i64 k ∧ Hid (joinL (s.take k) = out) ∧ Fr0 w3 wr ∧ Hid ((v4 = .slice none 0 0 ∧ out = []) ∨ 0 < out.length) ∧ Hid (wr.ownsRow w3.heap.size 65 3 v4 out.length (arcCells out))) (fun _ v15 _ => s.length - (intOf v15).toNat)
    case atStart => exact ⟨0, [], by omega, rfl, Lib.hid rfl, Fr.refl _ _, Lib.hid (.inl ⟨rfl, rfl⟩), Lib.hid (own_nil _ _ _ _)⟩
    case round =>
      obtain ⟨k, out, hk, rfl, HJ, hf, HV, HO⟩ := hrel
      by_cases hlt : k < s.length
      · have ha : ArrAt wr g s tail2 := hf.heap' ha3
        obtain ⟨c1, c2, c3⟩ := ha.arc hlt
        generalize hu : s.getD k default = u at c1 c2 c3
        have hstep : joinL (s.take (k + 1)) = joinS out u := by rw [take_snoc_a _ _ hlt, joinL_snoc, HJ.out, hu]
        have HST := Lib.hid hstep
        clear hu hstep
        rcases HV.out with ⟨rfl, rfl⟩ | hpos
        · have HO2 := HO.out
          clear HO HV
          go_wp2_with fail
          go_quiet (fail)
          have hszw : w3.heap.size ≤ wr.heap.size := hf.size
          go_wp2_with (at_builtin; refine wpList_append_own _ rfl _ _ 64 rfl w3.heap.size 65 i0 (.agg #[.int .i64 0, .int .i64 0, .int .i64 0]) 3 24 Tryd.underlying64 hi hz0 hz1 hz2 rfl (by decide) _ _ _ rfl (own_fr0 HO2 (((fr_alloc _ _ _).drewN _).alloc _)) _ 1 1 (arcV u) rfl rfl (cell3_new _ _ (by simp) _ _) (arcV_one u) (by unfold maxLen; decide) (by decide) (by simp; omega) ?_; intro v' w' hown' hgrow _)
          go_roundw
          case rel =>
            refine ⟨k + 1, [u], by omega, by go_num, Lib.hid HST.out, ?_, Lib.hid (.inr (by simp)), Lib.hid hown'⟩
            exact hf.trans0 ((((fr_alloc _ _ _).drewN _).alloc _).trans (append_fr0 (own_fr0 HO2 (((fr_alloc _ _ _).drewN _).alloc _)) hgrow) (fun j hj e => by simp [Value.ownBlock] at e))
          case measure => simp [intOf]; omega
        · rcases own_arr HO.out with ⟨_, e⟩ | ⟨q, qc, qt, rfl, hq, haq, hqc, hqm, hqt⟩
          · subst e; cases hpos
          obtain ⟨d1, d2, d3⟩ := haq.arc (j := out.length - 1) (by omega)
          generalize hv : out.getD (out.length - 1) default = v at d1 d2 d3
          have HVV := Lib.hid hv
          have HQT := Lib.hid hqt
          have HQ := Lib.hid haq
          have b0 : decide ((0 : Int) < (out.length : Int)) = true := by simp; omega
          have b2 : (out.length : Int) - 1 < (out.length : Int) := by omega
          have b1 : (1 : Int) ≤ (out.length : Int) := by omega
          have ht : ((out.length : Int) - 1).toNat = out.length - 1 := by omega
          have hok : out.length ≤ k := by rw [← HJ.out]; have := joinL_len (s.take k); rw [List.length_take] at this; omega
          have hw : IntKind.i64.wrap ((out.length : Int) - 1) = (out.length : Int) - 1 := by rw [IntKind.wrap_i64]; omega
          have haq' : ArrAt (wr.alloc (.cells #[.int .i64 u.f, .int .i64 u.t, .int .i64 u.m] 65)) q out qt := Fr0.heap' (fr_alloc _ _ _) haq
          have hszw : w3.heap.size ≤ wr.heap.size := hf.size
          have hub : ∀ j x, (arcV u)[j]? = some x → (wr.alloc (.cells #[.int .i64 u.f, .int .i64 u.t, .int .i64 u.m] 65)).cell? ((⟨wr.heap.size, 0, none⟩ : Addr).add j) = some x := cell3_new _ _ rfl _ _
          obtain ⟨d1, d2, d3⟩ := haq'.arc (j := out.length - 1) (by omega)
          rw [hv] at d1 d2 d3
          have HUB := Lib.hid hub
          have HW := Lib.hid hw
          clear hv hqt haq haq' hub
          go_wp2_with fail
          refine wp_region_still_tail 9 (by kernel_rfl) (by kernel_rfl) ?_
          simp only [List.take_succ_cons, List.take_zero, List.drop_succ_cons, List.drop_zero]
          change wpStill _ _ (World.drew _) _ _ _
          repeat still_step
          refine wpStill_nil ?_
          clear hw
          change wpList _ _ _ _ _ (World.drew _)
          go_wp2_with fail
          refine (stands_is _ _ _ _ _ _ _).mono ?_
          rintro e w2 ⟨_, rfl, rfl, h2⟩
          have h2' : Fr0 (wr.alloc (.cells #[.int .i64 u.f, .int .i64 u.t, .int .i64 u.m] 65)) w2 := Fr.trans (fr_drew _ _) h2 (fun _ _ x => x)
          have h3' : Fr0 wr w2 := (fr_alloc _ _ _).trans h2' (fun _ _ x => x)
          clear d1 d2 d3 h2
          have haq2 : ArrAt w2 q out qt := h3'.heap' HQ.out
          obtain ⟨d1, d2, d3⟩ := haq2.arc (j := out.length - 1) (by omega)
          rw [HVV.out] at d1 d2 d3
          have u1 : w2.cell? ⟨wr.heap.size, 0, none⟩ = some (.int .i64 u.f) := by simpa [Addr.add] using h2'.cell (HUB.out 0 _ rfl) (fun x => x)
          have u2 : w2.cell? ⟨wr.heap.size, 1, none⟩ = some (.int .i64 u.t) := by simpa [Addr.add] using h2'.cell (HUB.out 1 _ rfl) (fun x => x)
          have u3 : w2.cell? ⟨wr.heap.size, 2, none⟩ = some (.int .i64 u.m) := by simpa [Addr.add] using h2'.cell (HUB.out 2 _ rfl) (fun x => x)
          by_cases hz : standsI v.f v.t u.f u.t = 0
          · have hs1 := Lib.hid (HST.out.trans (joinS_eq hpos (by rw [HVV.out]; exact hz)))
            rw [HVV.out] at hs1
            have hzb : (standsI v.f v.t u.f u.t == 0) = true := by simpa using hz
            clear hz HST
            have g3 := haq2.frozen ((out.length - 1) * 3 + 2)
            have hset := Lib.hid (haq2.setM (i := out.length - 1) (by omega) (bits .or .i64 v.m u.m))
            rw [HVV.out] at hset
            go_wp2_with fail
            have hw := HW.out
            go_region
            clear hw
            go_wp2_with fail
            go_roundw
            case rel =>
              refine ⟨k + 1, _, by omega, by go_num, Lib.hid hs1.out, ?_, Lib.hid (.inr (by simp; omega)), Lib.hid ?_⟩
              · exact ((hf.trans0 h3').setCell ⟨q, (out.length - 1) * 3 + 2, none⟩ _ (fun h => absurd h (by show ¬ q < w3.heap.size; omega))).drew
              · have := arr_own hq hset.out (by rw [List.length_set]; exact hqc) hqm (by rw [List.length_set]; exact HQT.out)
                rw [List.length_set] at this ⊢
                exact this
            case measure => simp [intOf]; omega
          · have hs1 := Lib.hid (HST.out.trans (joinS_ne hpos (by rw [HVV.out]; exact hz)))
            have hzb : (standsI v.f v.t u.f u.t == 0) = false := by simpa using hz
            clear hz HST
            have HO2 : Hid (w2.ownsRow w3.heap.size 65 3 (.slice (some ⟨q, 0, none⟩) out.length qc) out.length (arcCells out)) := Lib.hid (own_fr0 HO.out h3')
            have hsz2 := h3'.size
            clear HO
            go_wp2_with (at_builtin; refine wpList_append_own _ rfl _ _ 64 rfl w3.heap.size 65 i0 (.agg #[.int .i64 0, .int .i64 0, .int .i64 0]) 3 24 Tryd.underlying64 hi hz0 hz1 hz2 rfl (by decide) _ _ _ rfl (own_fr0 HO2.out (fr_alloc _ _ _)) _ 1 1 (arcV u) rfl rfl (cell3_new _ _ (by simp) _ _) (arcV_one u) (by unfold maxLen; omega) (by omega) (by simp; omega) ?_; intro v' w' hown' hgrow _)
            go_roundw
            case rel =>
              rw [arcCells_snoc] at hown'
              refine ⟨k + 1, out ++ [u], by omega, by go_num, Lib.hid hs1.out, ?_, Lib.hid (.inr (by simp)), Lib.hid (by simpa using hown')⟩
              exact ((hf.trans0 h3').alloc _).trans (append_fr0 (own_fr0 HO2.out (fr_alloc _ _ _)) hgrow) (fun j hj e => by simp [Value.ownBlock] at e; omega)
            case measure => simp [intOf]; omega
      · go_wp2_with fail
        go_ret
        have e : joinL s = out := by rw [← HJ.out, List.take_of_length_le (by omega)]
        refine ⟨_, rfl, HF.trans0 hf, s, HS.out.1, HS.out.2, ?_⟩
        rw [e]
        exact HO.out.mono HF.size
end Go.Proofs.YtdcjfpjpboafnaaDoor
