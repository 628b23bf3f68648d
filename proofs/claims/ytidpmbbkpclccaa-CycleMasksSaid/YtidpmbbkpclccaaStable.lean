/- The library's stable sort, at arcs: blocks, and their merging. -/
import Derived.Test.YtidpmbbkpclccaaMergeC
namespace Go.Proofs.Ytidpmbbkpclccaa
set_option linter.all false
open Go.RowKit
set_option maxRecDepth 100000

/-- From a on, runs of s are sorted. -/
def Runs (l : List ArcI) (s a n : Nat) : Prop := ∀ q, SortedOn l (a + q * s) (min (a + q * s + s) n)
/-- The first k runs of t are sorted. -/
def DoneR (l : List ArcI) (t k : Nat) : Prop := ∀ q, q < k → SortedOn l (q * t) (q * t + t)
theorem SortedOn.of {l l' : List ArcI} {x y : Nat} (h : SortedOn l x y) (he : ∀ p, x ≤ p → p < y → l'[p]? = l[p]?) : SortedOn l' x y := by
  intro p q a b c
  rw [getD_of_get (he p a (by omega)), getD_of_get (he q (by omega) c)]; exact h p q a b c
theorem DoneR.zero (l : List ArcI) (t : Nat) : DoneR l t 0 := fun q h => by omega
theorem DoneR.keep {l l' : List ArcI} {t k a b : Nat} (h : DoneR l t k) (ha : a = k * t) (hs : Shuf l l' a b) : DoneR l' t k := by
  intro q hq
  refine (h q hq).of fun p _ hp => hs.pre p ?_
  have : (q + 1) * t ≤ k * t := Nat.mul_le_mul_right t hq
  rw [Nat.succ_mul] at this
  omega
theorem DoneR.step {l l' : List ArcI} {t k a b : Nat} (h : DoneR l t k) (ha : a = k * t) (hb : b = a + t) (hs : Shuf l l' a b) (hn : SortedOn l' a b) : DoneR l' t (k + 1) := by
  intro q hq
  by_cases e : q = k
  · rw [e, ← ha, ← hb]; exact hn
  · exact h.keep ha hs q (by omega)
theorem DoneR.fin {l l' : List ArcI} {t k a n : Nat} (h : DoneR l t k) (ha : a = k * t) (hs : Shuf l l' a n) (hn : SortedOn l' a n) (hlt : n < a + t) (han : a ≤ n) : Runs l' t 0 n := by
  intro q
  rw [Nat.zero_add]
  by_cases e : q < k
  · have : (q + 1) * t ≤ k * t := Nat.mul_le_mul_right t e
    rw [Nat.succ_mul] at this
    rw [Nat.min_eq_left (by omega)]
    exact h.keep ha hs q e
  · by_cases e2 : q = k
    · rw [e2, ← ha, Nat.min_eq_right (by omega)]; exact hn
    · have : (k + 1) * t ≤ q * t := Nat.mul_le_mul_right t (by omega)
      rw [Nat.succ_mul] at this
      intro p r h1 h2 h3
      omega
theorem Runs.first {l : List ArcI} {s a n : Nat} (h : Runs l s a n) : SortedOn l a (min (a + s) n) := by
  have := h 0
  rwa [Nat.zero_mul, Nat.add_zero] at this
theorem Runs.next {l : List ArcI} {s a n : Nat} (h : Runs l s a n) : Runs l s (a + s) n := by
  intro q
  have := h (q + 1)
  rw [Nat.succ_mul] at this
  have e : a + s + q * s = a + (q * s + s) := by omega
  rw [e]; exact this
theorem Runs.keep {l l' : List ArcI} {s a b n : Nat} (h : Runs l s b n) (hs : Shuf l l' a b) : Runs l' s b n := by
  intro q
  exact (h q).of fun p hp _ => hs.post p (by omega)
theorem Runs.all {l : List ArcI} {s n : Nat} (h : Runs l s 0 n) (hs : n ≤ s) : SortedOn l 0 n := by
  have := h.first
  rwa [Nat.min_eq_right (by omega)] at this

set_option maxHeartbeats 4000000 in
theorem stable_is {W : World} {b cap N : Nat} {arr : List ArcI} {tail : List Value} (h : ArrAt W b arr tail) (hN : arr.length = N) (hlen : N ≤ 17592186044416) :
    Calls Try.prog 51 #[.slice (some ⟨b, 0, none⟩) N cap, .int .i64 N, .func (.func 41) #[] #[]] W (Rets (SortPost W b tail arr 0 N)) := by
  have hen := stands_enters
  have HN := Lib.hid hN
  clear hN
  go_enter Try.func51, Try.ntmps51
  go_wp2_with fail
  go_loopw [7, 8] (fun va vb wr => ∃ (k a : Nat) (cur : List ArcI), va = .int .i64 a ∧ vb = .int .i64 ((a : Int) + 20) ∧ a ≤ N ∧ Hid (a = k * 20) ∧ Hid (DoneR cur 20 k) ∧ Hid (Shuf arr cur 0 N) ∧ ArrAt wr b cur tail ∧ Fr (fun k => k = b) W wr) (fun va _ _ => N - (intOf va).toNat)
  case atStart => exact ⟨0, 0, arr, rfl, rfl, by omega, Lib.hid (by omega), Lib.hid (DoneR.zero _ _), Lib.hid (Shuf.refl _ _ _), h, Fr.refl _ _⟩
  case round =>
    obtain ⟨k, a, cur, rfl, rfl, hle, HK, HD, HSH, ha, hf⟩ := hrel
    have HcN := Lib.hid (HSH.out.len.trans HN.out)
    by_cases hlt : a + 20 ≤ N
    · have b1 : (a : Int) + 20 ≤ (N : Int) := by omega
      go_wp2_with fail
      refine (insertion_is ha HcN.out hlen _ _ a (a + 20) rfl (by omega) (by omega) (by omega)).mono ?_
      rintro ee w' ⟨_, rfl, rfl, hf2, T1, k1, k2, ha2⟩
      go_wp2_with fail
      go_roundw
      case rel => exact ⟨k + 1, a + 20, T1, by go_num, by go_num, by omega, Lib.hid (by have := HK.out; omega), Lib.hid (HD.out.step HK.out rfl k1 k2), Lib.hid (HSH.out.trans k1 (by omega) (by omega)), ha2, hf.trans hf2 (fun _ _ h => h)⟩
      case measure => simp [intOf]; omega
    · have b1 : ¬ ((a : Int) + 20 ≤ (N : Int)) := by omega
      go_wp2_with fail
      refine (insertion_is ha HcN.out hlen _ _ a N rfl rfl hle (by omega)).mono ?_
      rintro ee w' ⟨_, rfl, rfl, hf2, T1, k1, k2, ha2⟩
      have HSH2 := Lib.hid (HSH.out.trans k1 (by omega) (Nat.le_refl _))
      have HR := Lib.hid (HD.out.fin HK.out k1 k2 (by omega) hle)
      have hf3 := hf.trans hf2 (fun _ _ h => h)
      clear HK HD HSH HcN ha hf k1 k2 hlt b1 hle hf2
      go_wp2_with fail
      go_loopw [6] (fun vs wr => ∃ (s : Nat) (cur : List ArcI), vs = .int .i64 s ∧ 0 < s ∧ s ≤ 2 * N + 20 ∧ Hid (Runs cur s 0 N) ∧ Hid (Shuf arr cur 0 N) ∧ ArrAt wr b cur tail ∧ Fr (fun k => k = b) W wr) (fun vs _ => N - (intOf vs).toNat)
      case atStart => exact ⟨20, T1, rfl, by omega, by omega, HR, HSH2, ha2, hf3⟩
      case round =>
        clear HR HSH2 ha2 hf3
        obtain ⟨s, cur, rfl, hs0, hsN, HR, HSH, ha, hf⟩ := hrel
        by_cases hlt : s < N
        · have b1 : (s : Int) < (N : Int) := by omega
          go_wp2_with fail
          go_loopw [7, 8] (fun va vb wr => ∃ (k a : Nat) (cur : List ArcI), va = .int .i64 a ∧ vb = .int .i64 ((a : Int) + 2 * s) ∧ a ≤ N ∧ Hid (a = k * (2 * s)) ∧ Hid (DoneR cur (2 * s) k) ∧ Hid (Runs cur s a N) ∧ Hid (Shuf arr cur 0 N) ∧ ArrAt wr b cur tail ∧ Fr (fun k => k = b) W wr) (fun va _ _ => N - (intOf va).toNat)
          case atStart => exact ⟨0, 0, cur, rfl, int_eq (by omega), by omega, Lib.hid (by omega), Lib.hid (DoneR.zero _ _), HR, HSH, ha, hf⟩
          case round =>
            clear HR HSH ha hf
            obtain ⟨k, a, cur, rfl, rfl, hle, HK, HD, HR, HSH, ha, hf⟩ := hrel
            have HcN := Lib.hid (HSH.out.len.trans HN.out)
            by_cases hlt2 : a + 2 * s ≤ N
            · have b2 : (a : Int) + 2 * (s : Int) ≤ (N : Int) := by omega
              have r1 := HR.out.first
              have r2 := HR.out.next.first
              rw [Nat.min_eq_left (by omega)] at r1 r2
              have R1 := Lib.hid r1
              have R2 := Lib.hid r2
              clear r1 r2
              go_wp2_with fail
              refine (symMerge_is (a + 2 * s - a) _ b cap N cur tail _ _ _ a (a + s) (a + 2 * s) ha HcN.out hlen rfl (by omega) (by omega) (by omega) (by omega) (by omega) (Nat.le_refl _) R1.out (by have := R2.out; rwa [show a + s + s = a + 2 * s by omega] at this)).mono ?_
              rintro ee w' ⟨_, rfl, rfl, hf2, T1, k1, k2, ha2⟩
              go_wp2_with fail
              go_roundw
              case rel => exact ⟨k + 1, a + 2 * s, T1, int_eq (by omega), int_eq (by omega), by omega, Lib.hid (by rw [Nat.succ_mul k]; have := HK.out; omega), Lib.hid (HD.out.step HK.out rfl k1 k2), Lib.hid (by have h := HR.out.next.next; rw [show a + s + s = a + 2 * s by omega] at h; exact h.keep k1), Lib.hid (HSH.out.trans k1 (by omega) (by omega)), ha2, hf.trans hf2 (fun _ _ h => h)⟩
              case measure => simp [intOf]; omega
            · have b2 : ¬ ((a : Int) + 2 * (s : Int) ≤ (N : Int)) := by omega
              by_cases hm : a + s < N
              · have b3 : (a : Int) + (s : Int) < (N : Int) := by omega
                have r1 := HR.out.first
                have r2 := HR.out.next.first
                rw [Nat.min_eq_left (by omega)] at r1
                rw [Nat.min_eq_right (by omega)] at r2
                have R1 := Lib.hid r1
                have R2 := Lib.hid r2
                clear r1 r2
                go_wp2_with fail
                refine (symMerge_is (N - a) _ b cap N cur tail _ _ _ a (a + s) N ha HcN.out hlen rfl (by omega) rfl (by omega) hm (Nat.le_refl _) (Nat.le_refl _) R1.out R2.out).mono ?_
                rintro ee w' ⟨_, rfl, rfl, hf2, T1, k1, k2, ha2⟩
                go_wp2_with fail
                go_roundw
                case rel => exact ⟨s * 2, T1, int_eq (by omega), by omega, by omega, Lib.hid (by rw [Nat.mul_comm]; exact HD.out.fin HK.out k1 k2 (by omega) hle), Lib.hid (HSH.out.trans k1 (by omega) (Nat.le_refl _)), ha2, hf.trans hf2 (fun _ _ h => h)⟩
                case measure => simp [intOf]; omega
              · have b3 : ¬ ((a : Int) + (s : Int) < (N : Int)) := by omega
                have r1 := HR.out.first
                rw [Nat.min_eq_right (by omega)] at r1
                have R1 := Lib.hid r1
                clear r1
                go_wp2_with fail
                go_roundw
                case rel => exact ⟨s * 2, cur, int_eq (by omega), by omega, by omega, Lib.hid (by rw [Nat.mul_comm]; exact HD.out.fin HK.out (Shuf.refl _ _ _) R1.out (by omega) hle), HSH, ha, hf⟩
                case measure => simp [intOf]; omega
        · have b1 : ¬ ((s : Int) < (N : Int)) := by omega
          go_wp2_with fail
          go_end0
          exact ⟨_, rfl, rfl, hf, cur, HSH.out, HR.out.all (by omega), ha⟩
theorem SortStable_is {W : World} {b cap N : Nat} {arr : List ArcI} {tail : List Value} (h : ArrAt W b arr tail) (hN : arr.length = N) (hlen : N ≤ 17592186044416) :
    Calls Try.prog 40 #[.slice (some ⟨b, 0, none⟩) N cap, .func (.func 41) #[] #[]] W (Rets (SortPost W b tail arr 0 N)) := by
  go_enter Try.func40, Try.ntmps40
  go_wp2_with fail
  refine (stable_is h hN hlen).mono ?_
  rintro ee w' ⟨_, rfl, rfl, hf2, T1, k1, k2, ha2⟩
  go_wp2_with fail
  go_end0
  exact ⟨_, rfl, rfl, hf2, T1, k1, k2, ha2⟩
theorem insertion_nil {W : World} :
    Calls Try.prog 57 #[.slice none 0 0, .int .i64 0, .int .i64 0, .func (.func 41) #[] #[]] W (fun e w' => e = .returned (.tuple #[]) ∧ w' = W) := by
  go_enter Try.func57, Try.ntmps57
  go_wp2_with fail
  go_loopw [8] (fun vi wr => vi = .int .i64 1 ∧ wr = W) (fun _ _ => 0)
  case atStart => exact ⟨rfl, rfl⟩
  case round =>
    obtain ⟨rfl, rfl⟩ := hrel
    go_wp2_with fail
    go_end0
    exact ⟨rfl, rfl⟩
theorem stable_nil {W : World} :
    Calls Try.prog 51 #[.slice none 0 0, .int .i64 0, .func (.func 41) #[] #[]] W (fun e w' => e = .returned (.tuple #[]) ∧ w' = W) := by
  go_enter Try.func51, Try.ntmps51
  go_wp2_with fail
  go_loopw [7, 8] (fun va vb wr => va = .int .i64 0 ∧ vb = .int .i64 20 ∧ wr = W) (fun _ _ _ => 0)
  case atStart => exact ⟨rfl, rfl, rfl⟩
  case round =>
    obtain ⟨rfl, rfl, rfl⟩ := hrel
    go_wp2_with fail
    refine (insertion_nil).mono ?_
    rintro ee w' ⟨rfl, rfl⟩
    go_wp2_with fail
    go_loopw [6] (fun vs wr => vs = .int .i64 20 ∧ wr = w') (fun _ _ => 0)
    case atStart => exact ⟨rfl, rfl⟩
    case round =>
      obtain ⟨rfl, rfl⟩ := hrel
      go_wp2_with fail
      go_end0
      exact ⟨rfl, rfl⟩
theorem SortStable_nil {W : World} :
    Calls Try.prog 40 #[.slice none 0 0, .func (.func 41) #[] #[]] W (fun e w' => e = .returned (.tuple #[]) ∧ w' = W) := by
  go_enter Try.func40, Try.ntmps40
  go_wp2_with fail
  refine (stable_nil).mono ?_
  rintro ee w' ⟨rfl, rfl⟩
  go_wp2_with fail
  go_end0
  exact ⟨rfl, rfl⟩
end Go.Proofs.Ytidpmbbkpclccaa
