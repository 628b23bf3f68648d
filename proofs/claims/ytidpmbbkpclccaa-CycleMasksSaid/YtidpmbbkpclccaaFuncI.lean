/- The library's searches of rows of numbers by a test; the labels, and whether a number is one. -/
import Derived.Test.YtidpmbbkpclccaaOf
import Derived.Test.YtidpmbbkpclccaaShelf
namespace Go.Proofs.Ytidpmbbkpclccaa
set_option linter.all false
open Go.RowKit
set_option maxRecDepth 100000

def PredPostI (r : Bool) (W : World) (v : Value) (w' : World) : Prop := v = .bool r ∧ Fr0 W w'
def PredSpecI (f : Nat) (caps : Array Value) (p : Int → Bool) (K : World → Prop) : Prop :=
  ∀ (a : Int) (W : World), K W → Calls Try.prog f (#[.int .i64 a] ++ caps) W (Rets (PredPostI (p a) W))
def idxFI (p : Int → Bool) (l : List Int) : Int := match l.findIdx? p with | some i => (i : Int) | none => -1
theorem idxFI_at {p : Int → Bool} {l : List Int} {j : Nat} (hj : j < l.length) (h : p (l.getD j 0) = true) (hn : ∀ i, i < j → p (l.getD i 0) = false) : idxFI p l = (j : Int) := by
  have : l.findIdx? p = some j := by
    rw [List.findIdx?_eq_some_iff_getElem]
    refine ⟨hj, by simpa [List.getD_eq_getElem?_getD, List.getElem?_eq_getElem hj] using h, fun i hi => ?_⟩
    have := hn i hi
    rw [List.getD_eq_getElem?_getD, List.getElem?_eq_getElem (by omega)] at this
    simpa using this
  rw [idxFI, this]
theorem idxFI_none {p : Int → Bool} {l : List Int} (hn : ∀ i, i < l.length → p (l.getD i 0) = false) : idxFI p l = -1 := by
  have : l.findIdx? p = none := by
    rw [List.findIdx?_eq_none_iff]
    intro x hx
    obtain ⟨i, hi, rfl⟩ := List.mem_iff_getElem.1 hx
    have := hn i hi
    rw [List.getD_eq_getElem?_getD, List.getElem?_eq_getElem hi] at this
    simpa using this
  rw [idxFI, this]
theorem idxFI_any (p : Int → Bool) (l : List Int) : decide (0 ≤ idxFI p l) = l.any p := by
  unfold idxFI
  cases h : l.findIdx? p with
  | none =>
    rw [List.findIdx?_eq_none_iff] at h
    have : l.any p = false := List.any_eq_false.2 (fun x hx => by simp [h x hx])
    rw [this]; decide
  | some i =>
    rw [List.findIdx?_eq_some_iff_getElem] at h
    obtain ⟨hi, hp, _⟩ := h
    have : l.any p = true := List.any_eq_true.2 ⟨_, List.getElem_mem hi, hp⟩
    rw [this]; simp
def IdxPostI (r : Int) (W : World) (v : Value) (w' : World) : Prop := v = .int .i64 r ∧ Fr0 W w'
set_option maxHeartbeats 1000000 in
theorem IndexFuncI_is {f : Nat} {caps : Array Value} {p : Int → Bool} {K : World → Prop} (hp : PredSpecI f caps p K) (hK : ∀ W W', K W → Fr0 W W' → K W') (he : ∀ args w, (callFunc f args).run Try.prog w = .ok (.enter f args) w)
    {W : World} {A : Option Addr} {c : Nat} {l : List Int} (hl : IntsAt W A l) (hsm : l.length ≤ 1000000) (h0 : K W) :
    Calls Try.prog 26 #[.slice A l.length c, .func (.func f) #[] caps] W (Rets (IdxPostI (idxFI p l) W)) := by
  have HL := Lib.hid hl
  have HP := Lib.hid hp
  have HK := Lib.hid hK
  clear hp hK hl
  go_enter Try.func26, Try.ntmps26
  go_wp2
  go_loopw [8] (fun i wr => ∃ j : Nat, j ≤ l.length ∧ i = .int .i64 j ∧ Fr0 W wr ∧ K wr ∧ Hid (∀ i, i < j → p (l.getD i 0) = false)) (fun i _ => l.length - (intOf i).toNat)
  case atStart => exact ⟨0, Nat.zero_le _, rfl, Fr.refl _ _, h0, Lib.hid (fun i hi => by omega)⟩
  case round =>
    obtain ⟨j, hj, rfl, hf, hk, HN⟩ := hrel
    by_cases hlt : j < l.length
    · obtain ⟨b, o, rfl, hc⟩ := (HL.out.fr0 hf).at_ hlt
      have hj' : (j : Int) < (l.length : Int) := by omega
      generalize hx : l.getD j 0 = x at hc
      have HX := Lib.hid hx
      clear hx
      cases hpx : p x with
      | false =>
        have HPX := Lib.hid hpx
        clear hpx
        go_wp2
        refine (HP.out x _ hk).mono ?_
        rintro e w2 ⟨_, rfl, h1, h2⟩
        rw [HPX.out] at h1
        subst h1
        have hk2 := HK.out _ _ hk h2
        go_wp2
        go_roundw
        case rel => exact ⟨j + 1, by omega, by go_num, hf.trans0 h2, hk2, Lib.hid (fun i hi => by
          by_cases e : i = j
          · rw [e, HX.out]; exact HPX.out
          · exact HN.out i (by omega))⟩
        case measure => simp [intOf]; omega
      | true =>
        have HPX := Lib.hid hpx
        clear hpx
        go_wp2
        refine (HP.out x _ hk).mono ?_
        rintro e w2 ⟨_, rfl, h1, h2⟩
        rw [HPX.out] at h1
        subst h1
        go_wp2
        go_ret
        refine ⟨_, rfl, ?_, hf.trans0 h2⟩
        have : idxFI p l = (j : Int) := idxFI_at hlt (by rw [HX.out]; exact HPX.out) HN.out
        rw [this]; rfl
    · go_wp2
      go_ret
      refine ⟨_, rfl, ?_, hf⟩
      have : idxFI p l = -1 := idxFI_none (fun i hi => HN.out i (by omega))
      rw [this]; rfl
theorem ContainsFuncI_is {f : Nat} {caps : Array Value} {p : Int → Bool} {K : World → Prop} (hp : PredSpecI f caps p K) (hK : ∀ W W', K W → Fr0 W W' → K W') (he : ∀ args w, (callFunc f args).run Try.prog w = .ok (.enter f args) w)
    {W : World} {A : Option Addr} {c : Nat} {l : List Int} (hl : IntsAt W A l) (hsm : l.length ≤ 1000000) (h0 : K W) :
    Calls Try.prog 35 #[.slice A l.length c, .func (.func f) #[] caps] W (Rets (PredPostI (l.any p) W)) := by
  have HI := Lib.hid (IndexFuncI_is (c := c) hp hK he hl hsm h0)
  have HA := Lib.hid (idxFI_any p l)
  clear hp hK hl he h0
  generalize idxFI p l = r at HI HA
  go_enter Try.func35, Try.ntmps35
  go_wp2_with (go_at_call 26; refine (HI.out).mono ?_; rintro e w2 ⟨_, rfl, rfl, h2⟩)
  go_ret
  exact ⟨_, rfl, by rw [← HA.out]; rfl, h2⟩
/-! ### Labels -/
def SinglePost (W : World) (v : Value) (w' : World) : Prop := v = .slice (some ⟨W.heap.size, 0, none⟩) 3 3 ∧ Fr0 W w' ∧ W.heap.size < w'.heap.size ∧ IntsAt w' (some ⟨W.heap.size, 0, none⟩) [1, 2, 4]
theorem single_is (W : World) : Calls Try.prog 25 #[] W (Rets (SinglePost W)) := by
  go_enter Try.func25, Try.ntmps25
  go_wp2_with fail
  go_ret
  refine ⟨_, rfl, rfl, fr_alloc _ _ _, by rw [World.size_alloc]; omega, ints_lit (l := [1, 2, 4]) (World.alloc_heap_new _ _) (by simp)⟩
theorem contains_is {W : World} {A : Option Addr} {c : Nat} {xs : List Int} (h : IntsAt W A xs) (hsm : xs.length ≤ 1000000) (x : Int) :
    Calls Try.prog 34 #[.slice A xs.length c, .int .i64 x] W (Rets (fun v w' => v = .bool (xs.contains x) ∧ Fr0 W w')) := by
  rcases h.2 with rfl | ⟨b, o, rfl, hc⟩
  · refine (Try.slices_Contains_int_empty A c x W).mono ?_
    rintro e w' ⟨rfl, rfl⟩
    exact ⟨_, rfl, by simp, Fr.refl _ _⟩
  · refine (Try.slices_Contains_int b o xs.length c xs x W (Nat.le_refl _) (by omega) hc).mono ?_
    rintro e w' ⟨rfl, rfl⟩
    exact ⟨_, rfl, by rw [List.take_length], Fr.refl _ _⟩
/-- The same, wherever it lies. -/
def SingleG (W : World) (v : Value) (w' : World) : Prop := ∃ g, v = .slice (some ⟨g, 0, none⟩) 3 3 ∧ Fr0 W w' ∧ W.heap.size ≤ g ∧ IntsAt w' (some ⟨g, 0, none⟩) [1, 2, 4]
theorem single_g (W : World) : Calls Try.prog 25 #[] W (Rets (SingleG W)) := by
  refine (single_is W).mono ?_
  rintro e w' ⟨_, rfl, rfl, h1, h2, h3⟩
  exact ⟨_, rfl, _, rfl, h1, Nat.le_refl _, h3⟩
def notLab (x : Int) : Bool := !([1, 2, 4] : List Int).contains x
theorem Fits1_is (x : Int) (W : World) : Calls Try.prog 33 #[.int .i64 x] W (Rets (PredPostI (notLab x) W)) := by
  have HS := Lib.hid (single_is W)
  obtain ⟨r, hr⟩ : ∃ r, ([1, 2, 4] : List Int).contains x = r := ⟨_, rfl⟩
  have HR := Lib.hid hr
  clear hr
  go_enter Try.func33, Try.ntmps33
  go_wp2_with (first | (go_at_call 34; refine (HC.out).mono ?_; rintro e w2 ⟨_, rfl, rfl, h2⟩) | (go_at_call 25; refine (HS.out).mono ?_; rintro e w1 ⟨_, rfl, rfl, h1, h3, h4⟩; have HC : Hid (Calls Try.prog 34 #[.slice (some ⟨W.heap.size, 0, none⟩) 3 3, .int .i64 x] w1 (Rets (fun v w' => v = .bool r ∧ Fr0 w1 w'))) := Lib.hid (HR.out ▸ contains_is (c := 3) h4 (by decide) x)))
  go_ret
  exact ⟨_, rfl, by rw [notLab, HR.out]; rfl, h1.trans0 h2⟩
end Go.Proofs.Ytidpmbbkpclccaa
