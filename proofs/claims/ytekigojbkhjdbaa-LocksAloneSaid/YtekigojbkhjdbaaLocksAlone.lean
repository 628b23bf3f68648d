/- LocksAlone walked: whoever holds a lock alone is the only one that holds any on the key. -/
import Derived.Test.YtekigojbkhjdbaaWorks39
namespace Go.Proofs.Ytekigojbkhjdbaa
set_option linter.all false
open Go.RowKit Go.Maps
set_option maxRecDepth 100000

/-- A lock held alone is the only one on its key. -/
def Excl (l : List LockI) : Prop := ∀ x ∈ l, ∀ y ∈ l, x.k = y.k → x.m = 2 → x.i = y.i
theorem canL_way {l : List LockI} {id key mode : Int} (h : canL l id key mode = true) (x : LockI) (hx : x ∈ l) (hk : x.k = key) (hi : x.i ≠ id) : mode ≠ 2 ∧ x.m ≠ 2 := by
  unfold canL at h
  simp only [Bool.and_eq_true] at h
  have he : blkL l id key mode = [] := by simpa using h.2
  unfold blkL at he
  rw [if_pos h.1] at he
  have hno : x.i ∉ ofI (blkR l id key mode) := by rw [he]; simp
  rw [mem_ofI] at hno
  have hw : inWay id key mode x = false := by
    cases hw : inWay id key mode x with
    | false => rfl
    | true => exact absurd (List.mem_map.2 ⟨x, List.mem_filter.2 ⟨hx, hw⟩, rfl⟩) hno
  unfold inWay at hw
  simp [hk, hi] at hw
  exact hw
theorem doL_excl {l : List LockI} (ho : Once39 l) (he : Excl l) (a : ActI) : Excl (doL l a) := by
  unfold doL
  split
  · unfold askL
    split
    · rename_i hc
      split
      · exact he
      · intro x hx y hy hk hm
        rcases List.mem_append.1 hx with hx | hx <;> rcases List.mem_append.1 hy with hy | hy
        · exact he x (List.mem_filter.1 hx).1 y (List.mem_filter.1 hy).1 hk hm
        · have e := List.mem_singleton.1 hy
          subst e
          by_cases hi : x.i = a.b
          · exact hi
          · exact absurd hm (canL_way hc x (List.mem_filter.1 hx).1 hk hi).2
        · have e := List.mem_singleton.1 hx
          subst e
          by_cases hi : y.i = a.b
          · exact hi.symm
          · exact absurd hm (canL_way hc y (List.mem_filter.1 hy).1 hk.symm hi).1
        · rw [List.mem_singleton.1 hx, List.mem_singleton.1 hy]
    · exact he
  · split
    · exact fun x hx y hy => he x (List.mem_filter.1 hx).1 y (List.mem_filter.1 hy).1
    · exact he
def cntB (p : Nat → Bool) (n : Nat) : Nat := (List.range n).countP p
theorem cntB_succ (p : Nat → Bool) (n : Nat) : cntB p (n + 1) = cntB p n + if p n then 1 else 0 := by
  simp [cntB, List.range_succ, List.countP_append, List.countP_cons]
theorem cntB_one {q : Nat → Bool} : ∀ n, (∀ i j, i < n → j < n → q i = true → q j = true → i = j) → cntB q n ≤ 1
  | 0, _ => by simp [cntB]
  | n + 1, h => by
    rw [cntB_succ]
    cases hq : q n with
    | false => simpa using cntB_one n (fun i j hi hj => h i j (by omega) (by omega))
    | true =>
      have : cntB q n = 0 := by
        unfold cntB
        rw [List.countP_eq_zero]
        intro i hi hqi
        have := List.mem_range.1 hi
        have := h i n (by omega) (by omega) hqi hq
        omega
      rw [this]; simp
theorem cntB_pos {q : Nat → Bool} {n : Nat} (h : 0 < cntB q n) : ∃ i, i < n ∧ q i = true := by
  unfold cntB at h
  obtain ⟨i, hi, hq⟩ := List.countP_pos_iff.1 h
  exact ⟨i, List.mem_range.1 hi, hq⟩
def someB (l : List LockI) (key : Int) (i : Nat) : Bool := !(holdsL l (i : Int) key == 0)
def aloneB (l : List LockI) (key : Int) (i : Nat) : Bool := holdsL l (i : Int) key == 2
theorem holdsL_found {l : List LockI} {id key : Int} (h : holdsL l id key ≠ 0) : ∃ x ∈ l, x.i = id ∧ x.k = key ∧ x.m = holdsL l id key := by
  unfold holdsL at h ⊢
  cases hf : l.find? (hitL id key) with
  | none => rw [hf] at h; exact absurd rfl h
  | some x =>
    have h1 := List.find?_some hf
    simp [hitL] at h1
    exact ⟨x, List.mem_of_find?_eq_some hf, h1.1, h1.2, rfl⟩
theorem alone_one {l : List LockI} (he : Excl l) (key : Int) (n : Nat) : cntB (aloneB l key) n ≤ 1 ∧ (cntB (aloneB l key) n = 1 → cntB (someB l key) n ≤ 1) := by
  have key0 : ∀ i j : Nat, aloneB l key i = true → someB l key j = true → i = j := fun i j hi hj => by
    have h2 : holdsL l (i : Int) key = 2 := by simpa [aloneB] using hi
    have h0 : holdsL l (j : Int) key ≠ 0 := by simpa [someB] using hj
    obtain ⟨x, hx, a1, a2, a3⟩ := holdsL_found (l := l) (id := i) (key := key) (by omega)
    obtain ⟨y, hy, b1, b2, b3⟩ := holdsL_found h0
    have := he x hx y hy (a2.trans b2.symm) (by omega)
    omega
  have hsa : ∀ i, aloneB l key i = true → someB l key i = true := fun i hi => by
    have h2 : holdsL l (i : Int) key = 2 := by simpa [aloneB] using hi
    simp [someB, h2]
  refine ⟨cntB_one n (fun i j _ _ hi hj => key0 i j hi (hsa j hj)), fun h1 => ?_⟩
  obtain ⟨i0, _, hi0⟩ := cntB_pos (q := aloneB l key) (n := n) (by omega)
  exact cntB_one n (fun i j _ _ hi hj => (key0 i0 i hi0 hi).symm.trans (key0 i0 j hi0 hj))
theorem cntB_le (p : Nat → Bool) (n : Nat) : cntB p n ≤ n := by
  unfold cntB
  have := List.countP_le_length (p := p) (l := List.range n)
  simpa using this
theorem wfI_small {x : Nat} (h : x ≤ 1000) : wfI (x : Int) := by
  unfold wfI
  simp [Lit.wf, IntKind.min, IntKind.max, IntKind.signed, IntKind.bits]
  omega
set_option maxHeartbeats 8000000 in
theorem LocksAlone_is {W : World} {A : Option Addr} {c : Nat} {acts : List ActI} (hA : TupsAt actE 4 W A acts) (hok : ∀ x ∈ acts, ActOk x) (hp : Plain A acts.length c) :
    Calls Try.prog 5 #[.slice A acts.length c] W (Rets (SamePost true W)) := by
  by_cases hbig : (60 : Int) < (acts.length : Int)
  · go_enter Try.func5, Try.ntmps5
    go_wp2_with (go_at_call 16; refine (works39_is W).mono ?_; rintro e w' ⟨_, rfl, rfl, hf⟩)
    go_ret
    exact ⟨_, rfl, rfl, hf⟩
  · have HAc := Lib.hid hA
    have HOk := Lib.hid hok
    clear hA hok
    go_enter Try.func5, Try.ntmps5
    go_wp2_with (go_at_call 17; refine (TNew_is W).mono ?_; rintro e w0 ⟨_, rfl, ct, b, rfl, hF0, hbW, hT0⟩)
    go_loopw [4, 5] (fun v4 v5 wr => ∃ (k : Nat) (L : List LockI) (A1 : Option Addr) (c1 : Nat), k ≤ acts.length ∧ v5 = .int .i64 k ∧ v4 = .slice A1 L.length c1 ∧ Hid (TabIs wr ct b k L) ∧ Hid (LocksAt wr A1 L) ∧ Hid (Once39 L ∧ Excl L) ∧ L.length ≤ k ∧ Fr0 W wr) (fun _ v5 _ => acts.length - (intOf v5).toNat)
    case atStart => exact ⟨0, [], none, 0, by omega, rfl, rfl, Lib.hid hT0, Lib.hid (TupsAt.nil _ _), Lib.hid ⟨once_nil, fun x hx => by cases hx⟩, by simp, hF0⟩
    case round =>
      obtain ⟨k, L, A1, c1, hk, rfl, rfl, HT, HL, HO, hLl, hf⟩ := hrel
      by_cases hlt : k < acts.length
      · obtain ⟨q, o, rfl, hc⟩ := (HAc.out.fr0 hf).at_ hlt
        have hlt' : (k : Int) < (acts.length : Int) := by omega
        have hxo := HOk.out acts[k] (List.getElem_mem hlt)
        generalize acts[k] = x at hc hxo
        have k0 : wr.cell? ⟨q, o + k * 4, none⟩ = some (.int .i64 x.a) := hc 0 (by omega)
        have k1 : wr.cell? ⟨q, o + k * 4 + 1, none⟩ = some (.int .i64 x.b) := hc 1 (by omega)
        have k2 : wr.cell? ⟨q, o + k * 4 + 2, none⟩ = some (.int .i64 x.c) := hc 2 (by omega)
        have k3 : wr.cell? ⟨q, o + k * 4 + 3, none⟩ = some (.int .i64 x.d) := hc 3 (by omega)
        have HDo := Lib.hid (Do39_is (cl := c1) HT.out HL.out HO.out.1 (by omega) (by omega) hxo)
        have HO2 : Hid (Once39 (doL L x) ∧ Excl (doL L x)) := Lib.hid ⟨doL_once HO.out.1 x, doL_excl HO.out.1 HO.out.2 x⟩
        have hl2 := doL_len L x
        clear hc HO
        generalize hLL : doL L x = L2 at HDo HO2 hl2
        clear hLL
        have hk6 : k ≤ 60 := by omega
        go_wp2_with (go_at_call 18; refine (HDo.out).mono ?_; rintro e w2 ⟨_, rfl, A2, c2, rfl, hf2, hT2, hL2⟩; have hF2 := fr_new hf hbW hf2)
        have HT2 := Lib.hid hT2
        have HL2 := Lib.hid hL2
        clear hT2 hL2 HDo k0 k1 k2 k3
        go_loopw [6] (fun v6 wx => ∃ j : Nat, j ≤ 6 ∧ v6 = .int .i64 j ∧ w2 = wx) (fun v6 _ => 6 - (intOf v6).toNat)
        case atStart => exact ⟨0, by omega, rfl, rfl⟩
        case round =>
          obtain ⟨j, hj, rfl, rfl⟩ := hrel
          by_cases hj6 : j < 6
          · have hj6' : (j : Int) < 6 := by omega
            go_wp2_with fail
            go_loopw [7, 8, 9] (fun v7 v8 v9 wx => ∃ i : Nat, i ≤ 6 ∧ v9 = .int .i64 i ∧ v7 = .int .i64 (cntB (someB L2 j) i) ∧ v8 = .int .i64 (cntB (aloneB L2 j) i) ∧ w2 = wx) (fun _ _ v9 _ => 6 - (intOf v9).toNat)
            case atStart => exact ⟨0, by omega, rfl, rfl, rfl, rfl⟩
            case round =>
              obtain ⟨i, hi, rfl, rfl, rfl, rfl⟩ := hrel
              by_cases hi6 : i < 6
              · have hi6' : (i : Int) < 6 := by omega
                have s1 := cntB_succ (someB L2 j) i
                have s2 := cntB_succ (aloneB L2 j) i
                have s3 := cntB_le (someB L2 j) i
                have s4 := cntB_le (aloneB L2 j) i
                have HH := Lib.hid (THolds_is HT2.out (wfI_small (x := i) (by omega)) (wfI_small (x := j) (by omega)))
                have d1 : someB L2 j i = !(holdsL L2 i j == 0) := rfl
                have d2 : aloneB L2 j i = (holdsL L2 i j == 2) := rfl
                rw [d1] at s1
                rw [d2] at s2
                clear d1 d2
                generalize holdsL L2 i j = hv at s1 s2 HH
                generalize cntB (someB L2 j) i = cs at s1 s3
                generalize cntB (aloneB L2 j) i = ca at s2 s4
                by_cases h0 : hv = 0
                · have d0 : (hv == 0) = true := by simpa using h0
                  have d2 : (hv == 2) = false := by simp [h0]
                  rw [d0] at s1
                  rw [d2] at s2
                  simp at s1 s2
                  have S1 := Lib.hid s1
                  have S2 := Lib.hid s2
                  clear s1 s2
                  have n2 : ¬ hv = 2 := by omega
                  have n1 : (hv != 0) = false := by simp [h0]
                  clear h0
                  go_wp2_with (go_at_call 19; refine (HH.out).mono ?_; rintro e w' ⟨rfl, rfl⟩)
                  go_roundw
                  case rel => exact ⟨i + 1, by omega, by go_num, by rw [S1.out], by rw [S2.out], by trivial⟩
                  case measure => simp [intOf]; omega
                · have d0 : (hv == 0) = false := by simpa using h0
                  have n1 : (hv != 0) = true := by simp [h0]
                  by_cases h2 : hv = 2
                  · have d2 : (hv == 2) = true := by simpa using h2
                    rw [d0] at s1
                    rw [d2] at s2
                    simp at s1 s2
                    have S1 := Lib.hid s1
                    have S2 := Lib.hid s2
                    clear s1 s2 h2
                    go_wp2_with (go_at_call 19; refine (HH.out).mono ?_; rintro e w' ⟨rfl, rfl⟩)
                    go_roundw
                    case rel => exact ⟨i + 1, by omega, by go_num, by rw [S1.out]; go_num, by rw [S2.out]; go_num, by trivial⟩
                    case measure => simp [intOf]; omega
                  · have d2 : (hv == 2) = false := by simpa using h2
                    rw [d0] at s1
                    rw [d2] at s2
                    simp at s1 s2
                    have S1 := Lib.hid s1
                    have S2 := Lib.hid s2
                    clear s1 s2
                    go_wp2_with (go_at_call 19; refine (HH.out).mono ?_; rintro e w' ⟨rfl, rfl⟩)
                    go_roundw
                    case rel => exact ⟨i + 1, by omega, by go_num, by rw [S1.out]; go_num, by rw [S2.out], by trivial⟩
                    case measure => simp [intOf]; omega
              · have hie : i = 6 := by omega
                subst hie
                obtain ⟨a1, a2⟩ := alone_one HO2.out.2 (j : Int) 6
                generalize cntB (someB L2 j) 6 = cs at a2
                generalize cntB (aloneB L2 j) 6 = ca at a1 a2
                rcases Nat.lt_or_ge 0 ca with hca | hca
                · have e1 : ca = 1 := by omega
                  subst e1
                  have hcs := a2 rfl
                  have g1 : ¬ (1 : Int) < (cs : Int) := by omega
                  clear a1 a2 hca
                  go_wp2_with fail
                  go_roundw
                  case rel => exact ⟨j + 1, by omega, by go_num, by trivial⟩
                  case measure => simp [intOf]; omega
                · have e1 : ca = 0 := by omega
                  subst e1
                  clear a1 a2 hca
                  go_wp2_with fail
                  go_roundw
                  case rel => exact ⟨j + 1, by omega, by go_num, by trivial⟩
                  case measure => simp [intOf]; omega
          · have hje : j = 6 := by omega
            subst hje
            go_wp2_with fail
            go_roundw
            case rel => exact ⟨k + 1, L2, A2, c2, by omega, by go_num, rfl, HT2, HL2, HO2, by omega, hF2⟩
            case measure => simp [intOf]; omega
      · have hge : ¬ (k : Int) < (acts.length : Int) := by omega
        go_wp2_with (go_at_call 16; refine (works39_is _).mono ?_; rintro e w7 ⟨_, rfl, rfl, hf7⟩)
        go_ret
        exact ⟨_, rfl, rfl, hf.trans0 hf7⟩
end Go.Proofs.Ytekigojbkhjdbaa
