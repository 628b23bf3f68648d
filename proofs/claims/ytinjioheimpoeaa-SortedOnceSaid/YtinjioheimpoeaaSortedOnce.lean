/- Sets are one if just the same numbers are in them: the law's walk. -/
import Derived.Test.YtinjioheimpoeaaWorks05
import Derived.Deep.CutRange
namespace Go.Proofs.Ytinjioheimpoeaa
set_option linter.all false
open Go.RowKit
set_option maxRecDepth 100000

/-- The numbers that have been put in, of a row begun at another place. -/
def turnI (xs : List Int) (tu k : Nat) : List Int := (List.range k).map (fun i => xs.getD ((i + tu) % xs.length) 0)
theorem turnI_succ (xs : List Int) (tu k : Nat) : ofI (ofI (turnI xs tu k) ++ ofI [xs.getD ((k + tu) % xs.length) 0]) = ofI (turnI xs tu (k + 1)) := by
  refine ofI_congr fun x => ?_
  rw [List.mem_append, mem_ofI, mem_ofI, turnI, turnI, List.range_succ, List.map_append, List.mem_append]
  simp
theorem turnI_all (xs : List Int) (tu : Nat) : ofI (turnI xs tu xs.length) = ofI xs := by
  refine ofI_congr fun x => ?_
  rw [turnI, List.mem_map]
  constructor
  · rintro ⟨i, hi, rfl⟩
    have hn : 0 < xs.length := by have := List.mem_range.1 hi; omega
    have hm := Nat.mod_lt (i + tu) hn
    rw [List.getD_eq_getElem?_getD, List.getElem?_eq_getElem hm]
    exact List.getElem_mem hm
  · intro hx
    obtain ⟨j, hj, rfl⟩ := List.getElem_of_mem hx
    have hn : 0 < xs.length := by omega
    refine ⟨(j + (xs.length - tu % xs.length)) % xs.length, List.mem_range.2 (Nat.mod_lt _ hn), ?_⟩
    have e : ((j + (xs.length - tu % xs.length)) % xs.length + tu) % xs.length = j := by
      have h1 := Nat.mod_lt tu hn
      rw [Nat.add_mod, Nat.mod_mod, ← Nat.add_mod]
      have h2 : j + (xs.length - tu % xs.length) + tu = j + xs.length * (1 + tu / xs.length) := by
        have := Nat.div_add_mod tu xs.length
        rw [Nat.mul_add, Nat.mul_one]
        omega
      rw [h2, Nat.add_mul_mod_self_left, Nat.mod_eq_of_lt hj]
    rw [e, List.getD_eq_getElem?_getD, List.getElem?_eq_getElem hj]; rfl
theorem rem_is (k tu n : Nat) : ((k : Int) + (tu : Int)).tmod (n : Int) = (((k + tu) % n : Nat) : Int) := by
  rw [Int.tmod_eq_emod_of_nonneg (by omega), Int.natCast_emod, Int.natCast_add]
/-- Numbers do not lie in a variable that holds a slice. -/
theorem IntsAt.off_box {W W' : World} {A X : Option Addr} {zs : List Int} {b t n c : Nat} (h : IntsAt W A zs) (hb : Box W b t (.slice X n c)) (f : Fr (fun k => k = b) W W') : IntsAt W' A zs := by
  refine ⟨h.1, h.2.imp id ?_⟩
  rintro ⟨q, o, e, hc⟩
  refine ⟨q, o, e, fun j hj => f.cell (hc j hj) (fun e2 => ?_)⟩
  have := hc j hj
  simp only at e2
  subst e2
  unfold Box at hb
  simp only [World.cell?, hb] at this
  by_cases h0 : o + j = 0
  · simp [h0] at this
  · rw [show (#[Value.slice X n c])[o + j]? = none by simp; omega] at this
    cases this
theorem SetAt.off_box {W W' : World} {A X : Option Addr} {zs : List Int} {b t n c d : Nat} (h : SetAt W A d zs) (hb : Box W b t (.slice X n c)) (f : Fr (fun k => k = b) W W') : SetAt W' A d zs :=
  ⟨h.ints.off_box hb f, h.plain, h.rise, h.small, h.cap⟩
theorem fr_cells {W W' : World} (f : Fr0 W W') : (∀ b o, b < W.heap.size → W'.cell? ⟨b, o, none⟩ = W.cell? ⟨b, o, none⟩) ∧ (∀ b o, b < W.heap.size → W'.frozen? ⟨b, o, none⟩ = W.frozen? ⟨b, o, none⟩) := by
  refine ⟨fun b o h => ?_, fun b o h => ?_⟩
  · simp only [World.cell?, f.same b h (fun x => x)]
  · simp only [World.frozen?, f.same b h (fun x => x)]
theorem SOf_lit {W : World} {N : Nat} {y : Int} (h : W.heap[N]? = some (.cells #[.int .i64 y] 3 (0, 0))) : Calls Try.prog 15 #[.slice (some ⟨N, 0, none⟩) 1 1] W (Rets (SetPost W [y])) :=
  SOf_is (l := [y]) (c := 1) (ints_lit (l := [y]) h (by simp)) plain_some (by simp)
set_option maxHeartbeats 16000000 in
theorem SortedOnce_is {W : World} {turn : Int} {A : Option Addr} {c : Nat} {xs : List Int} (hx : IntsAt W A xs) (hp : Plain A xs.length c) (hmo : (Lit.int .u8 turn).wf = true) :
    Calls Try.prog 6 #[.slice A xs.length c, .int .u8 turn] W (Rets (SamePost true W)) := by
  obtain ⟨hm0, hm1⟩ : 0 ≤ turn ∧ turn ≤ 255 := by
    have := hmo
    simp [Lit.wf, IntKind.min, IntKind.max, IntKind.signed, IntKind.bits] at this
    omega
  obtain ⟨tu, rfl⟩ : ∃ tu : Nat, turn = tu := ⟨turn.toNat, by omega⟩
  clear hmo
  by_cases h60 : xs.length > 60
  · have h60' : (xs.length : Int) > 60 := by omega
    clear hx hp
    go_enter Try.func6, Try.ntmps6
    go_wp2_with (go_at_call 14; refine (works05_is _).mono ?_; rintro e w' ⟨_, rfl, rfl, hf1⟩)
    go_ret
    exact ⟨_, rfl, rfl, hf1⟩
  · have h60' : ¬ (xs.length : Int) > 60 := by omega
    have HX := Lib.hid hx
    have hol := len_ofI xs
    have HA := Lib.hid (SOf_is hx hp (by omega))
    have HB : Hid (∀ w', Calls Try.prog 15 #[.slice none 0 0] w' (Rets (SetPost w' []))) := Lib.hid (fun w' => SOf_is (W := w') (A := none) (c := 0) (l := []) ⟨by simp, .inl rfl⟩ (fun _ => ⟨rfl, rfl⟩) (by simp))
    have hza := turnI_all xs tu
    have HZA := Lib.hid hza
    have HTS := Lib.hid (turnI_succ xs tu)
    clear hx hza
    generalize hzs : ofI xs = zs at hol HA HZA
    have HZS := Lib.hid hzs
    clear hzs
    go_enter Try.func6, Try.ntmps6
    go_wp2_with (first
      | (go_at_call 15; refine (HB.out w1).mono ?_; rintro e w2 ⟨_, rfl, A2, c2, rfl, hf2, hS2, hN2⟩)
      | (go_at_call 15; refine (HA.out).mono ?_; rintro e w1 ⟨_, rfl, A1, c1, rfl, hf1, hS1, _⟩))
    obtain ⟨wi, hwi⟩ : ∃ wi, (w2.alloc (.cells #[.slice A1 zs.length c1] 25)).alloc (.cells #[.slice A2 0 c2] 25) = wi := ⟨_, rfl⟩
    have hfi : Fr0 w2 wi := hwi ▸ (fr_alloc _ _ _).alloc _
    have hsi : wi.heap.size = w2.heap.size + 2 := by rw [← hwi]; simp
    have hb1 : Box wi w2.heap.size 25 (.slice A1 zs.length c1) := hwi ▸ (Box.new w2 _ _).fr0 (fr_alloc _ _ _)
    have hb2 : Box wi (w2.heap.size + 1) 25 (.slice A2 0 c2) := by
      have := Box.new (w2.alloc (.cells #[.slice A1 zs.length c1] 25)) 25 (.slice A2 0 c2)
      rw [World.size_alloc] at this
      exact hwi ▸ this
    have hFi : Fr0 W wi := (hf1.trans0 hf2).trans0 hfi
    have hSi := hS1.fr0 (hf2.trans0 hfi)
    have hSt := hS2.fr0 hfi
    have hW2 : W.heap.size ≤ w2.heap.size := Nat.le_trans hf1.size hf2.size
    rw [hwi]
    clear hwi hf1 hf2 hS1 hS2 hN2 HA HB
    generalize hb6 : w2.heap.size + 1 = b6 at hb2 ⊢
    have hb5 : w2.heap.size < b6 := by omega
    go_loopw [7] (fun v7 wr => ∃ (k : Nat) (ts : List Int) (A6 : Option Addr) (c6 : Nat), k ≤ xs.length ∧ v7 = .int .i64 k ∧ Hid (ts = ofI (turnI xs tu k)) ∧ Box wr b6 25 (.slice A6 ts.length c6) ∧ SetAt wr A6 c6 ts ∧ Fr (fun j => j = b6) wi wr) (fun v7 _ => xs.length - (intOf v7).toNat)
    case atStart => exact ⟨0, [], A2, c2, by omega, rfl, Lib.hid rfl, hb2, hSt, Fr.refl _ _⟩
    case round =>
      obtain ⟨k, ts, A6, c6, hk, rfl, HTT, hbt, hSt6, hfr⟩ := hrel
      have hzt := hbt.cell
      have hzf := hbt.frozen
      have hkl : ts.length ≤ k := by rw [HTT.out]; refine Nat.le_trans (len_ofI _) ?_; simp [turnI]
      by_cases hlt : k < xs.length
      · have hlt' : (k : Int) < (xs.length : Int) := by omega
        have hn : 0 < xs.length := by omega
        have hwr : IntKind.i64.wrap (tu : Int) = (tu : Int) := by rw [IntKind.wrap_i64]; omega
        have hwk : IntKind.i64.wrap ((k : Int) + (tu : Int)) = (k : Int) + (tu : Int) := by rw [IntKind.wrap_i64]; omega
        have hmod := rem_is k tu xs.length
        have hlt6 := hbt.lt
        have hxe : ¬ xs = [] := fun e => by rw [e] at hn; simp at hn
        have hml := Nat.mod_lt (k + tu) hn
        have hFr : Fr0 W wr := hFi.trans hfr (fun j hj e => by omega)
        obtain ⟨b, o, rfl, hc⟩ := (HX.out.fr0 hFr).at_ hml
        have hHT := HTS.out k
        generalize hq : (k + tu) % xs.length = q at hmod hml hc hHT
        generalize xs.getD q 0 = x at hc hHT
        have HHT := Lib.hid hHT
        clear hq hHT
        have HW7 := Lib.hid (fun w' (f : Fr0 wr w') (w2 : World) (B : Option Addr) (h : IntsAt w2 B [x]) (e : w' = w2) (hB : Plain B 1 1) => SWith_is (W := w2) (d := 1) (l := [x]) (e ▸ hSt6.fr0 f) h hB (by simp; omega))
        go_upto_region 7 with (fail)
        go_cut [] from 16 to 54 (fun wx => ∃ (ts2 : List Int) (A7 : Option Addr) (c7 : Nat), Hid (ts2 = ofI (turnI xs tu (k + 1))) ∧ Box wx b6 25 (.slice A7 ts2.length c7) ∧ SetAt wx A7 c7 ts2 ∧ Fr (fun j => j = b6) wi wx)
        case first =>
          go_region_with (go_at_call 19; refine (HW7.out _ (by first | exact (fr_drew _ _).alloc _ | exact (fr_alloc _ _ _).drew) _ _ (lit1 x) rfl plain_some).mono ?_; rintro e w5 ⟨_, rfl, A5, c5, rfl, hf5, hS5, _⟩; have hG5 : Fr0 wr w5 := Fr.trans0 (by first | exact (fr_drew _ _).alloc _ | exact (fr_alloc _ _ _).drew) hf5; have hb9 := hbt.fr0 hG5; have hc9 := hb9.cell; have hz9 := hb9.frozen)
          all_goals
            go_wp2_with fail
            go_meet
            have hFS : Fr (fun j => j = b6) w5 (w5.setCell ⟨b6, 0, none⟩ (.slice A5 (ofI (ts ++ ofI [x])).length c5)) := fr_setCell _ _ _ (fun _ => rfl)
            exact ⟨_, A5, c5, Lib.hid (by rw [HTT.out]; exact HHT.out), hb9.set _, hS5.off_box hb9 hFS, (hfr.trans0 hG5).trans hFS (fun _ _ h => h)⟩
        case rest =>
          obtain ⟨ts2, A7, c7, HT2, hb7, hS7, hf7⟩ := hcut
          obtain ⟨w7, hw7⟩ : ∃ w7, w7 = wc := ⟨_, rfl⟩
          subst hw7
          clear hzt hzf hc hbt hSt6 hfr HHT hmod hwk hlt6 hml hkl HW7
          have hFw : Fr0 W w7 := hFi.trans hf7 (fun j hj e => by omega)
          obtain ⟨b', o', hbo, hc⟩ := (HX.out.fr0 hFw).at_ hlt
          cases hbo
          have hlk : ts2.length ≤ k + 1 := by rw [HT2.out]; refine Nat.le_trans (len_ofI _) ?_; simp [turnI]
          generalize xs.getD k 0 = y at hc
          have hz7 := hb7.cell
          have hlt7 := hb7.lt
          have KS := Lib.hid (show ∀ w', Fr0 w7 w' → (Fr0 w7 w' ∧ w'.cell? ⟨b, o + k, none⟩ = some (.int .i64 y) ∧ w'.cell? ⟨b6, 0, none⟩ = some (.slice A7 ts2.length c7)) from fun w' f => ⟨f, f.cell hc (fun x => x), f.cell hz7 (fun x => x)⟩)
          have F1 : ((w7.alloc (.cells #[.int .i64 y] 3)).drew).heap[w7.heap.size]? = some (.cells #[.int .i64 y] 3 (0, 0)) := World.alloc_heap_new _ _
          have F2 : (((w7.alloc (.cells #[.int .i64 y] 3)).alloc (.cells #[.slice none 0 0] 25)).drew).heap[w7.heap.size]? = some (.cells #[.int .i64 y] 3 (0, 0)) := Fr0.heap' (fr_alloc _ _ _) (World.alloc_heap_new _ _)
          have F3 : (((w7.alloc (.cells #[.slice none 0 0] 25)).alloc (.cells #[.int .i64 y] 3)).drew).heap[w7.heap.size + 1]? = some (.cells #[.int .i64 y] 3 (0, 0)) := by
            have := World.alloc_heap_new (w7.alloc (.cells #[.slice none 0 0] 25)) (.cells #[.int .i64 y] 3)
            rwa [World.size_alloc] at this
          have HF := Lib.hid (And.intro F1 (And.intro F2 F3))
          have G3 : Box (((w7.alloc (.cells #[.int .i64 y] 3)).alloc (.cells #[.slice none 0 0] 25)).drew) (w7.heap.size + 1) 25 (.slice none 0 0) := by
            have := Box.new (w7.alloc (.cells #[.int .i64 y] 3)) 25 (.slice none 0 0)
            rw [World.size_alloc] at this
            exact this.fr0 (fr_drew _ _)
          have G4 : Box (((w7.alloc (.cells #[.slice none 0 0] 25)).alloc (.cells #[.int .i64 y] 3)).drew) w7.heap.size 25 (.slice none 0 0) := ((Box.new w7 _ _).fr0 (fr_alloc _ _ _)).fr0 (fr_drew _ _)
          have HG := Lib.hid (And.intro G3 G4)
          clear G3 G4
          clear F1 F2 F3
          go_upto_region 8 with (fail)
          go_cut [8] from 16 to 54 (fun s8 wx => ∃ (k8 c8 : Nat) (A8 : Option Addr), s8 = .pointer (some ⟨k8, 0, none⟩) ∧ Box wx k8 25 (.slice A8 (ofI ([y] ++ ts2)).length c8) ∧ SetAt wx A8 c8 (ofI ([y] ++ ts2)) ∧ Fr0 w7 wx)
          case first =>
            go_region_held_law (fun w' => Fr0 w7 w' ∧ w'.cell? ⟨b, o + k, none⟩ = some (.int .i64 y) ∧ w'.cell? ⟨b6, 0, none⟩ = some (.slice A7 ts2.length c7))
              ((refine KS.out _ ?_; first | exact fr_drew _ _ | assumption | exact And.left (by assumption) | exact Fr.alloc (And.left (by assumption)) _ | exact Fr.alloc (by assumption) _ | exact Fr.setCell (And.left (by assumption)) _ _ (fun h => absurd h (by simp only; omega))))
              (first
                | (go_at_call 15; refine (SOf_lit (y := y) (by first | exact HF.out.1 | exact HF.out.2.1 | exact HF.out.2.2)).mono ?_; rintro e w5 ⟨_, rfl, A5, c5, rfl, hf5, hS5, _⟩; have hG5 : Fr0 w7 w5 := Fr.trans0 (And.left (by assumption)) hf5; have hs5 := hG5.size; have ht5 := hf5.size; (try simp at ht5); first | (have hbb := Box.fr0 HG.out.1 hf5) | (have hbb := Box.fr0 HG.out.2 hf5) | skip)
                | (go_at_call 16; refine (SOr_is (hS5.fr0 (by first | exact Fr.refl _ _ | exact fr_alloc _ _ _)) (hS7.fr0 (And.left (by assumption))) (by simp; omega)).mono ?_; rintro e w6 ⟨_, rfl, A6', c6', rfl, hf6, hS6, _⟩; have hG6 : Fr0 w7 w6 := Fr.trans0 (And.left (by assumption)) hf6; have hs6 := hG6.size; have ht6 := hf6.size; (try simp at ht6); first | (have hbc := Box.fr0 hbb hf6; have hk1 := hbc.cell; have hk2 := hbc.frozen) | (have hbc := Box.fr0 (Box.new w5 _ _) hf6; have hk1 := hbc.cell; have hk2 := hbc.frozen) | skip))
            all_goals
              go_wp2_with fail
              go_meet
              first
                | exact ⟨_, _, A6', rfl, Box.new _ _ _, hS6.fr0 (fr_alloc _ _ _), hG6.alloc _⟩
                | exact ⟨_, _, A6', rfl, hbc.set _, hS6.off_box hbc (fr_setCell _ _ _ (fun _ => rfl)), hG6.setCell _ _ (fun h => absurd h (by simp only; omega))⟩
          case rest =>
            obtain ⟨k8, c8, A8, rfl, hb8, hS8, hf8⟩ := hcut
            obtain ⟨w8, hw8⟩ : ∃ w8, w8 = wc := ⟨_, rfl⟩
            subst hw8
            have hu : ofI (ts2 ++ ofI [y]) = ofI ([y] ++ ts2) := ofI_congr (fun x => by rw [List.mem_append, List.mem_append, mem_ofI]; exact Or.comm)
            have hul := len_ofI ([y] ++ ts2)
            rw [List.length_append, List.length_singleton] at hul
            have hb7 := hb7.fr0 hf8
            have HS7 := Lib.hid (hS7.fr0 hf8)
            have hc := hf8.cell hc (fun x => x)
            have HWL := Lib.hid (fun (w' : World) (N : Nat) (g : SetAt w' A7 c7 ts2) (h : w'.heap[N]? = some (.cells #[.int .i64 y] 3 (0, 0))) => hu ▸ SWith_is (W := w') (d := 1) (l := [y]) g (ints_lit (l := [y]) h (by simp)) (plain_some (a := ⟨N, 0, none⟩)) (by simp; omega))
            clear hu KS HF HG
            generalize ofI ([y] ++ ts2) = us at hb8 hS8 HWL hul
            have z8 := hb8.cell
            have z7 := hb7.cell
            have lt8 := hb8.lt
            have lt7 := hb7.lt
            have KS := Lib.hid (show ∀ w', Fr0 w8 w' → (Fr0 w8 w' ∧ w'.cell? ⟨b, o + k, none⟩ = some (.int .i64 y) ∧ w'.cell? ⟨b6, 0, none⟩ = some (.slice A7 ts2.length c7) ∧ w'.cell? ⟨k8, 0, none⟩ = some (.slice A8 us.length c8)) from fun w' f => ⟨f, f.cell hc (fun x => x), f.cell z7 (fun x => x), f.cell z8 (fun x => x)⟩)
            have HL := Lib.hid (show ((w8.alloc (.cells #[.int .i64 y] 3)).drew).heap[w8.heap.size]? = some (.cells #[.int .i64 y] 3 (0, 0)) from World.alloc_heap_new _ _)
            go_upto_region 9 with (fail)
            go_region_held_law (fun w' => Fr0 w8 w' ∧ w'.cell? ⟨b, o + k, none⟩ = some (.int .i64 y) ∧ w'.cell? ⟨b6, 0, none⟩ = some (.slice A7 ts2.length c7) ∧ w'.cell? ⟨k8, 0, none⟩ = some (.slice A8 us.length c8))
              ((refine KS.out _ ?_; first | exact fr_drew _ _ | assumption | exact And.left (by assumption) | exact Fr.alloc (And.left (by assumption)) _))
              (first
                | (go_at_call 21; refine (SList_is hSb).mono ?_; rintro e w13 ⟨v13, rfl, hf13, ho13⟩; obtain ⟨A13, c13, rfl⟩ := own_form ho13; have hG13 : Fr0 w8 w13 := Fr.trans0 (And.left (by assumption)) hf13)
                | (go_at_call 21; refine (SList_is (hS8.fr0 (And.left (by assumption)))).mono ?_; rintro e w11 ⟨v11, rfl, hf11, ho11⟩; obtain ⟨A11, c11, rfl⟩ := own_form ho11; have hG11 : Fr0 w8 w11 := Fr.trans0 (And.left (by assumption)) hf11)
                | (go_at_call 19; refine (HWL.out _ _ (HS7.out.fr0 (And.left (by assumption))) (by first | exact Fr0.heap' hf11 HL.out | exact World.alloc_heap_new _ _)).mono ?_; rintro e w12 ⟨_, rfl, A12, c12, rfl, hf12, hSb, _⟩; have hG12 : Fr0 w8 w12 := Fr.trans0 (And.left (by assumption)) hf12; have hg12 : Fr0 w11 w12 := (by first | exact hf12 | exact Fr.trans0 (fr_alloc _ _ _) hf12))
                | (go_at_call 34; refine (SSame_is (c := c11) (d := c13) ((own_intsI ho11 (by omega)).fr0 (hg12.trans0 hf13)) (own_intsI ho13 (by omega)) (by omega)).mono ?_; rintro e w' ⟨rfl, rfl⟩))
            all_goals
              go_wp2_with fail
              go_roundw
              case rel => exact ⟨k + 1, ts2, A7, c7, by omega, by go_num, HT2, hb7.fr0 hG13, HS7.out.fr0 hG13, (hf7.trans0 hf8).trans0 hG13⟩
              case measure => simp [intOf]; omega
      · have hlt' : ¬ (k : Int) < (xs.length : Int) := by omega
        have hkn : k = xs.length := by omega
        have hts : zs = ts := by rw [HTT.out, hkn]; exact HZA.out.symm
        subst hts
        have hb5' : Box wr w2.heap.size 25 (.slice A1 zs.length c1) := hb1.fr hfr (by omega)
        have hSs : SetAt wr A1 c1 zs := hSi.off_box hb2 hfr
        have hFr : Fr0 W wr := hFi.trans hfr (fun j hj e => by omega)
        have zs5 := hb5'.cell
        have f1 : zs.filter (fun x => !decide (x ∈ zs)) = [] := List.filter_eq_nil_iff.2 (fun a ha => by simp [ha])
        have f2 : zs.filter (fun x => decide (x ∈ zs)) = zs := List.filter_eq_self.2 (fun a ha => by simp [ha])
        have KM := Lib.hid (fun w' (f : Fr0 wr w') => SMinus_is (hSs.fr0 f) (hSt6.fr0 f))
        have KN := Lib.hid (fun w' (f : Fr0 wr w') => SAnd_is (hSs.fr0 f) (hSt6.fr0 f))
        rw [f1] at KM
        rw [f2] at KN
        have KA := Lib.hid (fun w' (f : Fr0 wr w') => SList_is (hSs.fr0 f))
        have KB := Lib.hid (fun w' (f : Fr0 wr w') => SList_is (hSt6.fr0 f))
        have KS := Lib.hid (show ∀ w', Fr0 wr w' → (Fr0 wr w' ∧ w'.cell? ⟨w2.heap.size, 0, none⟩ = some (.slice A1 zs.length c1) ∧ w'.cell? ⟨b6, 0, none⟩ = some (.slice A6 zs.length c6)) from fun w' f => ⟨f, f.cell zs5 (fun x => x), f.cell hzt (fun x => x)⟩)
        clear f1 f2 hSs hSt6 hSi hSt HTT HZA HTS HZS
        go_upto_region 11 with (fail)
        go_region_held_law (fun w' => Fr0 wr w' ∧ w'.cell? ⟨w2.heap.size, 0, none⟩ = some (.slice A1 zs.length c1) ∧ w'.cell? ⟨b6, 0, none⟩ = some (.slice A6 zs.length c6))
          ((refine KS.out _ ?_; first | exact fr_drew _ _ | assumption | exact And.left (by assumption)))
          (first
            | (go_at_call 21; have hmk := hG11; refine (KB.out _ (And.left (by assumption))).mono ?_; rintro e w12 ⟨v12, rfl, hf12, ho12⟩; obtain ⟨A12, c12, rfl⟩ := own_form ho12; have hG12 : Fr0 wr w12 := Fr.trans0 (And.left (by assumption)) hf12)
            | (go_at_call 21; refine (KA.out _ (And.left (by assumption))).mono ?_; rintro e w11 ⟨v11, rfl, hf11, ho11⟩; obtain ⟨A11, c11, rfl⟩ := own_form ho11; have hG11 : Fr0 wr w11 := Fr.trans0 (And.left (by assumption)) hf11)
            | (go_at_call 34; refine (SSame_is (c := c11) (d := c12) ((own_intsI ho11 (by omega)).fr0 hf12) (own_intsI ho12 (by omega)) (by omega)).mono ?_; rintro e w' ⟨rfl, rfl⟩)
            | (go_at_call 24; refine (SLen_is _ _ _ _).mono ?_; rintro e w13 ⟨rfl, hf13⟩; have hG13 : Fr0 wr w13 := Fr.trans0 (And.left (by assumption)) hf13)
            | (go_at_call 18; refine (KM.out _ (And.left (by assumption))).mono ?_; rintro e w14 ⟨_, rfl, A14, c14, rfl, hf14, hS14, _⟩; have hG14 : Fr0 wr w14 := Fr.trans0 (And.left (by assumption)) hf14)
            | (go_at_call 17; refine (KN.out _ (And.left (by assumption))).mono ?_; rintro e w15 ⟨_, rfl, A15, c15, rfl, hf15, hS15, _⟩; have hG15 : Fr0 wr w15 := Fr.trans0 (And.left (by assumption)) hf15)
            | (go_at_call 14; refine (works05_is _).mono ?_; rintro e w16 ⟨_, rfl, rfl, hf16⟩; have hG16 : Fr0 wr w16 := Fr.trans0 (And.left (by assumption)) hf16))
        all_goals
          go_wp2_with fail
          go_ret
          exact ⟨_, rfl, rfl, hFr.trans0 hG16⟩
end Go.Proofs.Ytinjioheimpoeaa
