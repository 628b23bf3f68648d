/- The document's reach: From. -/
import Derived.Test.YtdihpobegoihkaaDoorAppRow
import Derived.Deep.RegionHeldLaw
namespace Go.Proofs.YtdihpobegoihkaaDoor
set_option linter.all false
open Go.RowKit
set_option maxRecDepth 100000

/-- An arc of the document's graph within a row. -/
def arcR (n : Nat) (Mx : Nat → Nat → Int) (ws : List Int) (m : Int) (u w : Nat) : Bool := outR n Mx (u : Int) m w && decide ((w : Int) ∈ ws)
def startR (ss ws : List Int) (v : Nat) : Bool := decide ((v : Int) ∈ ss) && decide ((v : Int) ∈ ws)
def fromR (n : Nat) (Mx : Nat → Nat → Int) (ss ws : List Int) (m : Int) : Nat → Bool := fun w => decide (w < n) && iterP n (arcR n Mx ws m) (startR ss ws) (n + 1) w
/-- What one round adds. -/
theorem elems_filter (n : Nat) (Mx : Nat → Nat → Int) (ws : List Int) (m : Int) (u : Nat) : (elems n (outR n Mx (u : Int) m)).filter (fun w : Nat => decide ((w : Int) ∈ ws)) = elems n (arcR n Mx ws m u) := by
  simp only [elems, List.filter_filter]
  congr 1
  funext w
  rw [Bool.and_comm]; rfl
theorem mem_natI {x : Int} {l : List Nat} : x ∈ natI l ↔ ∃ k ∈ l, (k : Int) = x := by simp [natI]
theorem rise_natI {l : List Nat} (h : l.Pairwise (· < ·)) : (natI l).Pairwise (· < ·) := by
  rw [natI, List.pairwise_map]
  exact h.imp (fun h => by omega)
theorem round_set (n : Nat) (E : Nat → Nat → Bool) (p : Nat → Bool) : ofI (natI (elems n p ++ (elems n p).flatMap (fun u => elems n (E u)))) = natI (elems n (stepP n E p)) := by
  refine rise_extI (rise_ofI _) (rise_natI (elems_sorted _ _)) (fun x => ?_)
  rw [mem_ofI, mem_natI, mem_natI]
  constructor
  · rintro ⟨k, hk, rfl⟩
    refine ⟨k, ?_, rfl⟩
    rw [mem_elems]
    rcases List.mem_append.1 hk with hk | hk
    · exact ⟨(mem_elems.1 hk).1, stepP_iff.2 (.inl (mem_elems.1 hk).2)⟩
    · obtain ⟨u, hu, hk⟩ := List.mem_flatMap.1 hk
      exact ⟨(mem_elems.1 hk).1, stepP_iff.2 (.inr ⟨u, (mem_elems.1 hu).1, (mem_elems.1 hu).2, (mem_elems.1 hk).2⟩)⟩
  · rintro ⟨k, hk, rfl⟩
    refine ⟨k, ?_, rfl⟩
    rw [mem_elems] at hk
    rw [List.mem_append]
    rcases stepP_iff.1 hk.2 with h | ⟨u, hu, h1, h2⟩
    · exact .inl (mem_elems.2 ⟨hk.1, h⟩)
    · exact .inr (List.mem_flatMap.2 ⟨u, mem_elems.2 ⟨hu, h1⟩, mem_elems.2 ⟨hk.1, h2⟩⟩)
theorem elems_len (n : Nat) (p : Nat → Bool) : (elems n p).length ≤ n := Nat.le_trans (List.length_filter_le _ _) (by rw [List.length_range]; exact Nat.le_refl _)
theorem flat_len (n : Nat) (f : Nat → List Nat) (hf : ∀ u, (f u).length ≤ n) : ∀ l : List Nat, (l.flatMap f).length ≤ l.length * n
  | [] => by simp
  | x :: xs => by
    have := flat_len n f hf xs
    have := hf x
    simp only [List.flatMap_cons, List.length_append, List.length_cons, Nat.add_mul]
    omega
set_option maxHeartbeats 4000000 in
theorem FromR_is {W : World} {n c d e : Nat} {R S B : Option Addr} {Mx : Nat → Nat → Int} {ss ws : List Int} (h : RefG W n R Mx) (hs : IntsAt W S ss) (hw : IntsAt W B ws) (m : Int) :
    Calls Tryd.prog 35 #[.agg #[.int .i64 (n : Int), .slice R n c], .slice S ss.length d, .slice B ws.length e, .int .i64 m] W (Rets (ListPost W (elems n (fromR n Mx ss ws m)))) := by
  obtain ⟨i0, hi, hz0, hz1, hz2⟩ := info_parts info_int
  have hn := h.1
  have HG := Lib.hid h
  have HS := Lib.hid hs
  have HW := Lib.hid hw
  clear h hs hw
  obtain ⟨W0, hW0⟩ : ∃ W0, W.alloc (.cells #[.int .i64 (n : Int), .slice R n c] 27) = W0 := ⟨_, rfl⟩
  have hf0 : Fr0 W W0 := hW0 ▸ fr_alloc _ _ _
  have hs0 := hf0.size
  have hhp : W0.heap[W.heap.size]? = some (.cells #[.int .i64 (n : Int), .slice R n c] 27 (0, 0)) := hW0 ▸ World.alloc_heap_new _ _
  have b0 : W0.cell? ⟨W.heap.size, 0, none⟩ = some (.int .i64 n) := by simp [World.cell?, hhp]
  have b1 : W0.cell? ⟨W.heap.size, 1, none⟩ = some (.slice R n c) := by simp [World.cell?, hhp]
  clear hhp
  go_enter Tryd.func35, Tryd.ntmps35
  go_wp2_with fail
  have HW0 := Lib.hid hW0
  clear hW0
  go_loopw [9, 10] (fun v9 v10 wr => ∃ k : Nat, k ≤ n ∧ v10 = .int .i64 k ∧ Fr0 W0 wr ∧ Hid (wr.ownsRow W0.heap.size 3 1 v9 ((List.range k).filter (startR ss ws)).length (ints ((List.range k).filter (startR ss ws))))) (fun _ v10 _ => n - (intOf v10).toNat)
  case atStart => exact ⟨0, by omega, rfl, Fr.refl _ _, Lib.hid (own_nil _ _ _ _)⟩
  case round =>
    obtain ⟨k, hk, rfl, hf, HO⟩ := hrel
    have hsz := hf.size
    have g0 := hf.cell b0 (fun x => x)
    by_cases hlt : k < n
    · have hlt' : (k : Int) < (n : Int) := by omega
      have hfl : ((List.range k).filter (startR ss ws)).length ≤ k := Nat.le_trans (List.length_filter_le _ _) (by rw [List.length_range]; exact Nat.le_refl _)
      have HH1 := Lib.hid (Has5_is (c := d) (HS.out.fr0 (hf0.trans0 hf)) (k : Int))
      have HH2 := Lib.hid (Has5_is (c := e) (HW.out.fr0 (hf0.trans0 hf)) (k : Int))
      have hst := range_succ_filter (startR ss ws) k
      have hsv : startR ss ws k = (decide ((k : Int) ∈ ss) && decide ((k : Int) ∈ ws)) := rfl
      generalize (List.range k).filter (startR ss ws) = acc at HO hfl hst
      generalize decide ((k : Int) ∈ ss) = x1 at HH1 hsv
      generalize decide ((k : Int) ∈ ws) = x2 at HH2 hsv
      obtain ⟨A3, c3, e3⟩ := own_form HO.out
      subst e3
      rw [hsv] at hst
      have ho := HO.out
      cases x1 <;> cases x2
      all_goals
        have HT := Lib.hid hst
        clear hst hsv
        go_wp2_with (first | (go_at_call 42; with_reducible refine (HH1.out).mono ?_; rintro e w' ⟨rfl, rfl⟩) | (go_at_call 42; with_reducible refine (HH2.out).mono ?_; rintro e w' ⟨rfl, rfl⟩) | (at_builtin; refine wpList_append_own _ rfl _ _ 37 rfl W0.heap.size 3 i0 (.int .i64 0) 1 8 Tryd.underlying37 hi hz0 hz1 hz2 rfl (by decide) _ _ _ rfl (own_fr0 ho (fr_alloc _ _ _)) _ 1 1 [.int .i64 (k : Int)] rfl rfl (cell_one_new _ _ _) (by simp [Value.oneCell']) (by unfold maxLen; omega) (by omega) (by simp; omega) ?_; intro v' w2 hown' hgrow _))
        go_roundw
        case measure => simp [intOf]; omega
        case rel => first
          | exact ⟨k + 1, by omega, by go_num, hf, Lib.hid (by rw [HT.out]; simpa using ho)⟩
          | exact ⟨k + 1, by omega, by go_num, (hf.alloc _).trans (append_fr0 (own_fr0 ho (fr_alloc _ _ _)) hgrow) (fun j hj e => own_old ho hj e), Lib.hid (by rw [HT.out]; rw [ints_snoc] at hown'; simpa using hown')⟩
    · have hke : k = n := by omega
      subst hke
      go_wp2_with fail
      go_loopw [9, 11] (fun v9 v11 wr => ∃ j : Nat, j ≤ k + 1 ∧ v11 = .int .i64 j ∧ Fr0 W0 wr ∧ Hid (wr.ownsRow W0.heap.size 3 1 v9 (elems k (iterP k (arcR k Mx ws m) (startR ss ws) j)).length (ints (elems k (iterP k (arcR k Mx ws m) (startR ss ws) j))))) (fun _ v11 _ => k + 1 - (intOf v11).toNat)
      case atStart => exact ⟨0, by omega, rfl, hf, HO⟩
      case round =>
        clear hlt hk hf g0 hsz HO
        obtain ⟨j, hj, rfl, hf, HO⟩ := hrel
        rename World => wo
        have hsz := hf.size
        have g0 := hf.cell b0 (fun x => x)
        by_cases hlt : j ≤ k
        · have hlt' : (j : Int) ≤ (k : Int) := by omega
          have HR := Lib.hid (round_set k (arcR k Mx ws m) (iterP k (arcR k Mx ws m) (startR ss ws) j))
          have hol := elems_len k (iterP k (arcR k Mx ws m) (startR ss ws) j)
          have hstep : iterP k (arcR k Mx ws m) (startR ss ws) (j + 1) = stepP k (arcR k Mx ws m) (iterP k (arcR k Mx ws m) (startR ss ws) j) := rfl
          have HST := Lib.hid hstep
          clear hstep
          generalize iterP k (arcR k Mx ws m) (startR ss ws) j = P at HO HR hol HST
          generalize hl : elems k P = l at HO HR hol
          have HL := Lib.hid hl
          clear hl
          obtain ⟨A9, c9, e9⟩ := own_form HO.out
          subst e9
          have HI := Lib.hid (own_ints HO.out (by omega))
          have HPL := Lib.hid (plain_own HO.out)
          go_wp2_with fail
          go_loopw [12, 13] (fun v12 v13 w2 => ∃ (i : Nat) (A : Option Addr) (cc : Nat), i ≤ l.length ∧ v13 = .int .i64 i ∧ v12 = .slice A (natI (l ++ (l.take i).flatMap (fun u => elems k (arcR k Mx ws m u)))).length cc ∧ Fr0 wo w2 ∧ Hid (IntsAt w2 A (natI (l ++ (l.take i).flatMap (fun u => elems k (arcR k Mx ws m u))))) ∧ Hid (Plain A (natI (l ++ (l.take i).flatMap (fun u => elems k (arcR k Mx ws m u)))).length cc)) (fun _ v13 _ => l.length - (intOf v13).toNat)
          case atStart => exact ⟨0, A9, c9, by omega, rfl, by simp [natI], Fr.refl _ _, Lib.hid (by simpa using HI.out), Lib.hid (by simpa [natI] using HPL.out)⟩
          case round =>
            obtain ⟨i, A, cc, hi2, rfl, rfl, hf2, HI2, HP2⟩ := hrel
            have hml : (natI (l ++ (l.take i).flatMap (fun u => elems k (arcR k Mx ws m u)))).length ≤ 2000000 := by
              have h1 := flat_len k (fun u => elems k (arcR k Mx ws m u)) (fun u => elems_len _ _) (l.take i)
              have h2 : (l.take i).length * k ≤ 1024 * 1024 := Nat.mul_le_mul (by rw [List.length_take]; omega) hn
              simp only [natI, List.length_map, List.length_append]
              omega
            have hs2 := hf2.size
            by_cases hlt2 : i < l.length
            · have hlt2' : (i : Int) < (l.length : Int) := by omega
              obtain ⟨b, o, rfl, hc⟩ := (HI.out.fr0 hf2).at_ (k := i) (by simpa [natI] using hlt2)
              have hgd : (natI l).getD i 0 = ((l.getD i 0 : Nat) : Int) := by
                simp [natI, List.getD_eq_getElem?_getD, List.getElem?_eq_getElem hlt2]
              rw [hgd] at hc
              have htk := take_snoc_n l i hlt2
              generalize l.getD i 0 = x at hc htk
              have hms : natI (l ++ (l.take (i + 1)).flatMap (fun u => elems k (arcR k Mx ws m u))) = natI (l ++ (l.take i).flatMap (fun u => elems k (arcR k Mx ws m u))) ++ natI (elems k (arcR k Mx ws m x)) := by
                rw [htk]; simp [natI, List.flatMap_append]
              have HMS := Lib.hid hms
              clear hms htk hgd
              have hxl := elems_len k (arcR k Mx ws m x)
              have HC := Lib.hid (fun w' (f : Fr0 wr w') => Out21_is (c := c) (d := e) (HG.out.fr0 (((hf0.trans0 hf).trans0 hf2).trans0 f)) (HW.out.fr0 (((hf0.trans0 hf).trans0 hf2).trans0 f)) (x : Int) m)
              rw [elems_filter] at HC
              generalize elems k (arcR k Mx ws m x) = ex at HC HMS hxl
              generalize natI (l ++ (l.take i).flatMap (fun u => elems k (arcR k Mx ws m u))) = ms at HI2 HP2 hml HMS
              have g0 := hf2.cell g0 (fun x => x)
              have g1 := hf2.cell (hf.cell b1 (fun x => x)) (fun x => x)
              have KS : ∀ w', Fr0 wr w' → (Fr0 wr w' ∧ w'.cell? ⟨W.heap.size, 0, none⟩ = some (.int .i64 k) ∧ w'.cell? ⟨W.heap.size, 1, none⟩ = some (.slice R k c) ∧ w'.cell? ⟨b, o + i, none⟩ = some (.int .i64 x)) := fun w' f => ⟨f, f.cell g0 (fun x => x), f.cell g1 (fun x => x), f.cell hc (fun x => x)⟩
              have HKS := Lib.hid KS
              clear KS
              go_wp2_with fail
              go_region_held_law (fun w' => Fr0 wr w' ∧ w'.cell? ⟨W.heap.size, 0, none⟩ = some (.int .i64 k) ∧ w'.cell? ⟨W.heap.size, 1, none⟩ = some (.slice R k c) ∧ w'.cell? ⟨b, o + i, none⟩ = some (.int .i64 x))
                ((refine HKS.out _ ?_; first | exact fr_drew _ _ | assumption | exact Fr.alloc (And.left (by assumption)) _))
                (first
                  | (refine step_append_lit rfl (.tmp 45) (.tmp 46) rfl rfl rfl HP2.out (by omega) (World.alloc_heap_new _ _) (Nat.le_refl _) (HI2.out.fr0 (And.left (by assumption))) ?_; intro v1 w1 hown1 hf1; have hF1 := Fr.trans0 (And.left (by assumption)) hf1)
                  | (go_simp; go_at_call 41; refine (HC.out _ (And.left (by assumption))).mono ?_; rintro e w' ⟨v5, rfl, hf5, ho5⟩; obtain ⟨A5, c5, rfl⟩ := own_form ho5; have hF5 := Fr.trans0 hF1 hf5)
                  | (refine step_append_ints (B := wr.heap.size) (xs := ms) (ys := natI ex) rfl (.tmp 47) (.tmp 55) rfl rfl (by simp [natI]; rfl) (by simpa [natI] using plain_own ho5) (by simp [natI]; omega) hF5.size (own_fr0 hown1 hf5) (own_ints ho5 (by omega)) ?_; intro v6 w6 hown6 hf6; have hF6 := Fr.trans hF5 hf6 (fun j hj e => own_old hown1 hj e)))
              go_wp2_with fail
              have HO6 := hown6
              rw [← HMS.out] at HO6
              obtain ⟨A6, c6, rfl⟩ := own_form HO6
              go_roundw
              case rel => exact ⟨i + 1, A6, c6, by omega, by go_num, rfl, hf2.trans0 hF6, Lib.hid (own_intsI HO6 (by rw [HMS.out]; simp [natI]; omega)), Lib.hid (plain_own HO6)⟩
              case measure => simp [intOf]; omega
            · have hie : i = l.length := by omega
              rw [hie, List.take_of_length_le (Nat.le_refl _)] at hml HI2 HP2
              rw [hie, List.take_of_length_le (Nat.le_refl _)]
              have HC := Lib.hid (Of_is (c := cc) HI2.out (by omega))
              rw [HR.out] at HC
              go_wp2_with (go_at_call 65; refine (HC.out).mono ?_; rintro e w' ⟨v5, rfl, hL5⟩)
              have hL := hL5.nat
              go_roundw
              case rel => exact ⟨j + 1, by omega, by go_num, (hf.trans0 hf2).trans0 hL.1, Lib.hid (by rw [HST.out]; exact hL.2.mono (Nat.le_trans hsz hs2))⟩
              case measure => simp [intOf]; omega
        · have hje : j = k + 1 := by omega
          subst hje
          have e : elems k (fromR k Mx ss ws m) = elems k (iterP k (arcR k Mx ws m) (startR ss ws) (k + 1)) := by
            apply List.filter_congr
            intro x hx
            simp [fromR, List.mem_range.1 hx]
          go_wp2_with fail
          go_ret
          rw [e]
          exact ⟨_, rfl, hf0.trans0 hf, HO.out.mono hs0⟩
end Go.Proofs.YtdihpobegoihkaaDoor
