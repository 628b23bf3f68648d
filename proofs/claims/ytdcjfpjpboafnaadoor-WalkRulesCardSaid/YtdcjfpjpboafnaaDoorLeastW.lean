/- Compact, LeastPure, LeastW, DistW, in one text. -/
import Derived.Test.YtdcjfpjpboafnaaDoorStepB
import Derived.ScopeJumps
import Derived.WalkMore
namespace Go.Proofs.YtdcjfpjpboafnaaDoor
set_option linter.all false
open Go.RowKit
set_option maxRecDepth 100000

/-- A row without runs. -/
def uniqL {α : Type} [DecidableEq α] (l : List α) : List α := l.foldl (fun acc x => if acc.getLast? = some x then acc else acc ++ [x]) []
section
variable {α : Type} [DecidableEq α]
theorem uniqL_snoc (l : List α) (x : α) : uniqL (l ++ [x]) = if (uniqL l).getLast? = some x then uniqL l else uniqL l ++ [x] := by unfold uniqL; rw [List.foldl_append]; rfl
theorem snoc_ind {P : List α → Prop} (h0 : P []) (h1 : ∀ l x, P l → P (l ++ [x])) (l : List α) : P l := by
  have key : ∀ n, ∀ l : List α, l.length = n → P l := by
    intro n
    induction n with
    | zero => intro l h; rw [List.eq_nil_of_length_eq_zero h]; exact h0
    | succ n ih =>
      intro l h
      have hne : l ≠ [] := by intro e; subst e; simp at h
      rw [← List.dropLast_concat_getLast hne]
      exact h1 _ _ (ih _ (by simp [h]))
  exact key _ l rfl
theorem uniqL_last (l : List α) : (uniqL l).getLast? = l.getLast? := by
  refine snoc_ind (P := fun l => (uniqL l).getLast? = l.getLast?) rfl (fun l x ih => ?_) l
  rw [uniqL_snoc]
  split
  · rename_i h; rw [h]; simp
  · simp
theorem uniqL_len (l : List α) : (uniqL l).length ≤ l.length := by
  refine snoc_ind (P := fun l => (uniqL l).length ≤ l.length) (Nat.le_refl _) (fun l x ih => ?_) l
  rw [uniqL_snoc]
  split <;> simp <;> omega
theorem uniqL_mem (l : List α) (y : α) : y ∈ uniqL l ↔ y ∈ l := by
  refine snoc_ind (P := fun l => y ∈ uniqL l ↔ y ∈ l) Iff.rfl (fun l x ih => ?_) l
  rw [uniqL_snoc]
  split
  · rename_i h
    rw [uniqL_last] at h
    rw [ih, List.mem_append, List.mem_singleton]
    refine ⟨.inl, fun e => e.elim id (fun e => ?_)⟩
    subst e
    exact List.mem_of_getLast? h
  · rw [List.mem_append, List.mem_append, ih]
theorem uniqL_take (l : List α) {j : Nat} (hj : 0 < j) (h : j < l.length) : uniqL (l.take (j + 1)) = if l[j]'h = l[j - 1]'(by omega) then uniqL (l.take j) else uniqL (l.take j) ++ [l[j]'h] := by
  rw [List.take_succ_eq_append_getElem h, uniqL_snoc, uniqL_last]
  have e : (l.take j).getLast? = some (l[j - 1]'(by omega)) := by
    rw [List.getLast?_eq_getElem?, List.length_take, Nat.min_eq_left (by omega), List.getElem?_take_of_lt (by omega), List.getElem?_eq_getElem]
  rw [e]
  by_cases h2 : l[j]'h = l[j - 1]'(by omega)
  · rw [if_pos h2, if_pos (by rw [h2])]
  · rw [if_neg h2, if_neg (fun h3 => h2 (Option.some.inj h3).symm)]
end
/-- A row of spots in a block: the value of a slice of it. -/
def CompPost (W : World) (b cap : Nat) (l : List ArcIP) (v : Value) (w' : World) : Prop :=
  v = .slice (some ⟨b, 0, none⟩) l.length cap ∧ Fr (fun k => k = b) W w' ∧ ∃ tail, ArrAtP w' b l tail
set_option maxHeartbeats 8000000 in
theorem Compact_isP {W : World} {b cap : Nat} {l : List ArcIP} {tail : List Value} (hl : ArrAtP W b l tail) (hlen : l.length ≤ 17592186044416) (hcap : l.length ≤ cap) :
    Calls Tryd.prog 32 #[.slice (some ⟨b, 0, none⟩) l.length cap] W (Rets (CompPost W b cap (uniqL l))) := by
  by_cases h2 : l.length < 2
  · have hu : uniqL l = l := by
      match l, h2 with
      | [], _ => rfl
      | [x], _ => rfl
    rw [hu]
    have h2' : (l.length : Int) < 2 := by omega
    have HL := Lib.hid hl
    clear hu hl
    go_enter Tryd.func32, Tryd.ntmps32
    go_wp2_with fail
    go_ret
    exact ⟨_, rfl, rfl, Fr.refl _ _, tail, HL.out⟩
  · have h2' : ¬ (l.length : Int) < 2 := by omega
    have h2n : 2 ≤ l.length := by omega
    have HL := Lib.hid hl
    clear hl
    go_enter Tryd.func32, Tryd.ntmps32
    go_wp2_with fail
    go_loopw [3] (fun i wr => ∃ k : Nat, 0 < k ∧ k ≤ l.length ∧ i = .int .i64 k ∧ Fr0 W wr ∧ Hid (uniqL (l.take k) = l.take k)) (fun i _ => l.length - (intOf i).toNat)
    case atStart =>
      refine ⟨1, by omega, by omega, rfl, Fr.refl _ _, Lib.hid ?_⟩
      match l, h2n with
      | x :: l, _ => rfl
    case round =>
      obtain ⟨k, hk0, hk, rfl, hf, HK⟩ := hrel
      by_cases hlt : k < l.length
      · have hlt' : (k : Int) < (l.length : Int) := by omega
        have hk1 : 1 ≤ (k : Int) := by omega
        have hk2 : (k : Int) - 1 < (l.length : Int) := by omega
        have hkn : ((k : Int) - 1).toNat = k - 1 := by omega
        have ha : ArrAtP (wr.drew) b l tail := hf.drew.heap HL.out (fun x => x)
        have hcp : ∀ j, j < l.length → l.getD j default = l.getD j default := fun _ _ => rfl
        obtain ⟨c1, c2⟩ := ha.arc hlt
        obtain ⟨e1, e2⟩ := ha.arc (j := k - 1) (by omega)
        have hw : IntKind.i64.wrap ((k : Int) - 1) = (k : Int) - 1 := by rw [IntKind.wrap_i64]; omega
        have hut := uniqL_take l hk0 hlt
        have ex : l.getD k default = l[k] := by simp [List.getD_eq_getElem?_getD, List.getElem?_eq_getElem hlt]
        have ey : l.getD (k - 1) default = l[k - 1] := by simp [List.getD_eq_getElem?_getD, List.getElem?_eq_getElem (show k - 1 < l.length by omega)]
        rw [ex] at c1 c2
        rw [ey] at e1 e2
        generalize l[k] = x at c1 c2 hut ex
        generalize l[k - 1] = y at e1 e2 hut ey
        have HUT := Lib.hid hut
        have HEX := Lib.hid ex
        clear ha hcp hut ex ey
        generalize k - 1 = k1 at hkn e1 e2
        by_cases hxy : x = y
        · subst hxy
          have hst : uniqL (l.take (k + 1)) = l.take k := by rw [HUT.out, if_pos rfl]; exact HK.out
          have HST := Lib.hid hst
          clear hst
          go_wp2_with fail
          go_region
          go_wp2_with fail
          have hfd := hf.drew
          clear c1 c2 e1 e2 hk1 hk2 hkn hw
          generalize wr.drew = wz at hfd
          clear hf
          clear wr
          go_loopw [3, 5] (fun vi vm wr => ∃ (i m : Nat) (arr : List ArcIP), 0 < m ∧ i < k + m ∧ k + m ≤ l.length ∧ vi = .int .i64 i ∧ vm = .int .i64 m ∧ Hid (arr.length = l.length) ∧ ArrAtP wr b arr tail ∧ Hid (arr.take i = uniqL (l.take (k + m))) ∧ Hid (arr.drop (k + m - 1) = l.drop (k + m - 1)) ∧ Fr (fun k => k = b) W wr) (fun _ vm _ => (l.length - k) - (intOf vm).toNat)
          case atStart =>
            exact ⟨k, 1, l, by omega, by omega, by omega, rfl, rfl, Lib.hid rfl, hfd.heap HL.out (fun x => x), Lib.hid (by rw [HST.out]), Lib.hid rfl, hfd.mono (fun _ _ x => x.elim)⟩
          case round =>
            obtain ⟨i, m, arr, hm0, him, hml, rfl, rfl, HLA, ha, HT, HD, hf⟩ := hrel
            by_cases hlt2 : m < l.length - k
            · have hkm : k + m < l.length := by omega
              have hm1 : 1 ≤ (m : Int) := by omega
              have hlt2' : (m : Int) < ((l.length - k : Nat) : Int) := by omega
              have hm2 : (m : Int) - 1 < ((l.length - k : Nat) : Int) := by omega
              have hg1 : arr.getD (k + m) default = l[k + m] := by
                have := congrArg (fun l => l[1]?) HD.out
                simp only [List.getElem?_drop, show k + m - 1 + 1 = k + m by omega] at this
                rw [List.getD_eq_getElem?_getD, this, List.getElem?_eq_getElem hkm]; rfl
              have hg2 : arr.getD (k + m - 1) default = l[k + m - 1]'(by omega) := by
                have := congrArg (fun l => l[0]?) HD.out
                simp only [List.getElem?_drop, Nat.add_zero] at this
                rw [List.getD_eq_getElem?_getD, this, List.getElem?_eq_getElem (by omega)]; rfl
              have had : ArrAtP wr.drew b arr tail := ha
              obtain ⟨c1, c2⟩ := had.arc (j := k + m) (by have := HLA.out; omega)
              obtain ⟨e1, e2⟩ := had.arc (j := k + m - 1) (by have := HLA.out; omega)
              obtain ⟨g1, g2⟩ := ha.arc (j := k + m) (by have := HLA.out; omega)
              have hut := uniqL_take l (j := k + m) (by omega) hkm
              rw [hg1] at c1 c2 g1 g2
              rw [hg2] at e1 e2
              have hmn : ((m : Int) - 1).toNat = m - 1 := by omega
              have hwm : IntKind.i64.wrap ((m : Int) - 1) = (m : Int) - 1 := by rw [IntKind.wrap_i64]; omega
              rw [show (k + m) * 2 = k * 2 + m * 2 by omega] at c1 c2 g1 g2
              rw [show (k + m - 1) * 2 = k * 2 + (m - 1) * 2 by omega] at e1 e2
              generalize l[k + m] = x' at c1 c2 g1 g2 hut hg1
              generalize l[k + m - 1] = y' at e1 e2 hut hg2
              have HUT2 := Lib.hid hut
              have HG1 := Lib.hid hg1
              clear hg1 hg2 hut
              generalize m - 1 = m1 at hmn e1 e2
              have hi' : (i : Int) < (l.length : Int) := by omega
              have HAD := Lib.hid ha
              clear had
              by_cases hxy : x' = y'
              · subst hxy
                have hst3 : uniqL (l.take (k + m + 1)) = uniqL (l.take (k + m)) := by rw [HUT2.out, if_pos rfl]
                have HST3 := Lib.hid hst3
                clear ha hst3 HUT2
                go_wp2_with fail
                go_region
                go_wp2_with fail
                go_roundw
                case rel =>
                  refine ⟨i, m + 1, arr, by omega, by omega, by omega, rfl, by go_num, HLA, HAD.out, Lib.hid ?_, Lib.hid ?_, hf.drew⟩
                  · rw [← Nat.add_assoc, HST3.out]; exact HT.out
                  · have := congrArg (List.drop 1) HD.out
                    rw [List.drop_drop, List.drop_drop] at this
                    rw [show k + (m + 1) - 1 = k + m - 1 + 1 by omega]; exact this
                case measure => simp [intOf]; omega
              · have hilen : i < arr.length := by have := HLA.out; omega
                obtain ⟨d1, d2⟩ := ArrAtP.arc (W := wr.drew) ha (j := i) hilen
                obtain ⟨d1', d2'⟩ := ha.arc (j := i) hilen
                have f1' := ha.frozen (i * 2)
                have f2' := ha.frozen (i * 2 + 1)
                have f1 := ArrAtP.frozen (W := wr.drew) ha (i * 2)
                have f2 := ArrAtP.frozen (W := wr.drew) ha (i * 2 + 1)
                have HST2 := Lib.hid (ArrAtP.set3P (W := wr.drew) (show ArrAtP wr.drew b arr tail from ha) (i := i) hilen x')
                clear ha
                have hq1 : uniqL (l.take (k + m + 1)) = uniqL (l.take (k + m)) ++ [x'] := by rw [HUT2.out, if_neg hxy]
                have HQ1 := Lib.hid hq1
                have HXY := Lib.hid hxy
                clear HUT2 hq1 hxy HG1
                obtain ⟨xf, xt⟩ := x'
                obtain ⟨yf, yt⟩ := y'
                simp only at c1 c2 g1 g2 e1 e2
                have hdd : xt = yt → ¬ xf = yf := fun e1 e2 => HXY.out (by rw [e1, e2])
                clear HXY
                cases xt <;> cases yt
                all_goals
                  simp at hdd
                  go_wp2_with fail
                  go_region
                  go_wp2_with fail
                  go_roundw
                  case rel =>
                    refine ⟨i + 1, m + 1, arr.set i _, by omega, by omega, by omega, by go_num, by go_num, Lib.hid (by rw [List.length_set]; exact HLA.out), HST2.out, Lib.hid ?_, Lib.hid ?_, ?_⟩
                    · rw [← Nat.add_assoc, HQ1.out, ← HT.out, take_snoc_aP _ i (by rw [List.length_set]; exact hilen), List.take_set_of_le (Nat.le_refl _)]
                      simp [List.getD_eq_getElem?_getD, hilen]
                    · rw [show k + (m + 1) - 1 = k + m by omega, List.drop_set_of_lt (by omega)]
                      have := congrArg (List.drop 1) HD.out
                      rw [List.drop_drop, List.drop_drop, show k + m - 1 + 1 = k + m by omega] at this
                      exact this
                    · exact (hf.trans (fr_set3P wr b (i * 2) ⟨xf, _⟩) (fun _ _ e => e)).drew
                  case measure => simp [intOf]; omega
            · have hme : k + m = l.length := by omega
              have hmn : m = l.length - k := by omega
              obtain ⟨vs, hcl⟩ := run_clearP (o := i * 2) (n := l.length - i) (c := cap - i) ha (by omega) (by have := HLA.out; omega) 0
              obtain ⟨tail', hcut⟩ := ha.cut (i := i) (by have := HLA.out; omega) vs
              have HC := Lib.hid hcut
              have hlt2' : ¬ (m : Int) < ((l.length - k : Nat) : Int) := by omega
              have e := HT.out
              rw [hme, List.take_length] at e
              have e2 : (uniqL l).length = i := by rw [← e, List.length_take]; have := HLA.out; omega
              have HE := Lib.hid e
              have HE2 := Lib.hid e2
              have hil : i < l.length := by omega
              clear hcut e e2 hme ha hmn
              go_wp2
              go_ret
              refine ⟨_, rfl, by rw [HE2.out]; rfl, hf.trans (fr_setCells vs _ _) (fun _ _ e => e), tail', by rw [← HE.out]; exact HC.out⟩
        · have hst : uniqL (l.take (k + 1)) = l.take (k + 1) := by rw [HUT.out, if_neg hxy, HK.out, take_snoc_aP l k hlt, HEX.out]
          have HST := Lib.hid hst
          have HXY := Lib.hid hxy
          clear hst hxy HUT HEX
          obtain ⟨xf, xt⟩ := x
          obtain ⟨yf, yt⟩ := y
          simp only at c1 c2 e1 e2
          have hdd : xt = yt → ¬ xf = yf := fun e1 e2 => HXY.out (by rw [e1, e2])
          clear HXY
          cases xt <;> cases yt
          all_goals
            simp at hdd
            go_wp2_with fail
            go_region
            go_wp2_with fail
            go_roundw
            case rel => exact ⟨k + 1, by omega, by omega, by go_num, hf.drew, HST⟩
            case measure => simp [intOf]; omega
      · have hke : k = l.length := by omega
        subst hke
        have e := HK.out
        rw [List.take_length] at e
        have HE := Lib.hid e
        clear e
        go_wp2_with fail
        go_ret
        rw [HE.out]
        exact ⟨_, rfl, rfl, hf.mono (fun _ _ x => x.elim), tail, hf.heap HL.out (fun x => x)⟩
end Go.Proofs.YtdcjfpjpboafnaaDoor
namespace Go.Proofs.YtdcjfpjpboafnaaDoor
set_option linter.all false

/-- What a vertex's neighbours are. -/
def OutOf (pw : Nat → Bool) (R : Nat → Nat → Bool) (u : Nat) (xs : List Int) : Prop := (∀ x ∈ xs, ∃ w : Nat, x = (w : Int) ∧ R u w = true ∧ pw w = true) ∧ ∀ w : Nat, R u w = true → pw w = true → (w : Int) ∈ xs
theorem numF_eq {far : Nat → Bool → Option Nat} {w m : Nat} {d : Bool} : (numF far (w : Int) d == (m : Int)) = true ↔ far w d = some m := by
  unfold numF
  rw [if_pos (by omega), Int.toNat_natCast, beq_iff_eq]
  cases far w d with
  | none => simp
  | some k => simp; omega
section
variable {n : Nat} {pw : Nat → Bool} {P N A : Nat → Nat → Bool} {far : Nat → Bool → Option Nat} {J : List ArcI} {a b c : Int}
theorem mem_nextS (hpw : ∀ u, pw u = true → u < n) (hdom : ∀ v b k, far v b = some k → v < n ∧ pw v = true) {m : Nat} {s : Nat × Bool} (ha : OutOf pw P s.1 (nextL J s.1 a pw)) (hb : OutOf pw N s.1 (nextL J s.1 b pw)) (hc : OutOf pw A s.1 (nextL J s.1 c pw)) (x : Int × Bool) :
    x ∈ nextS far m J pw a b c s ↔ ∃ w : Nat, x = sptN (w, x.2) ∧ stepE P N A s.1 s.2 w x.2 = true ∧ far w x.2 = some m := by
  obtain ⟨u, d⟩ := s
  obtain ⟨x, e⟩ := x
  have key : ∀ {R : Nat → Nat → Bool} {xs : List Int} {dd : Bool}, OutOf pw R u xs → ((x, e) ∈ (xs.filter (fun x => numF far x dd == (m : Int))).map (fun x => (x, dd)) ↔ e = dd ∧ ∃ w : Nat, x = (w : Int) ∧ R u w = true ∧ far w dd = some m) := by
    intro R xs dd h
    rw [List.mem_map]
    constructor
    · rintro ⟨y, hy, he⟩
      obtain ⟨rfl, rfl⟩ := Prod.mk.inj he
      obtain ⟨hm, hn⟩ := List.mem_filter.1 hy
      obtain ⟨w, rfl, hR, _⟩ := h.1 y hm
      exact ⟨rfl, w, rfl, hR, numF_eq.1 hn⟩
    · rintro ⟨rfl, w, rfl, hR, hf⟩
      exact ⟨_, List.mem_filter.2 ⟨h.2 w hR (hdom _ _ _ hf).2, numF_eq.2 hf⟩, rfl⟩
  cases d with
  | true =>
    unfold nextS
    rw [if_pos rfl, keepsL_eq, List.nil_append, key hc]
    constructor
    · rintro ⟨rfl, w, rfl, h1, h2⟩; exact ⟨w, rfl, h1, h2⟩
    · rintro ⟨w, h0, h1, h2⟩
      simp only [sptN, Prod.mk.injEq, and_true] at h0
      cases e with
      | false => cases h1
      | true => exact ⟨rfl, w, h0, h1, h2⟩
  | false =>
    unfold nextS
    rw [if_neg (by simp), keepsL_eq, keepsL_eq, List.nil_append, List.mem_append, key ha, key hb]
    constructor
    · rintro (⟨rfl, w, rfl, h1, h2⟩ | ⟨rfl, w, rfl, h1, h2⟩) <;> exact ⟨w, rfl, h1, h2⟩
    · rintro ⟨w, h0, h1, h2⟩
      simp only [sptN, Prod.mk.injEq, and_true] at h0
      cases e with
      | false => exact .inl ⟨rfl, w, h0, h1, h2⟩
      | true => exact .inr ⟨rfl, w, h0, h1, h2⟩
theorem minS_spec (l : List (Int × Bool)) (n : Int) : (minS n l = n ∨ ∃ x ∈ l, minS n l = x.1) ∧ minS n l ≤ n ∧ ∀ x ∈ l, minS n l ≤ x.1 := by
  refine snoc_ind (P := fun l => (minS n l = n ∨ ∃ x ∈ l, minS n l = x.1) ∧ minS n l ≤ n ∧ ∀ x ∈ l, minS n l ≤ x.1) ⟨.inl rfl, Int.le_refl _, fun x hx => by cases hx⟩ (fun l x ih => ?_) l
  obtain ⟨h1, h2, h3⟩ := ih
  rw [minS_snoc]
  by_cases hx : x.1 < minS n l
  · rw [if_pos hx]
    refine ⟨.inr ⟨x, by simp, rfl⟩, by omega, fun y hy => ?_⟩
    rcases List.mem_append.1 hy with hy | hy
    · have := h3 y hy; omega
    · simp only [List.mem_singleton] at hy; subst hy; omega
  · rw [if_neg hx]
    refine ⟨h1.imp id (fun ⟨y, hy, e⟩ => ⟨y, by simp [hy], e⟩), h2, fun y hy => ?_⟩
    rcases List.mem_append.1 hy with hy | hy
    · exact h3 y hy
    · simp only [List.mem_singleton] at hy; subst hy; omega
/-- What a walk by how far it is stands on: k arcs are still to come. -/
structure LeastI (E : Nat → Bool → Nat → Bool → Bool) (outs : Nat → List Nat) (fits : List Nat → Bool) (v n : Nat) (pw : Nat → Bool) (far : Nat → Bool → Option Nat) (k0 k : Nat) (r : List Nat) (l : List (Nat × Bool)) : Prop where
  pos : 0 < k
  first : firstR outs fits (k - 1) r = firstR outs fits (k0 - 1) [v]
  min : minR E v far (k - 1) r
  spots : SpotsR E v far k r l
  ne : l ≠ []
  inn : r.headD 0 < n ∧ pw (r.headD 0) = true
  rne : r ≠ []
  ord : ∃ u, l = [(u, false)] ∨ l = [(u, true)] ∨ l = [(u, false), (u, true)]
  len : r.length + k = k0 + 1
theorem LeastI.start {E : Nat → Bool → Nat → Bool → Bool} {outs : Nat → List Nat} {fits : List Nat → Bool} {v k0 : Nat} (hF : FarOk n pw E (fun u => decide (u = v)) far) (hk : far v false = some k0) : LeastI E outs fits v n pw far k0 k0 [v] [(v, false)] := by
  have h0 : 0 < k0 := by
    rcases Nat.eq_zero_or_pos k0 with e | e
    · rw [e] at hk; have := ((hF.zero v false).1 hk).1; cases this
    · exact e
  obtain ⟨k, rfl⟩ : ∃ k, k0 = k + 1 := ⟨k0 - 1, by omega⟩
  exact ⟨h0, rfl, min_start hk, spots_start hk, by simp, hF.dom _ _ _ hk, by simp, ⟨v, .inl rfl⟩, by simp; omega⟩
/-- Two heaps of one vertex's spots, without runs. -/
theorem uniq_two {β : Int} : ∀ (l : List (Int × Bool)), (∃ i j, l = List.replicate i (β, false) ++ List.replicate j (β, true)) → l ≠ [] → uniqL l = [(β, false)] ∨ uniqL l = [(β, true)] ∨ uniqL l = [(β, false), (β, true)] := by
  rintro l ⟨i, j, rfl⟩ hne
  have hrep : ∀ (d : Bool) (i : Nat), uniqL (List.replicate (i + 1) (β, d)) = [(β, d)] := by
    intro d i
    induction i with
    | zero => rfl
    | succ i ih => rw [List.replicate_succ', uniqL_snoc, ih]; simp
  have hboth : ∀ (i j : Nat), uniqL (List.replicate (i + 1) (β, false) ++ List.replicate (j + 1) (β, true)) = [(β, false), (β, true)] := by
    intro i j
    induction j with
    | zero => rw [show List.replicate (0 + 1) (β, true) = [(β, true)] from rfl, uniqL_snoc, hrep]; simp
    | succ j ih => rw [show List.replicate (j + 1 + 1) (β, true) = List.replicate (j + 1) (β, true) ++ [(β, true)] from List.replicate_succ', ← List.append_assoc, uniqL_snoc, ih]; simp
  cases i with
  | zero =>
    cases j with
    | zero => exact absurd rfl hne
    | succ j => exact .inr (.inl (by rw [List.replicate_zero, List.nil_append]; exact hrep _ _))
  | succ i =>
    cases j with
    | zero => exact .inl (by rw [List.replicate_zero, List.append_nil]; exact hrep _ _)
    | succ j => exact .inr (.inr (hboth i j))
theorem filt_rep (far : Nat → Bool → Option Nat) (m : Int) (d : Bool) (β : Int) (xs : List Int) : ∃ i, ((xs.filter (fun x => numF far x d == m)).map (fun x => (x, d))).filter (fun x => x.1 == β) = List.replicate i (β, d) := by
  refine ⟨_, List.eq_replicate_of_mem (fun y hy => ?_)⟩
  obtain ⟨h1, h2⟩ := List.mem_filter.1 hy
  obtain ⟨x, _, rfl⟩ := List.mem_map.1 h1
  simp only [beq_iff_eq] at h2
  rw [h2]
theorem LeastI.step {outs : Nat → List Nat} {fits : List Nat → Bool} {v k0 m : Nat} {r : List Nat} {l : List (Nat × Bool)} (h : LeastI (stepE P N A) outs fits v n pw far k0 (m + 2) r l) (hF : FarOk n pw (stepE P N A) (fun u => decide (u = v)) far) (hfit : FitR (stepE P N A) v fits) (hO : OutsR n pw (stepE P N A) outs) (hv : v < n) (hpv : pw v = true) (hpw : ∀ u, pw u = true → u < n)
    (ha : ∀ u, u < n → OutOf pw P u (nextL J u a pw)) (hb : ∀ u, u < n → OutOf pw N u (nextL J u b pw)) (hc : ∀ u, u < n → OutOf pw A u (nextL J u c pw)) :
    allS far (((m + 1 : Nat)) : Int) J pw a b c l ≠ [] ∧ ∃ best : Nat, minS n (allS far (((m + 1 : Nat)) : Int) J pw a b c l) = (best : Int) ∧ best < n ∧
      ∃ l', l'.map sptN = uniqL ((allS far (((m + 1 : Nat)) : Int) J pw a b c l).filter (fun x => x.1 == minS n (allS far (((m + 1 : Nat)) : Int) J pw a b c l))) ∧ LeastI (stepE P N A) outs fits v n pw far k0 (m + 1) (best :: r) l' := by
  obtain ⟨u, r, rfl⟩ : ∃ u r', r = u :: r' := by
    cases r with
    | nil => exact absurd rfl h.rne
    | cons u r => exact ⟨u, r, rfl⟩
  have hlu : ∀ s ∈ l, s.1 = u := by
    rintro ⟨w, d⟩ hs
    exact ((h.spots w d).1 hs).1
  have hun : u < n := h.inn.1
  have hmem : ∀ x : Int × Bool, x ∈ allS far (((m + 1 : Nat)) : Int) J pw a b c l ↔ ∃ w : Nat, x = sptN (w, x.2) ∧ ∃ s ∈ l, stepE P N A s.1 s.2 w x.2 = true ∧ far w x.2 = some (m + 1) := by
    intro x
    rw [allS, List.mem_flatMap]
    constructor
    · rintro ⟨s, hs, hx⟩
      have hsn : s.1 < n := by rw [hlu s hs]; exact hun
      obtain ⟨w, h1, h2, h3⟩ := (mem_nextS hpw hF.dom (ha _ hsn) (hb _ hsn) (hc _ hsn) x).1 hx
      exact ⟨w, h1, s, hs, h2, h3⟩
    · rintro ⟨w, h1, s, hs, h2, h3⟩
      have hsn : s.1 < n := by rw [hlu s hs]; exact hun
      exact ⟨s, hs, (mem_nextS hpw hF.dom (ha _ hsn) (hb _ hsn) (hc _ hsn) x).2 ⟨w, h1, h2, h3⟩⟩
  generalize hall : allS far (((m + 1 : Nat)) : Int) J pw a b c l = all at hmem
  obtain ⟨allN, hallN⟩ : ∃ allN : List (Nat × Bool), allN = all.map (fun x => (x.1.toNat, x.2)) := ⟨_, rfl⟩
  have hallm : ∀ w d, (w, d) ∈ allN ↔ ((w : Int), d) ∈ all := by
    intro w d
    rw [hallN, List.mem_map]
    constructor
    · rintro ⟨⟨x, e⟩, hx, he⟩
      obtain ⟨w', h1, _⟩ := (hmem _).1 hx
      simp only [sptN, Prod.mk.injEq, and_true] at h1 he
      obtain ⟨h2, h3⟩ := he
      subst h1
      rw [Int.toNat_natCast] at h2
      rw [← h2, ← h3]; exact hx
    · intro hx
      exact ⟨_, hx, by simp⟩
  have hne : all ≠ [] := by
    obtain ⟨⟨w0, c0⟩, h0⟩ := List.exists_mem_of_ne_nil l h.ne
    obtain ⟨e0, h1, h2⟩ := (h.spots w0 c0).1 h0
    obtain ⟨w, d, he, hw⟩ := hF.step _ _ _ h2
    have : ((w : Int), d) ∈ all := (hmem _).2 ⟨w, rfl, _, h0, by rw [e0]; exact he, hw⟩
    exact List.ne_nil_of_mem this
  obtain ⟨s1, s2, s3⟩ := minS_spec all (n : Int)
  have hbest : ∃ x ∈ all, minS n all = x.1 := by
    rcases s1 with e | e
    · obtain ⟨x, hx⟩ := List.exists_mem_of_ne_nil all hne
      obtain ⟨w, h1, s, _, _, h3⟩ := (hmem x).1 hx
      have := (hF.dom _ _ _ h3).1
      have h4 := s3 x hx
      have h5 : x.1 = (w : Int) := congrArg Prod.fst h1
      omega
    · exact e
  obtain ⟨⟨x, d⟩, hx, hxb⟩ := hbest
  obtain ⟨best, h1, s, hs, h2, h3⟩ := (hmem _).1 hx
  simp only [sptN, Prod.mk.injEq, and_true] at h1
  subst h1
  have hbn := (hF.dom _ _ _ h3).1
  obtain ⟨w1, w2, w3, w4⟩ := walk_step (m := m) hF hfit hO hv hpv h.inn h.min h.spots h.ne (all := allN) (fun w c => by
      rw [hallm, hmem]
      constructor
      · rintro ⟨w', e1, s, hs, h4, h5⟩
        simp only [sptN, Prod.mk.injEq, and_true] at e1
        have : w = w' := by omega
        subst this
        exact ⟨s, hs, h4, h5⟩
      · rintro ⟨s, hs, h4, h5⟩
        exact ⟨w, rfl, s, hs, h4, h5⟩) (best := best) (fun _ => ⟨d, (hallm _ _).2 hx⟩) (fun w c hw => by
      have := s3 _ ((hallm _ _).1 hw)
      rw [hxb] at this
      simp only at this
      omega)
  obtain ⟨l2, hl2⟩ : ∃ l2, l2 = all.filter (fun x => x.1 == minS n all) := ⟨_, rfl⟩
  have hm2 : ∀ x, x ∈ l2 ↔ x ∈ all ∧ x.1 = (best : Int) := by
    intro x
    rw [hl2, List.mem_filter, hxb, beq_iff_eq]
  have hne2 : l2 ≠ [] := List.ne_nil_of_mem ((hm2 ((best : Int), d)).2 ⟨hx, rfl⟩)
  have htwo : ∃ i j, l2 = List.replicate i ((best : Int), false) ++ List.replicate j ((best : Int), true) := by
    rw [hl2, ← hall, hall, hxb]
    simp only
    rw [← hall]
    obtain ⟨u', hord⟩ := h.ord
    rcases hord with e | e | e
    · rw [e]
      simp only [allS, List.flatMap_cons, List.flatMap_nil, List.append_nil]
      unfold nextS
      rw [if_neg (by simp), keepsL_eq, keepsL_eq, List.nil_append, List.filter_append]
      obtain ⟨i, hi⟩ := filt_rep far (((m + 1 : Nat)) : Int) false (best : Int) (nextL J u' a pw)
      obtain ⟨j, hj⟩ := filt_rep far (((m + 1 : Nat)) : Int) true (best : Int) (nextL J u' b pw)
      exact ⟨i, j, by rw [hi, hj]⟩
    · rw [e]
      simp only [allS, List.flatMap_cons, List.flatMap_nil, List.append_nil]
      unfold nextS
      rw [if_pos rfl, keepsL_eq, List.nil_append]
      obtain ⟨j, hj⟩ := filt_rep far (((m + 1 : Nat)) : Int) true (best : Int) (nextL J u' c pw)
      exact ⟨0, j, by rw [hj]; rfl⟩
    · rw [e]
      simp only [allS, List.flatMap_cons, List.flatMap_nil, List.append_nil]
      unfold nextS
      rw [if_neg (by simp), if_pos rfl, keepsL_eq, keepsL_eq, keepsL_eq, List.nil_append, List.nil_append, List.filter_append, List.filter_append]
      obtain ⟨i, hi⟩ := filt_rep far (((m + 1 : Nat)) : Int) false (best : Int) (nextL J u' a pw)
      obtain ⟨j, hj⟩ := filt_rep far (((m + 1 : Nat)) : Int) true (best : Int) (nextL J u' b pw)
      obtain ⟨k, hk⟩ := filt_rep far (((m + 1 : Nat)) : Int) true (best : Int) (nextL J u' c pw)
      exact ⟨i, j + k, by rw [hi, hj, hk, List.append_assoc, List.replicate_append_replicate]⟩
  have hun2 := uniq_two l2 htwo hne2
  obtain ⟨l', hl', hord'⟩ : ∃ l' : List (Nat × Bool), l'.map sptN = uniqL l2 ∧ (∃ u, l' = [(u, false)] ∨ l' = [(u, true)] ∨ l' = [(u, false), (u, true)]) := by
    rcases hun2 with e | e | e
    · exact ⟨[(best, false)], e.symm, best, .inl rfl⟩
    · exact ⟨[(best, true)], e.symm, best, .inr (.inl rfl)⟩
    · exact ⟨[(best, false), (best, true)], e.symm, best, .inr (.inr rfl)⟩
  have hml' : ∀ w c, (w, c) ∈ l' ↔ (w, c) ∈ allN ∧ w = best := by
    intro w c
    have : (w, c) ∈ l' ↔ ((w : Int), c) ∈ l'.map sptN := by
      rw [List.mem_map]
      constructor
      · intro hw; exact ⟨_, hw, rfl⟩
      · rintro ⟨⟨w', c'⟩, hw, e⟩
        simp only [sptN, Prod.mk.injEq] at e
        have e1 : w' = w := by omega
        rw [← e1, ← e.2]; exact hw
    rw [this, hl', uniqL_mem, hm2, hallm]
    simp only
    constructor
    · rintro ⟨h4, h5⟩; exact ⟨h4, by omega⟩
    · rintro ⟨h4, h5⟩; exact ⟨h4, by omega⟩
  obtain ⟨w5, w6⟩ := w4 l' hml'
  refine ⟨hne, best, hxb, hbn, l', by rw [hl', hl2], ⟨by omega, ?_, w2, w5, w6, w3, by simp, hord', ?_⟩⟩
  · rw [← h.first]
    show firstR outs fits m (best :: u :: r) = firstR outs fits (m + 1) (u :: r)
    exact w1.symm
  · have := h.len
    simp only [List.length_cons] at this ⊢
    omega
theorem LeastI.end_ {outs : Nat → List Nat} {fits : List Nat → Bool} {E : Nat → Bool → Nat → Bool → Bool} {v k0 : Nat} {r : List Nat} {l : List (Nat × Bool)} (h : LeastI E outs fits v n pw far k0 1 r l) (hF : FarOk n pw E (fun u => decide (u = v)) far) (hfit : FitR E v fits) : firstR outs fits (k0 - 1) [v] = some r.reverse := by
  obtain ⟨u, r, rfl⟩ : ∃ u r', r = u :: r' := by
    cases r with
    | nil => exact absurd rfl h.rne
    | cons u r => exact ⟨u, r, rfl⟩
  rw [← h.first]
  exact (walk_end hF hfit h.spots h.ne).2
end
end Go.Proofs.YtdcjfpjpboafnaaDoor
namespace Go.Proofs.YtdcjfpjpboafnaaDoor
set_option linter.all false
open Go.RowKit
set_option maxRecDepth 100000

/-- At the label: k arcs are still to come. -/
def LeastJ (W : World) (r : Option Addr) (wg0 : Nat) (a b c : Int) (E : Nat → Bool → Nat → Bool → Bool) (outs : Nat → List Nat) (fits : List Nat → Bool) (v : Int) (n : Nat) (pw : Nat → Bool) (ac : Act) (w : World) : Prop :=
  ∃ (W1 : World) (q wg wa k0 : Nat) (far : Nat → Bool → Option Nat) (k : Nat) (rw : List Nat) (l : List (Nat × Bool)) (Al : Option Addr) (cl : Nat) (vo : Value) (u14 u15 u16 u17 u18 u19 u20 u21 u22 u23 u24 u25 u26 u27 u28 u29 u30 u31 u32 u33 u34 u35 u36 u37 u38 u39 u40 u41 u42 u43 u44 u45 u46 u47 u48 : Value), ac = { tmps := #[.pointer r, .pointer (some ⟨wg0, 0, none⟩), .agg #[.int .i64 a, .int .i64 b, .int .i64 c], .int .i64 v, undef, undef, .pointer (some ⟨W.heap.size, 0, none⟩), undef, .slice none 0 0, .bool false, .pointer (some ⟨q, 0, none⟩), .int .i64 (k : Int), vo, .slice Al l.length cl, u14, u15, u16, u17, u18, u19, u20, u21, u22, u23, u24, u25, u26, u27, u28, u29, u30, u31, u32, u33, u34, u35, u36, u37, u38, u39, u40, u41, u42, u43, u44, u45, u46, u47, u48], defers := [] } ∧
    LeastI E outs fits v.toNat n pw far k0 k rw l ∧ FinAsk W1 q r wg wa n pw a b c far ∧ FarOk n pw E (fun u => decide ((u : Int) = v)) far ∧ FarOk n pw E (fun u => decide (u = v.toNat)) far ∧ numF far v false = (k0 : Int) ∧ k0 ≤ 2000 ∧ v.toNat < n ∧ pw v.toNat = true ∧ Fr0 W W1 ∧ Fr0 W1 w ∧ w.ownsRow W1.heap.size 3 1 vo rw.length (ints rw.reverse) ∧ SptsAt w Al (l.map sptN)
def LeastPost (W : World) (n : Nat) (pw : Nat → Bool) (E : Nat → Bool → Nat → Bool → Bool) (outs : Nat → List Nat) (fits : List Nat → Bool) (v : Int) (x : Value) (w' : World) : Prop :=
  Fr0 W w' ∧ ∃ far, FarOk n pw E (fun u => decide ((u : Int) = v)) far ∧ ((numF far v false < 0 ∧ x = .tuple #[.slice none 0 0, .bool false]) ∨
    ∃ (k0 : Nat) (ys : List Nat) (vo : Value), numF far v false = (k0 : Int) ∧ x = .tuple #[vo, .bool true] ∧ w'.ownsRow W.heap.size 3 1 vo ys.length (ints ys) ∧ firstR outs fits (k0 - 1) [v.toNat] = some ys)
theorem own_one {w : World} {N : Nat} {x : Int} (h : w.heap[N]? = some (.cells #[.int .i64 x] 3 (0, 0))) {B : Nat} (hB : B ≤ N) : w.ownsRow B 3 1 (.slice (some ⟨N, 0, none⟩) 1 1) 1 [.int .i64 x] :=
  ⟨rfl, .inr ⟨N, 1, #[.int .i64 x], rfl, hB, h, Nat.le_refl _, by unfold maxLen; omega, rfl, rfl⟩⟩
theorem spts_one {w : World} {N : Nat} {x : Int × Bool} (h : w.heap[N]? = some (.cells #[.int .i64 x.1, .bool x.2] 63 (0, 0))) : SptsAt w (some ⟨N, 0, none⟩) [x] := by
  refine ⟨by simp, .inr ⟨N, 0, rfl, fun j hj => ?_⟩⟩
  have : j = 0 := by simpa using hj
  subst this
  unfold World.cell?
  simp only [Nat.zero_mul, Nat.add_zero, h]
  exact ⟨rfl, rfl⟩
theorem wp_scope_jumps1 {P : Program} {a : Act} {w : World} {Q : Exit → Act → World → Prop} {c rest : Code} (l : Nat) (J : Act → World → Prop) (μ : Act → World → Nat) (hf : findLabel c l = some rest)
    (pass : ∀ a w, J a w → rest.wp P (Exit.jump l (fun a' w' => J a' w' ∧ μ a' w' < μ a w) Q) a w)
    (first : (∀ a w, J a w → rest.wp P (Exit.jump l J Q) a w) → c.wp P (Exit.jump l J Q) a w) : (Code.scope c).wp P Q a w := by
  refine wp_scope_jumps l J μ hf (first (fun a w hJ => Code.wp_mono ?_ (pass a w hJ))) pass
  rintro e a' w' hq
  cases e with
  | goto l' => exact ⟨hq.1, hq.2.1⟩
  | normal => exact hq
  | exit id => exact hq
  | ret => exact hq
  | panic ch => exact hq
  | outgrown => exact hq
theorem numF_pos {far : Nat → Bool → Option Nat} {t : Int} {d : Bool} (h : ¬ numF far t d < 0) : ∃ k0 tn : Nat, numF far t d = (k0 : Int) ∧ t = (tn : Int) ∧ far tn d = some k0 := by
  unfold numF at h ⊢
  by_cases h0 : 0 ≤ t
  · rw [if_pos h0] at h ⊢
    cases hx : far t.toNat d with
    | none => rw [hx] at h; exact absurd (by decide) h
    | some k => exact ⟨k, t.toNat, rfl, (Int.toNat_of_nonneg h0).symm, hx⟩
  · rw [if_neg h0] at h; exact absurd (by decide) h
theorem uniqL_map {α β : Type} [DecidableEq α] [DecidableEq β] (f : α → β) (hf : ∀ x y, f x = f y → x = y) (l : List α) : uniqL (l.map f) = (uniqL l).map f := by
  refine snoc_ind (P := fun l => uniqL (l.map f) = (uniqL l).map f) rfl (fun l x ih => ?_) l
  rw [List.map_append, List.map_singleton, uniqL_snoc, uniqL_snoc, ih, List.getLast?_map]
  cases e : (uniqL l).getLast? with
  | none => simp
  | some y =>
    by_cases hxy : y = x
    · subst hxy; simp
    · rw [if_neg (fun h => hxy (hf _ _ (by simpa using h))), if_neg (by simpa using hxy)]; simp
theorem toP_inj (x y : Int × Bool) (h : toP x = toP y) : x = y := by
  unfold toP at h
  injection h with h1 h2
  exact Prod.ext h1 h2
theorem own_baseL {W : World} {e size B B0 n : Nat} {v : Value} {xs : List Value} (h : W.ownsRow B e size v n xs) (hB : B0 ≤ B) : W.ownsRow B0 e size v n xs := by
  refine ⟨h.1, h.2.imp id ?_⟩
  rintro ⟨g, cap, cur, rfl, hb, rest⟩
  exact ⟨g, cap, cur, rfl, Nat.le_trans hB hb, rest⟩
set_option maxHeartbeats 8000000 in
theorem LeastW_is {W : World} {r : Option Addr} {g0 g n : Nat} {J0 J : List ArcI} {wg0 wa0 nb : Nat} {pw : Nat → Bool} {a b c : Int} {P N A : Nat → Nat → Bool} {outs : Nat → List Nat} {fits : List Nat → Bool} (hR : IsR W r (some ⟨g0, 0, none⟩) (some ⟨g, 0, none⟩)) (hP : GP W (some ⟨g0, 0, none⟩) n J0) (hG : GP W (some ⟨g, 0, none⟩) n J) (hT : Tab W) (hw : IsBits W wg0 wa0 nb pw)
    (hn : n ≤ 1000) (hJ0 : J0.length ≤ 100000) {t : Int} (ht : (Lit.int .i64 t).wf = true) (ha : ∀ u, u < n → InOf (fun k => decide (k < n) && pw k) P u (nextL J u a (fun k => decide (k < n) && pw k))) (hb : ∀ u, u < n → InOf (fun k => decide (k < n) && pw k) N u (nextL J u b (fun k => decide (k < n) && pw k))) (hc : ∀ u, u < n → InOf (fun k => decide (k < n) && pw k) A u (nextL J u c (fun k => decide (k < n) && pw k)))
    (ha2 : ∀ u, u < n → OutOf (fun k => decide (k < n) && pw k) P u (nextL J0 u a (fun k => decide (k < n) && pw k))) (hb2 : ∀ u, u < n → OutOf (fun k => decide (k < n) && pw k) N u (nextL J0 u b (fun k => decide (k < n) && pw k))) (hc2 : ∀ u, u < n → OutOf (fun k => decide (k < n) && pw k) A u (nextL J0 u c (fun k => decide (k < n) && pw k)))
    (hfit : FitR (stepE P N A) t.toNat fits) (hO : OutsR n (fun k => decide (k < n) && pw k) (stepE P N A) outs) :
    Calls Tryd.prog 18 #[.pointer r, .pointer (some ⟨wg0, 0, none⟩), .agg #[.int .i64 a, .int .i64 b, .int .i64 c], .int .i64 t] W (Rets (LeastPost W n (fun k => decide (k < n) && pw k) (stepE P N A) outs fits t)) := by
  obtain ⟨i0, hi, hz0, hz1, hz2⟩ := info_parts info_int
  have hpw : ∀ u, (fun k => decide (k < n) && pw k) u = true → u < n := fun u hu => by simp at hu; exact hu.1
  have HFI := Lib.hid (fun w' (f : Fr0 W w') => Find_is (hR.fr0 f) (hP.fr0 f) (hG.fr0 f) (hT.fr f (fun x => x)) (hw.fr0 f) hn ht ha hb hc)
  have HP := Lib.hid hP
  have HR := Lib.hid hR
  have HA := Lib.hid ha2
  have HB := Lib.hid hb2
  have HC := Lib.hid hc2
  have HPW := Lib.hid hpw
  have HFT := Lib.hid hfit
  have HOU := Lib.hid hO
  obtain ⟨pw', hpw'⟩ : ∃ pw', pw' = (fun k => decide (k < n) && pw k) := ⟨_, rfl⟩
  rw [← hpw'] at HFI HA HB HC HPW HOU ⊢
  clear hP hG hR hw ha hb hc ha2 hb2 hc2 hT hpw hfit hO hpw'
  obtain ⟨w0, hw0⟩ : ∃ w0, W.alloc (.cells #[.int .i64 a, .int .i64 b, .int .i64 c] 23) = w0 := ⟨_, rfl⟩
  have hf0 : Fr0 W w0 := hw0 ▸ fr_alloc _ _ _
  have hrc : w0.cell? ⟨W.heap.size, 0, none⟩ = some (.int .i64 a) ∧ w0.cell? ⟨W.heap.size, 1, none⟩ = some (.int .i64 b) ∧ w0.cell? ⟨W.heap.size, 2, none⟩ = some (.int .i64 c) := by
    have := World.alloc_heap_new W (.cells #[.int .i64 a, .int .i64 b, .int .i64 c] 23)
    rw [← hw0]; unfold World.cell?; rw [this]; exact ⟨rfl, rfl, rfl⟩
  obtain ⟨r0, r1, r2⟩ := hrc
  have HF1 := Lib.hid (HFI.out _ hf0)
  clear HFI
  go_enter Tryd.func18, Tryd.ntmps18
  go_wp2_with fail
  clear hw0
  refine wp_scope_jumps1 0 (LeastJ W r wg0 a b c (stepE P N A) outs fits t n pw') (fun ac _ => (intOf (ac.tmps.getD 11 undef)).toNat) rfl ?pass ?first
  case first =>
    intro hpass
    have HPASS := Lib.hid hpass
    clear hpass
    go_wp2_with (go_at_call 24; refine (HF1.out).mono ?_; rintro e w1 ⟨_, rfl, q, wg, wa, mb, far, rfl, hFI, hf1, hFk, hbd⟩)
    have hFA := hFI.ask
    have hFW := hf0.trans0 hf1
    have HNUM := Lib.hid (NumA_is hFA ht false)
    have HFA := Lib.hid hFA
    have HFK := Lib.hid hFk
    have HBD := Lib.hid hbd
    clear hFI hFA hFk r0 r1 r2 hf1 hbd
    by_cases hneg : numF far t false < 0
    · go_wp2_with (go_at_call 26; refine (HNUM.out).mono ?_; rintro e w2 ⟨_, rfl, rfl, hf2⟩)
      simp only [Exit.jump]
      go_ret2
      exact ⟨_, rfl, hFW.trans0 hf2, far, HFK.out, .inl ⟨hneg, rfl⟩⟩
    · obtain ⟨k0, tn, hk0, htn, hft⟩ := numF_pos hneg
      obtain rfl : tn = t.toNat := by omega
      have hb2 := HBD.out _ _ _ hft
      rw [hk0] at HNUM
      have HK0 := Lib.hid hk0
      have HTN := Lib.hid htn
      have HFT0 := Lib.hid hft
      have hneg' : ¬ (k0 : Int) < 0 := by omega
      clear hneg hk0 htn hft HBD
      go_wp2_with (go_at_call 26; refine (HNUM.out).mono ?_; rintro e w2 ⟨_, rfl, rfl, hf2⟩)
      obtain ⟨wl, hwl⟩ : ∃ wl, wl = ((w2.alloc (.cells #[.int .i64 t] 3)).alloc (.cells #[.int .i64 t, .bool false] 63)) := ⟨_, rfl⟩
      obtain ⟨vo, hvo⟩ : ∃ vo, vo = Value.slice (some ⟨w2.heap.size, 0, none⟩) 1 1 := ⟨_, rfl⟩
      obtain ⟨Al, hAl⟩ : ∃ Al, Al = (some ⟨w2.heap.size + 1, 0, none⟩ : Option Addr) := ⟨_, rfl⟩
      have htn := HTN.out
      have hF2 : Fr0 W w2 := hFW.trans0 hf2
      have hfl : Fr0 w2 wl := by rw [hwl]; exact (fr_alloc _ _ _).alloc _
      have hfw : Fr0 w1 wl := hf2.trans0 hfl
      have hown : wl.ownsRow w1.heap.size 3 1 vo [t.toNat].length (ints [t.toNat].reverse) := by
        have := own_fr0 (own_one (newF w2 #[.int .i64 t] 3) hf2.size) (fr_alloc (fun _ => False) _ (.cells #[.int .i64 t, .bool false] 63))
        rw [← hwl, ← hvo] at this
        simp only [List.reverse_singleton, ints, List.map_cons, List.map_nil, List.length_singleton]
        rw [← htn]; exact this
      have hsp : SptsAt wl Al ([(t.toNat, false)].map sptN) := by
        have := newF (w2.alloc (.cells #[.int .i64 t] 3)) #[.int .i64 t, .bool false] 63
        rw [World.size_alloc, ← hwl] at this
        rw [hAl]
        refine spts_one (x := ((t.toNat : Int), false)) ?_
        show wl.heap[w2.heap.size + 1]? = some (.cells #[.int .i64 ((t.toNat : Nat) : Int), .bool false] 63 (0, 0))
        rw [← htn]; exact this
      rw [← hwl]
      simp only [← hvo, ← hAl]
      have hFA := HFA.out
      have hFe := HFK.out
      have hnum := HK0.out
      have hfk0 := HFT0.out
      have hFk : FarOk n pw' (stepE P N A) (fun u => decide (u = t.toNat)) far := by
        have e : (fun u : Nat => decide ((u : Int) = t)) = (fun u => decide (u = t.toNat)) := by
          funext u; rw [decide_eq_decide]; omega
        rw [← e]; exact hFe
      obtain ⟨hvn, hpv⟩ := hFk.dom _ _ _ hfk0
      have hLI := LeastI.start (outs := outs) (fits := fits) hFk hfk0
      have hFW2 := hFW
      replace hFW := hF2.trans0 hfl
      have hk0 : k0 ≤ 2000 := by omega
      clear hwl hvo hAl HNUM HPASS HFA HFK HK0 HFT0 hF2 hfl hf2 HF1
      clear htn
      clear w2
      go_step3
      obtain ⟨k, hkq⟩ : ∃ k, k = k0 := ⟨_, rfl⟩
      rw [← hkq]
      replace hLI : LeastI (stepE P N A) outs fits t.toNat n pw' far k0 k [t.toNat] [(t.toNat, false)] := by rw [hkq]; exact hLI
      have hneg'' : ¬ (k : Int) < 0 := by omega
      clear hkq
      -- ROUND
      by_cases hk1 : 1 < k
      · have hk1' : (1 : Int) < (k : Int) := by omega
        obtain ⟨m, hm⟩ : ∃ m, k = m + 2 := ⟨k - 2, by omega⟩
        rw [hm] at hLI
        obtain ⟨hne, best, hbest, hbn, l', hl', hLI'⟩ := hLI.step hFk HFT.out HOU.out hvn hpv HPW.out HA.out HB.out HC.out
        have hord := hLI.ord
        have hll : ([(t.toNat, false)]).length ≤ 10 := by
          obtain ⟨u, e | e | e⟩ := hord <;> rw [e] <;> simp
        have hlu : ∀ s ∈ [(t.toNat, false)], s.1 < n := by
          rintro ⟨w, d⟩ hs
          rw [((hLI.spots w d).1 hs).1]; exact hLI.inn.1
        have hlen := hLI'.len
        have hsub : (k : Int) - 1 = (((m + 1 : Nat)) : Int) := by omega
        have HSTEP := Lib.hid (Step_is (m := (((m + 1 : Nat)) : Int)) (hFA.fr0 hfw) (HR.out.fr0 hFW) (HP.out.fr0 hFW) hJ0 HPW.out hn (cap := 1) hsp hll hlu hne)
        rw [hbest] at HSTEP hl'
        obtain ⟨l2, hl2⟩ : ∃ l2, l2 = (allS far (((m + 1 : Nat)) : Int) J0 pw' a b c ([(t.toNat, false)])).filter (fun x => x.1 == (best : Int)) := ⟨_, rfl⟩
        rw [← hl2] at HSTEP hl'
        have hl2n : l2.length ≤ 100000000 := by
          rw [hl2]
          have h1 := List.length_filter_le (fun x => x.1 == (best : Int)) (allS far (((m + 1 : Nat)) : Int) J0 pw' a b c ([(t.toNat, false)]))
          have h2 := allS_len far (((m + 1 : Nat)) : Int) J0 pw' a b c ([(t.toNat, false)])
          have h3 : ([(t.toNat, false)]).length * (2 * J0.length) ≤ 10 * (2 * J0.length) := Nat.mul_le_mul_right _ hll
          omega
        have HL' := Lib.hid hl'
        have HLI' := Lib.hid hLI'
        have HM := Lib.hid hm
        have hm2 : (m : Int) ≤ 2000 := by have := hLI'.len; omega
        have hrl : ([t.toNat]).length ≤ 3000 := by rw [List.length_cons] at hlen; omega
        have hw1 := hfw.size
        clear hne hbest hl' hLI' hord hll hlu hLI hsp hl2 hm hlen
        generalize hkk : k = kk at hk1' hsub
        have Hk := Lib.hid hkk
        clear hkk
        simp only [List.length_singleton] at HSTEP hown
        go_wp2_with (first
          | (go_at_call 31; (try rw [hsub]); refine (HSTEP.out).mono ?_; rintro e w3 ⟨_, rfl, b3, c3, rfl, hb3, hc3, hf3, harr3⟩; have hF3 := hfw.trans0 hf3; have ho3 := own_fr0 hown hf3; have hz3 := hF3.size)
          | (at_builtin; refine wpList_append_own_at _ rfl _ _ 33 rfl w1.heap.size 3 i0 (.int .i64 0) 1 8 Tryd.underlying33 hi hz0 hz1 hz2 rfl (by decide) _ _ _ rfl (ho3.alloc _) ⟨w3.heap.size, 0, none⟩ 1 1 [.int .i64 (best : Int)] rfl rfl (cell_one_new _ _ _) (by simp [Value.oneCell']) (by unfold maxLen; omega) (by omega) (by simp; omega) ?_; intro vo' w4 hown4 hgrow _ hblk; obtain ⟨g', cap', rfl⟩ := ownsRow_succ hown4; have hf4 := append_fr ho3 hgrow))
        obtain ⟨tail3, ha3⟩ := harr3
        have hne3 := own_ne ho3 ha3 (by decide)
        have ha4 : ArrAtP w4 b3 (l2.map toP) tail3 := hf4.heap ha3 hne3
        have hne4 := own_ne hown4 ha4 (by decide)
        have HCMP := Lib.hid (Compact_isP (cap := c3) ha4 (by rw [List.length_map]; omega) (by rw [List.length_map]; exact hc3))
        have huq : uniqL (l2.map toP) = (l'.map sptN).map toP := by rw [uniqL_map toP toP_inj, HL'.out]
        rw [huq, List.length_map] at HCMP
        clear huq ha3 hgrow HSTEP
        refine (HCMP.out).mono ?_
        rintro e w5 ⟨_, rfl, rfl, hf5, tail5, ha5⟩
        have hown5 := own_fr hown4 hf5 (fun b hb e => hne4 (e ▸ hb))
        have hF5 : Fr0 w1 w5 := Fr.trans (Fr.trans hF3 hf4 (fun j hj e => own_old ho3 hj e)) hf5 (fun j hj e => by omega)
        have hsp5 : SptsAt w5 (some ⟨b3, 0, none⟩) (l'.map sptN) := SptArr.at_ ⟨tail5, ha5⟩ (by
          have := congrArg List.length HL'.out
          have h2 := uniqL_len l2
          rw [this]; omega)
        rw [List.length_map, List.length_map]
        clear HCMP
        go_wp2_with fail
        go_step3
        refine ⟨rfl, ?_⟩
        · exact ⟨w1, q, wg, wa, k0, far, m + 1, best :: [t.toNat], l', some ⟨b3, 0, none⟩, c3, _, _, _, _, _, _, _, _, _, _, _, _, _, _, _, _, _, _, _, _, _, _, _, _, _, _, _, _, _, _, _, _, _, _, _, _, rfl, HLI'.out, hFA, hFe, hFk, hnum, hk0, hvn, hpv, hFW2, hF5, by simpa [ints] using hown5, hsp5⟩
      · have hke : k = 1 := by have := hLI.pos; omega
        rw [hke] at hLI
        have HEND := Lib.hid (hLI.end_ hFk HFT.out)
        have hk1' : ¬ (1 : Int) < (k : Int) := by omega
        have hown2 := own_baseL hown hFW2.size
        clear hLI hsp hke
        simp only [List.length_singleton] at hown2
        go_wp2_with fail
        (try simp only [Exit.jump])
        go_ret2
        exact ⟨_, rfl, hFW, far, hFe, .inr ⟨k0, ([t.toNat]).reverse, _, hnum, rfl, by rw [List.length_reverse]; exact hown2, HEND.out⟩⟩
  case pass =>
    rintro ac w ⟨w1, q, wg, wa, k0, far, k, rw, l, Al, cl, vo, u14, u15, u16, u17, u18, u19, u20, u21, u22, u23, u24, u25, u26, u27, u28, u29, u30, u31, u32, u33, u34, u35, u36, u37, u38, u39, u40, u41, u42, u43, u44, u45, u46, u47, u48, rfl, hLI, hFA, hFe, hFk, hnum, hk0, hvn, hpv, hFW2, hfw, hown, hsp⟩
    have hFW := hFW2.trans0 hfw
    have HF1x := HF1
    clear HF1 HF1x r0 r1 r2
    by_cases hk1 : 1 < k
    · have hk1' : (1 : Int) < (k : Int) := by omega
      obtain ⟨m, hm⟩ : ∃ m, k = m + 2 := ⟨k - 2, by omega⟩
      rw [hm] at hLI
      obtain ⟨hne, best, hbest, hbn, l', hl', hLI'⟩ := hLI.step hFk HFT.out HOU.out hvn hpv HPW.out HA.out HB.out HC.out
      have hord := hLI.ord
      have hll : (l).length ≤ 10 := by
        obtain ⟨u, e | e | e⟩ := hord <;> rw [e] <;> simp
      have hlu : ∀ s ∈ l, s.1 < n := by
        rintro ⟨w, d⟩ hs
        rw [((hLI.spots w d).1 hs).1]; exact hLI.inn.1
      have hlen := hLI'.len
      have hsub : (k : Int) - 1 = (((m + 1 : Nat)) : Int) := by omega
      have HSTEP := Lib.hid (Step_is (m := (((m + 1 : Nat)) : Int)) (hFA.fr0 hfw) (HR.out.fr0 hFW) (HP.out.fr0 hFW) hJ0 HPW.out hn (cap := cl) hsp hll hlu hne)
      rw [hbest] at HSTEP hl'
      obtain ⟨l2, hl2⟩ : ∃ l2, l2 = (allS far (((m + 1 : Nat)) : Int) J0 pw' a b c (l)).filter (fun x => x.1 == (best : Int)) := ⟨_, rfl⟩
      rw [← hl2] at HSTEP hl'
      have hl2n : l2.length ≤ 100000000 := by
        rw [hl2]
        have h1 := List.length_filter_le (fun x => x.1 == (best : Int)) (allS far (((m + 1 : Nat)) : Int) J0 pw' a b c (l))
        have h2 := allS_len far (((m + 1 : Nat)) : Int) J0 pw' a b c (l)
        have h3 : (l).length * (2 * J0.length) ≤ 10 * (2 * J0.length) := Nat.mul_le_mul_right _ hll
        omega
      have HL' := Lib.hid hl'
      have HLI' := Lib.hid hLI'
      have HM := Lib.hid hm
      have hm2 : (m : Int) ≤ 2000 := by have := hLI'.len; omega
      have hrl : (rw).length ≤ 3000 := by rw [List.length_cons] at hlen; omega
      have hw1 := hfw.size
      clear hne hbest hl' hLI' hord hll hlu hLI hsp hl2 hm hlen
      generalize hkk : k = kk at hk1' hsub
      have Hk := Lib.hid hkk
      clear hkk
      go_wp2_with (first
        | (go_at_call 31; (try rw [hsub]); refine (HSTEP.out).mono ?_; rintro e w3 ⟨_, rfl, b3, c3, rfl, hb3, hc3, hf3, harr3⟩; have hF3 := hfw.trans0 hf3; have ho3 := own_fr0 hown hf3; have hz3 := hF3.size)
        | (at_builtin; refine wpList_append_own_at _ rfl _ _ 33 rfl w1.heap.size 3 i0 (.int .i64 0) 1 8 Tryd.underlying33 hi hz0 hz1 hz2 rfl (by decide) _ _ _ rfl (ho3.alloc _) ⟨w3.heap.size, 0, none⟩ 1 1 [.int .i64 (best : Int)] rfl rfl (cell_one_new _ _ _) (by simp [Value.oneCell']) (by unfold maxLen; omega) (by omega) (by simp; omega) ?_; intro vo' w4 hown4 hgrow _ hblk; obtain ⟨g', cap', rfl⟩ := ownsRow_succ hown4; have hf4 := append_fr ho3 hgrow))
      obtain ⟨tail3, ha3⟩ := harr3
      have hne3 := own_ne ho3 ha3 (by decide)
      have ha4 : ArrAtP w4 b3 (l2.map toP) tail3 := hf4.heap ha3 hne3
      have hne4 := own_ne hown4 ha4 (by decide)
      have HCMP := Lib.hid (Compact_isP (cap := c3) ha4 (by rw [List.length_map]; omega) (by rw [List.length_map]; exact hc3))
      have huq : uniqL (l2.map toP) = (l'.map sptN).map toP := by rw [uniqL_map toP toP_inj, HL'.out]
      rw [huq, List.length_map] at HCMP
      clear huq ha3 hgrow HSTEP
      refine (HCMP.out).mono ?_
      rintro e w5 ⟨_, rfl, rfl, hf5, tail5, ha5⟩
      have hown5 := own_fr hown4 hf5 (fun b hb e => hne4 (e ▸ hb))
      have hF5 : Fr0 w1 w5 := Fr.trans (Fr.trans hF3 hf4 (fun j hj e => own_old ho3 hj e)) hf5 (fun j hj e => by omega)
      have hsp5 : SptsAt w5 (some ⟨b3, 0, none⟩) (l'.map sptN) := SptArr.at_ ⟨tail5, ha5⟩ (by
        have := congrArg List.length HL'.out
        have h2 := uniqL_len l2
        rw [this]; omega)
      rw [List.length_map, List.length_map]
      clear HCMP
      go_wp2_with fail
      go_step3
      refine ⟨rfl, ?_, ?_⟩
      · exact ⟨w1, q, wg, wa, k0, far, m + 1, best :: rw, l', some ⟨b3, 0, none⟩, c3, _, _, _, _, _, _, _, _, _, _, _, _, _, _, _, _, _, _, _, _, _, _, _, _, _, _, _, _, _, _, _, _, _, _, _, _, rfl, HLI'.out, hFA, hFe, hFk, hnum, hk0, hvn, hpv, hFW2, hF5, by simpa [ints] using hown5, hsp5⟩
      · have h1 := HM.out
        have h2 := Hk.out
        simp [intOf]; omega
    · have hke : k = 1 := by have := hLI.pos; omega
      rw [hke] at hLI
      have HEND := Lib.hid (hLI.end_ hFk HFT.out)
      have hk1' : ¬ (1 : Int) < (k : Int) := by omega
      have hown2 := own_baseL hown hFW2.size
      clear hLI hsp hke
      go_wp2_with fail
      (try simp only [Exit.jump])
      go_ret2
      exact ⟨_, rfl, hFW, far, hFe, .inr ⟨k0, (rw).reverse, _, hnum, rfl, by rw [List.length_reverse]; exact hown2, HEND.out⟩⟩
end Go.Proofs.YtdcjfpjpboafnaaDoor
namespace Go.Proofs.YtdcjfpjpboafnaaDoor
set_option linter.all false
open Go.RowKit
set_option maxRecDepth 100000

def farL (far : Nat → Bool → Option Nat) (d : Bool) (j : Nat) : List Int := (List.range j).map (fun i : Nat => numF far (i : Int) d)
theorem farL_succ (far : Nat → Bool → Option Nat) (d : Bool) (j : Nat) : farL far d (j + 1) = farL far d j ++ [numF far (j : Int) d] := by simp [farL, List.range_succ]
theorem farL_len (far : Nat → Bool → Option Nat) (d : Bool) (j : Nat) : (farL far d j).length = j := by simp [farL]
def DistPost (W : World) (n : Nat) (pw : Nat → Bool) (E : Nat → Bool → Nat → Bool → Bool) (t : Int) (x : Value) (w' : World) : Prop :=
  Fr0 W w' ∧ ∃ far va vb, FarOk n pw E (fun u => decide ((u : Int) = t)) far ∧ x = .tuple #[va, vb] ∧ w'.ownsRow W.heap.size 3 1 va n (intsI (farL far false n)) ∧ w'.ownsRow W.heap.size 3 1 vb n (intsI (farL far true n))
set_option maxHeartbeats 8000000 in
theorem DistW_is {W : World} {r : Option Addr} {g0 g n : Nat} {J0 J : List ArcI} {wg0 wa0 nb : Nat} {pw : Nat → Bool} {a b c : Int} {P N A : Nat → Nat → Bool} (hR : IsR W r (some ⟨g0, 0, none⟩) (some ⟨g, 0, none⟩)) (hP : GP W (some ⟨g0, 0, none⟩) n J0) (hG : GP W (some ⟨g, 0, none⟩) n J) (hT : Tab W) (hw : IsBits W wg0 wa0 nb pw)
    (hn : n ≤ 1000) {t : Int} (ht : (Lit.int .i64 t).wf = true) (ha : ∀ u, u < n → InOf (fun k => decide (k < n) && pw k) P u (nextL J u a (fun k => decide (k < n) && pw k))) (hb : ∀ u, u < n → InOf (fun k => decide (k < n) && pw k) N u (nextL J u b (fun k => decide (k < n) && pw k))) (hc : ∀ u, u < n → InOf (fun k => decide (k < n) && pw k) A u (nextL J u c (fun k => decide (k < n) && pw k))) :
    Calls Tryd.prog 13 #[.pointer r, .pointer (some ⟨wg0, 0, none⟩), .agg #[.int .i64 a, .int .i64 b, .int .i64 c], .int .i64 t] W (Rets (DistPost W n (fun k => decide (k < n) && pw k) (stepE P N A) t)) := by
  obtain ⟨i0, hi, hz0, hz1, hz2⟩ := info_parts info_int
  have HFI := Lib.hid (fun w' (f : Fr0 W w') => Find_is (hR.fr0 f) (hP.fr0 f) (hG.fr0 f) (hT.fr f (fun x => x)) (hw.fr0 f) hn ht ha hb hc)
  have HP := Lib.hid hP
  have HR := Lib.hid hR
  obtain ⟨pw', hpw'⟩ : ∃ pw', pw' = (fun k => decide (k < n) && pw k) := ⟨_, rfl⟩
  rw [← hpw'] at HFI ⊢
  clear hP hG hR hw ha hb hc hT hpw'
  obtain ⟨w0, hw0⟩ : ∃ w0, W.alloc (.cells #[.int .i64 a, .int .i64 b, .int .i64 c] 23) = w0 := ⟨_, rfl⟩
  have hf0 : Fr0 W w0 := hw0 ▸ fr_alloc _ _ _
  have hrc : w0.cell? ⟨W.heap.size, 0, none⟩ = some (.int .i64 a) ∧ w0.cell? ⟨W.heap.size, 1, none⟩ = some (.int .i64 b) ∧ w0.cell? ⟨W.heap.size, 2, none⟩ = some (.int .i64 c) := by
    have := World.alloc_heap_new W (.cells #[.int .i64 a, .int .i64 b, .int .i64 c] 23)
    rw [← hw0]; unfold World.cell?; rw [this]; exact ⟨rfl, rfl, rfl⟩
  obtain ⟨r0, r1, r2⟩ := hrc
  have HF1 := Lib.hid (HFI.out _ hf0)
  clear HFI
  go_enter Tryd.func13, Tryd.ntmps13
  go_wp2_with (first
    | (go_at_call 24; refine (HF1.out).mono ?_; rintro e w1 ⟨_, rfl, q, wg, wa, mb, far, rfl, hFI, hf1, hFk, hbd⟩; have hFW := hf0.trans0 hf1)
    | (go_at_call 25; refine (LenR_is (HR.out.fr0 hFW) (HP.out.fr0 hFW)).mono ?_; rintro e w' ⟨rfl, rfl⟩))
  have hFA := hFI.ask
  have HFK := Lib.hid hFk
  clear hw0 r0 r1 r2 HF1 hFI hFk hbd hf1 hf0
  have hz := hFW.size
  go_loopw [11, 12, 21] (fun va vb vi wr => ∃ j : Nat, j ≤ n ∧ vi = .int .i64 j ∧ Fr0 w1 wr ∧ wr.ownsRow w1.heap.size 3 1 va j (intsI (farL far false j)) ∧ wr.ownsRow w1.heap.size 3 1 vb j (intsI (farL far true j)) ∧ (∀ q, va.ownBlock = some q → vb.ownBlock ≠ some q)) (fun _ _ vi _ => n - (intOf vi).toNat)
  case atStart => exact ⟨0, Nat.zero_le _, rfl, Fr.refl _ _, own_nil _ _ _ _, own_nil _ _ _ _, fun q h => by cases h⟩
  case round =>
    obtain ⟨j, hj, rfl, hf, oa, ob, hab⟩ := hrel
    by_cases hlt : j < n
    · have hlt' : (j : Int) < (n : Int) := by omega
      have hwf : (Lit.int .i64 (j : Int)).wf = true := by simp [Lit.wf, IntKind.min, IntKind.max, IntKind.signed, IntKind.bits]; omega
      have HN1 := Lib.hid (NumA_is (hFA.fr0 hf) hwf false)
      have HN2 := Lib.hid (fun w' (f : Fr0 w1 w') => NumA_is (hFA.fr0 f) hwf true)
      have hsz := hf.size
      have HAB := Lib.hid hab
      have HS1 := Lib.hid (farL_succ far false j)
      have HS2 := Lib.hid (farL_succ far true j)
      generalize numF far (j : Int) false = x1 at HN1 HS1
      generalize numF far (j : Int) true = x2 at HN2 HS2
      clear hab
      have tok1 : True := trivial
      go_wp2_with (first
        | (go_at_call 26; have _t := tok1; refine (HN1.out).mono ?_; rintro e w2 ⟨_, rfl, rfl, hf2⟩; clear tok1; have oa2 := own_fr0 oa hf2; have ob2 := own_fr0 ob hf2; have hF2 := hf.trans0 hf2; have hz2' := hF2.size; have tok2 : True := trivial)
        | (at_builtin; have _t := tok2; refine wpList_append_own_at _ rfl _ _ 33 rfl w1.heap.size 3 i0 (.int .i64 0) 1 8 Tryd.underlying33 hi hz0 hz1 hz2 rfl (by decide) _ _ _ rfl (oa2.alloc _) ⟨w2.heap.size, 0, none⟩ 1 1 [.int .i64 x1] rfl rfl (cell_one_new _ _ _) (by simp [Value.oneCell']) (by unfold maxLen; omega) (by omega) (by simp; omega) ?_; intro va' w3 oa3 hgrow3 _ hblk3; clear tok2; have hf3 := append_fr oa2 hgrow3; have ob3 := own_fr ob2 hf3 (fun b hb e => HAB.out b e hb); have hF3 : Fr0 w1 w3 := Fr.trans hF2 hf3 (fun k hk e => own_old oa2 hk e); have hz3 := hF3.size; have hz23 := hf3.size; have tok3 : True := trivial)
        | (go_at_call 26; have _t := tok3; refine (HN2.out _ hF3).mono ?_; rintro e w4 ⟨_, rfl, rfl, hf4⟩; clear tok3; have oa4 := own_fr0 oa3 hf4; have ob4 := own_fr0 ob3 hf4; have hF4 := hF3.trans0 hf4; have hz4 := hF4.size; have tok4 : True := trivial)
        | (at_builtin; have _t := tok4; refine wpList_append_own_at _ rfl _ _ 33 rfl w1.heap.size 3 i0 (.int .i64 0) 1 8 Tryd.underlying33 hi hz0 hz1 hz2 rfl (by decide) _ _ _ rfl (ob4.alloc _) ⟨w4.heap.size, 0, none⟩ 1 1 [.int .i64 x2] rfl rfl (cell_one_new _ _ _) (by simp [Value.oneCell']) (by unfold maxLen; omega) (by omega) (by simp; omega) ?_; intro vb' w5 ob5 hgrow5 _ hblk5; clear tok4))
      have hf5 := append_fr ob4 hgrow5
      have hne34 : ∀ q, va'.ownBlock = some q → u12.ownBlock ≠ some q := by
        intro q hq hb
        rcases hblk3 with e | e
        · rw [e] at hq; exact HAB.out q hq hb
        · rw [e] at hq
          simp only [World.size_alloc] at hq
          cases hq
          have := (own_blk ob2 hb).2.1
          omega
      have oa5 := own_fr oa4 hf5 (fun b hb e => hne34 b hb e)
      go_roundw
      case rel =>
        refine ⟨j + 1, by omega, by go_num, Fr.trans hF4 hf5 (fun k hk e => own_old ob4 hk e), by rw [HS1.out, ← intsI_snoc]; exact oa5, by rw [HS2.out, ← intsI_snoc]; exact ob5, fun q hq hb => ?_⟩
        rcases hblk5 with e | e
        · rw [e] at hb; exact hne34 q hq hb
        · rw [e] at hb
          simp only [World.size_alloc] at hb
          cases hb
          have := (own_blk oa4 hq).2.1
          omega
      case measure => simp [intOf]; omega
    · have hje : j = n := by omega
      subst hje
      go_wp2_with fail
      go_ret2
      exact ⟨_, rfl, hFW.trans0 hf, far, _, _, HFK.out, rfl, own_baseL oa hz, own_baseL ob hz⟩
end Go.Proofs.YtdcjfpjpboafnaaDoor
