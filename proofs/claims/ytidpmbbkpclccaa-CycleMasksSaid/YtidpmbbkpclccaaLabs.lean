/- Labs1, LabsP, in one text. -/
import Derived.Test.YtidpmbbkpclccaaFitsP
import Derived.Test.YtidpmbbkpclccaaAppRow
import Derived.Deep.RegionHeldLaw
namespace Go.Proofs.Ytidpmbbkpclccaa
set_option linter.all false
open Go.RowKit
set_option maxRecDepth 100000

theorem slice_tailI {A : Option Addr} {c i : Nat} {zs : List Int} (hp : Plain A zs.length c) (hc : zs.length ≤ c) (hi : i ≤ zs.length) :
    ∃ A' c', (∀ wx, (Instr.slice 23 (.slice A zs.length c) (some (.int .i64 (i : Int))) none none).run Try.prog wx = .ok (.slice A' (zs.drop i).length c') wx) ∧ Plain A' (zs.drop i).length c' ∧ (zs.drop i).length ≤ c' ∧
      ∀ w, IntsAt w A zs → IntsAt w A' (zs.drop i) := by
  refine ⟨if c = i then A else A.map (·.add (i * 1)), c - i, fun wx => ?_, ?_, by rw [List.length_drop]; omega, fun w h => ⟨by rw [List.length_drop]; have := h.1; omega, ?_⟩⟩
  · rw [run_slice_l (P := Try.prog) wx 23 A zs.length c elem_ints .i64 (i : Int) (by omega) (by omega)]
    go_simp
  · intro hA
    have : A = none := by
      cases A with
      | none => rfl
      | some a => split at hA <;> cases hA
    have := hp this
    rw [List.length_drop]; omega
  · by_cases hci : c = i
    · left; rw [List.drop_eq_nil_iff]; omega
    · rw [if_neg hci]
      rcases h.2 with rfl | ⟨b, o, rfl, hcc⟩
      · left; simp
      · refine .inr ⟨b, o + i, by simp [Addr.add], fun j hj => ?_⟩
        rw [List.length_drop] at hj
        rw [Nat.add_assoc, hcc (i + j) (by omega)]
        simp [List.getD_eq_getElem?_getD, List.getElem?_drop]
/-- What the closure sees. -/
structure LabK (bm bn bh bq bk : Nat) (m a b c d : Int) (had k : Nat) (A : Option Addr) (cp : Nat) (xs : List Int) (W : World) : Prop where
  m : Box W bm 3 (.int .i64 m)
  n : FourB W bn a b c d
  h : Box W bh 3 (.int .i64 had)
  q : Box W bq 23 (.slice A xs.length cp)
  k : Box W bk 3 (.int .i64 k)
  x : IntsAt W A xs
theorem LabK.fr0 {bm bn bh bq bk : Nat} {m a b c d : Int} {had k : Nat} {A : Option Addr} {cp : Nat} {xs : List Int} {W W' : World} (h : LabK bm bn bh bq bk m a b c d had k A cp xs W) (f : Fr0 W W') : LabK bm bn bh bq bk m a b c d had k A cp xs W' :=
  ⟨h.m.fr0 f, h.n.fr0 f, h.h.fr0 f, h.q.fr0 f, h.k.fr0 f, h.x.fr0 f⟩
def labB (m a b c d : Int) (had : Nat) (rest : List Int) (x : Int) : Bool := (bits .and .i64 (bits .and .i64 m a) x != 0) && canI a b c d had (x :: rest)
theorem own_one (W : World) (x : Int) : (W.alloc (.cells #[.int .i64 x] 3)).ownsRow W.heap.size 3 1 (.slice (some ⟨W.heap.size, 0, none⟩) 1 1) ([x] : List Int).length (intsI [x]) :=
  ⟨rfl, .inr ⟨W.heap.size, 1, #[.int .i64 x], rfl, Nat.le_refl _, World.alloc_heap_new W _, Nat.le_refl _, by unfold maxLen; omega, rfl, rfl⟩⟩
section
variable {ops : Array Oper} {o : Oper} {a : Act} {w : World} {K : Act → World → Prop} {Q : Exit → Act → World → Prop} {E : Prop}
theorem step_append_runG (hw : Region.wanted o (yielded ops a.tmps) = true) (s x : Operand) (t : TypeId) (ho : o.op = .call { callee := .builtin .append, args := #[s, x], argTypes := #[t, t] })
    {v xv v' : Value} {w' : World} (hs : a.eval s = v) (hx : a.eval x = xv) (hr : (Builtin.append_ #[t, t] o.type #[v, xv]).run Try.prog w = .ok v' w') (h : K (a.put o.dst v') w') :
    if Region.wanted o (yielded ops a.tmps) = true then Oper.wp Try.prog o a w K Q else E := by
  rw [if_pos hw]
  unfold Oper.wp execOp
  simp only [ho, resolve, invoke, builtin, Sem.run_bind, Sem.run_pure, Result.andThen_ok, List.map_toArray, List.map_cons, List.map_nil, hs, hx, hr]
  exact h
end
set_option maxHeartbeats 4000000 in
theorem Labels1_is {bm bn bh bq bk : Nat} {m a b c d : Int} {had k : Nat} {A : Option Addr} {cp : Nat} {xs : List Int} {W : World} (h : LabK bm bn bh bq bk m a b c d had k A cp xs W)
    (hp : Plain A xs.length cp) (hcp : xs.length ≤ cp) (hk : k < xs.length) (hsm : xs.length ≤ 1000) (hh : had ≤ 1000) (x : Int) :
    Calls Try.prog 24 #[.int .i64 x, .pointer (some ⟨bm, 0, none⟩), .pointer (some ⟨bn, 0, none⟩), .pointer (some ⟨bh, 0, none⟩), .pointer (some ⟨bq, 0, none⟩), .pointer (some ⟨bk, 0, none⟩)] W
      (Rets (PredPostI (labB m a b c d had (xs.drop (k + 1)) x) W)) := by
  have c1 := h.m.cell
  have c2 := h.n.c0
  have c3 := h.n.c1
  have c4 := h.n.c2
  have c5 := h.n.c3
  have c6 := h.h.cell
  have c7 := h.q.cell
  have c8 := h.k.cell
  have l1 := h.m.lt
  have l2 := heap_lt h.n
  have l6 := h.h.lt
  have l7 := h.q.lt
  have l8 := h.k.lt
  obtain ⟨u, hu⟩ : ∃ u, bits .and .i64 m a = u := ⟨_, rfl⟩
  obtain ⟨z, hz⟩ : ∃ z, bits .and .i64 u x = z := ⟨_, rfl⟩
  by_cases h0 : z = 0
  · have HR : Hid (labB m a b c d had (xs.drop (k + 1)) x = false) := Lib.hid (by unfold labB; rw [hu, hz, h0]; rfl)
    have b0 : (z != 0) = false := by simp [h0]
    clear h0 h
    go_enter Try.func24, Try.ntmps24
    go_wp2_with fail
    go_quiet (fail)
    go_wp2_with fail
    go_ret
    exact ⟨_, rfl, by rw [HR.out]; rfl, fr_drewN _ _ _⟩
  · have b0 : (z != 0) = true := by simp [h0]
    obtain ⟨A1, c1', hsl, hp1, hc1, hi1⟩ := slice_tailI hp hcp (i := k + 1) (by omega)
    rw [show ((k + 1 : Nat) : Int) = (k : Int) + 1 by omega] at hsl
    have hwr : IntKind.i64.wrap ((k : Int) + 1) = (k : Int) + 1 := by rw [IntKind.wrap_i64]; omega
    have HF1 : Fr0 W (W.alloc (.cells #[.int .i64 x] 3)).drew := (fr_alloc _ _ _).drew
    have HO := own_fr0 (own_one W x) (fr_drew _ _)
    have hl1 : (xs.drop (k + 1)).length ≤ 1000 := by rw [List.length_drop]; omega
    obtain ⟨v2, w2, r2, o2, f2⟩ := run_append_ints HO (hi1 _ (h.x.fr0 HF1)) hp1 (by simp; omega) HF1.size 23
    have hF2 : Fr0 W w2 := HF1.trans (append_fr0 HO f2) (fun j hj e => own_old HO hj e)
    have HR : Hid (labB m a b c d had (xs.drop (k + 1)) x = canI a b c d had (x :: xs.drop (k + 1))) := Lib.hid (by unfold labB; rw [hu, hz, b0]; rfl)
    generalize xs.drop (k + 1) = ys at hsl hp1 hc1 r2 o2 HR hl1 ⊢
    have KS := Lib.hid (show ∀ w', Fr0 W w' → (Fr0 W w' ∧ w'.cell? ⟨bm, 0, none⟩ = some (.int .i64 m) ∧ w'.cell? ⟨bn, 0, none⟩ = some (.int .i64 a) ∧ w'.cell? ⟨bn, 1, none⟩ = some (.int .i64 b) ∧ w'.cell? ⟨bn, 2, none⟩ = some (.int .i64 c) ∧ w'.cell? ⟨bn, 3, none⟩ = some (.int .i64 d) ∧ w'.cell? ⟨bh, 0, none⟩ = some (.int .i64 had) ∧ w'.cell? ⟨bq, 0, none⟩ = some (.slice A xs.length cp) ∧ w'.cell? ⟨bk, 0, none⟩ = some (.int .i64 k)) from
      fun w' f => have hL := h.fr0 f; ⟨f, hL.m.cell, hL.n.c0, hL.n.c1, hL.n.c2, hL.n.c3, hL.h.cell, hL.q.cell, hL.k.cell⟩)
    have HF2 := Lib.hid hF2
    obtain ⟨A2, c2', rfl⟩ := own_form o2
    have hM : (x :: ys).length ≤ 1001 := by simp; omega
    change w2.ownsRow _ _ _ (.slice A2 (x :: ys).length c2') (x :: ys).length (intsI (x :: ys)) at o2
    have r2 : (Builtin.append_ #[23, 23] 23 #[.slice (some ⟨W.heap.size, 0, none⟩) 1 1, .slice A1 ys.length c1']).run Try.prog (W.alloc (.cells #[.int .i64 x] 3)).drew = .ok (.slice A2 (x :: ys).length c2') w2 := r2
    generalize (x :: ys) = M at o2 r2 HR hM
    have HC := Lib.hid (Can_is (a := a) (b := b) (c := c) (d := d) (cp := c2') (had := had) (own_intsI o2 (by omega)) (by omega) (by omega))
    simp only [needV] at HC
    obtain ⟨r, hr⟩ : ∃ r, canI a b c d had M = r := ⟨_, rfl⟩
    rw [hr] at HC
    have HR2 : Hid (labB m a b c d had ys x = r) := Lib.hid (HR.out.trans hr)
    clear hr HR
    clear h0 h o2 f2 hi1 HO hF2 HF1
    go_enter Try.func24, Try.ntmps24
    go_wp2_with fail
    go_region_held_law (fun w' => Fr0 W w' ∧ w'.cell? ⟨bm, 0, none⟩ = some (.int .i64 m) ∧ w'.cell? ⟨bn, 0, none⟩ = some (.int .i64 a) ∧ w'.cell? ⟨bn, 1, none⟩ = some (.int .i64 b) ∧ w'.cell? ⟨bn, 2, none⟩ = some (.int .i64 c) ∧ w'.cell? ⟨bn, 3, none⟩ = some (.int .i64 d) ∧ w'.cell? ⟨bh, 0, none⟩ = some (.int .i64 had) ∧ w'.cell? ⟨bq, 0, none⟩ = some (.slice A xs.length cp) ∧ w'.cell? ⟨bk, 0, none⟩ = some (.int .i64 k))
      ((refine KS.out _ ?_; first | assumption | exact HF2.out | exact HF2.out.trans0 (by assumption) | exact fr_drew _ _ | exact Fr.alloc (And.left (by assumption)) _))
      (first | (refine step_append_runG (by rfl) _ _ _ rfl rfl rfl r2 ?_) | (go_at_call 23; refine (HC.out).mono ?_; rintro e w4 ⟨_, rfl, rfl, hf4⟩))
    go_wp2_with fail
    go_ret
    exact ⟨_, rfl, by rw [HR2.out]; rfl, HF2.out.trans0 hf4⟩
theorem labs_spec {bm bn bh bq bk : Nat} {m a b c d : Int} {had k : Nat} {A : Option Addr} {cp : Nat} {xs : List Int} (hp : Plain A xs.length cp) (hcp : xs.length ≤ cp) (hk : k < xs.length) (hsm : xs.length ≤ 1000) (hh : had ≤ 1000) :
    PredSpecI 24 #[.pointer (some ⟨bm, 0, none⟩), .pointer (some ⟨bn, 0, none⟩), .pointer (some ⟨bh, 0, none⟩), .pointer (some ⟨bq, 0, none⟩), .pointer (some ⟨bk, 0, none⟩)]
      (labB m a b c d had (xs.drop (k + 1))) (LabK bm bn bh bq bk m a b c d had k A cp xs) := by
  intro x w h
  exact Labels1_is h hp hcp hk hsm hh x
theorem labs_idx {bm bn bh bq bk : Nat} {m a b c d : Int} {had k : Nat} {A : Option Addr} {cp : Nat} {xs : List Int} (hp : Plain A xs.length cp) (hcp : xs.length ≤ cp) (hk : k < xs.length) (hsm : xs.length ≤ 1000) (hh : had ≤ 1000)
    {r : Int} (hr : idxFI (labB m a b c d had (xs.drop (k + 1))) [1, 2, 4] = r) {w : World} {g : Nat} (hg : IntsAt w (some ⟨g, 0, none⟩) [1, 2, 4]) (h : LabK bm bn bh bq bk m a b c d had k A cp xs w) :
    Calls Try.prog 26 #[.slice (some ⟨g, 0, none⟩) 3 3, .func (.func 24) #[] #[.pointer (some ⟨bm, 0, none⟩), .pointer (some ⟨bn, 0, none⟩), .pointer (some ⟨bh, 0, none⟩), .pointer (some ⟨bq, 0, none⟩), .pointer (some ⟨bk, 0, none⟩)]] w (Rets (IdxPostI r w)) := by
  rw [← hr]
  exact IndexFuncI_is (c := 3) (l := [1, 2, 4]) (labs_spec hp hcp hk hsm hh) (fun _ _ h f => h.fr0 f) (fun _ _ => rfl) hg (by decide) h
end Go.Proofs.Ytidpmbbkpclccaa
namespace Go.Proofs.Ytidpmbbkpclccaa
set_option linter.all false
open Go.RowKit
set_option maxRecDepth 100000

/-- The label that is taken. -/
def pickL (p : Int → Bool) : Int := if p 1 = true then 1 else if p 2 = true then 2 else if p 4 = true then 4 else 1
/-- Labels, and how many of them count, of the first k masks. -/
def stL (a b c d : Int) (xs : List Int) : Nat → List Int × Nat
  | 0 => ([], 0)
  | k + 1 => let x := pickL (labB (xs.getD k 0) a b c d (stL a b c d xs k).2 (xs.drop (k + 1)))
    ((stL a b c d xs k).1 ++ [x], (stL a b c d xs k).2 + if (x == b) = true then 1 else 0)
theorem stL_len (a b c d : Int) (xs : List Int) : ∀ k, (stL a b c d xs k).1.length = k
  | 0 => rfl
  | k + 1 => by simp [stL, stL_len a b c d xs k]
theorem stL_had (a b c d : Int) (xs : List Int) : ∀ k, (stL a b c d xs k).2 ≤ k
  | 0 => Nat.le_refl _
  | k + 1 => by
    have := stL_had a b c d xs k
    simp only [stL]
    split <;> omega
/-- Which index is taken. -/
theorem pick_idx (p : Int → Bool) : ∃ (i : Nat), i < 3 ∧ (max 0 (idxFI p [1, 2, 4]) = (i : Int)) ∧ ([1, 2, 4] : List Int).getD i 0 = pickL p := by
  unfold idxFI pickL
  cases h1 : p 1 with
  | true => exact ⟨0, by omega, by simp [List.findIdx?_cons, h1], by simp⟩
  | false =>
    cases h2 : p 2 with
    | true => exact ⟨1, by omega, by simp [List.findIdx?_cons, h1, h2]; rfl, by simp⟩
    | false =>
      cases h4 : p 4 with
      | true => exact ⟨2, by omega, by simp [List.findIdx?_cons, h1, h2, h4]; rfl, by simp⟩
      | false => exact ⟨0, by omega, by simp [List.findIdx?_cons, h1, h2, h4]; rfl, by simp⟩
/-- The program's labels. -/
def labelsP (kind : Int) (xs : List Int) : Option (List Int) := match needK kind with
  | none => none
  | some n => if xs.length < 2 ∨ canN n 0 xs = false then none else some (stL n.may n.counts n.least (mostN n) xs xs.length).1
theorem own_baseI {W : World} {e size B B0 n : Nat} {v : Value} {xs : List Value} (h : W.ownsRow B e size v n xs) (hB : B0 ≤ B) : W.ownsRow B0 e size v n xs := by
  refine ⟨h.1, h.2.imp id ?_⟩
  rintro ⟨g, cap, cur, rfl, hb, rest⟩
  exact ⟨g, cap, cur, rfl, Nat.le_trans hB hb, rest⟩
def NoPost (W : World) (v : Value) (w' : World) : Prop := v = .tuple #[.slice none 0 0, .bool false] ∧ Fr0 W w'
def YesPost (W : World) (l : List Int) (v : Value) (w' : World) : Prop := Fr0 W w' ∧ ∃ A c, v = .tuple #[.slice A l.length c, .bool true] ∧ w'.ownsRow W.heap.size 3 1 (.slice A l.length c) l.length (intsI l)
set_option maxHeartbeats 4000000 in
theorem Labels_no {W : World} {kind : Int} (hk : (Lit.int .i64 kind).wf = true) {A : Option Addr} {cp : Nat} {xs : List Int} (h : IntsAt W A xs) (hsm : xs.length ≤ 1000) (hno : labelsP kind xs = none) :
    Calls Try.prog 11 #[.int .i64 kind, .slice A xs.length cp] W (Rets (NoPost W)) := by
  have hb := Box.new W 23 (.slice A xs.length cp)
  have hF0 : Fr0 W (W.alloc (.cells #[.slice A xs.length cp] 23)) := fr_alloc _ _ _
  have HX := Lib.hid (h.fr0 hF0)
  have HF0 := Lib.hid hF0
  have HN := Lib.hid (Needs_is (W := W.alloc (.cells #[.slice A xs.length cp] 23)) hk)
  clear h hF0
  unfold NeedPost at HN
  unfold labelsP at hno
  cases hK : needK kind with
  | none =>
    rw [hK] at HN
    clear hK hno
    go_enter Try.func11, Try.ntmps11
    go_wp2_with (go_at_call 22; refine HN.out.mono ?_; rintro e w1 ⟨_, rfl, hf1, a, b, c, d, rfl, hn⟩; simp only [needV, Option.isSome_none])
    go_ret2
    exact ⟨_, rfl, rfl, (HF0.out.trans0 hf1).alloc _⟩
  | some n =>
    rw [hK] at HN hno
    simp only at hno
    clear hK
    obtain ⟨a, b, c, d, hn⟩ : ∃ a b c d : Int, nV n = needV a b c d := ⟨_, _, _, _, rfl⟩
    have HNN := Lib.hid hn
    by_cases h2 : xs.length < 2
    · have h2' : (xs.length : Int) < 2 := by omega
      clear hno h2 hn
      go_enter Try.func11, Try.ntmps11
      go_wp2_with (go_at_call 22; refine HN.out.mono ?_; rintro e w1 ⟨_, rfl, hf1, a', b', c', d', rfl, hn⟩; rw [(hn n rfl).trans HNN.out]; clear hn; simp only [needV, Option.isSome_some]; have hq := (hb.fr0 (hf1.alloc (.cells #[.int .i64 a, .int .i64 b, .int .i64 c, .int .i64 d] 58))).cell)
      go_ret2
      exact ⟨_, rfl, rfl, (HF0.out.trans0 hf1).alloc _⟩
    · have h2' : ¬ (xs.length : Int) < 2 := by omega
      have hc : canN n 0 xs = false := by
        by_cases hc : canN n 0 xs = false
        · exact hc
        · rw [if_neg (by simp [h2, hc])] at hno; cases hno
      clear hno h2
      have HC : ∀ w, Fr0 (W.alloc (.cells #[.slice A xs.length cp] 23)) w → Hid (Calls Try.prog 23 #[needV n.may n.counts n.least (mostN n), .int .i64 0, .slice A xs.length cp] w (Rets (SamePost false w))) := fun w hw => Lib.hid (hc ▸ Can_is (cp := cp) (had := 0) (HX.out.fr0 hw) (by omega) (by omega))
      have HC2 := Lib.hid HC
      rw [show needV (n.may : Int) n.counts n.least (mostN n) = nV n from rfl, hn] at HC2
      simp only [needV] at HC2
      clear HC hc hn
      go_enter Try.func11, Try.ntmps11
      go_wp2_with (first | (go_at_call 23; refine (HC2.out _ (hf1.alloc _)).out.mono ?_; rintro e w4 ⟨_, rfl, rfl, hf4⟩) | (go_at_call 22; refine HN.out.mono ?_; rintro e w1 ⟨_, rfl, hf1, a', b', c', d', rfl, hn⟩; rw [(hn n rfl).trans HNN.out]; clear hn; simp only [needV, Option.isSome_some]; have hq := (hb.fr0 (hf1.alloc (.cells #[.int .i64 a, .int .i64 b, .int .i64 c, .int .i64 d] 58))).cell))
      go_ret2
      exact ⟨_, rfl, rfl, ((HF0.out.trans0 hf1).alloc _).trans0 hf4⟩
set_option maxHeartbeats 8000000 in
theorem Labels_yes {W : World} {kind : Int} (hk : (Lit.int .i64 kind).wf = true) {A : Option Addr} {cp : Nat} {xs : List Int} (h : IntsAt W A xs) (hp : Plain A xs.length cp) (hcp : xs.length ≤ cp) (hsm : xs.length ≤ 1000) {l : List Int} (hyes : labelsP kind xs = some l) :
    Calls Try.prog 11 #[.int .i64 kind, .slice A xs.length cp] W (Rets (YesPost W l)) := by
  have hb := Box.new W 23 (.slice A xs.length cp)
  have hF0 : Fr0 W (W.alloc (.cells #[.slice A xs.length cp] 23)) := fr_alloc _ _ _
  have HX := Lib.hid (h.fr0 hF0)
  have HF0 := Lib.hid hF0
  have HN := Lib.hid (Needs_is (W := W.alloc (.cells #[.slice A xs.length cp] 23)) hk)
  clear h hF0
  unfold NeedPost at HN
  unfold labelsP at hyes
  cases hK : needK kind with
  | none => rw [hK] at hyes; cases hyes
  | some n =>
    rw [hK] at HN hyes
    simp only at hyes
    clear hK
    obtain ⟨a, b, c, d, hn, hcan, hl2, hll⟩ : ∃ a b c d : Int, nV n = needV a b c d ∧ canI a b c d 0 xs = true ∧ 2 ≤ xs.length ∧ (stL a b c d xs xs.length).1 = l := by
      refine ⟨_, _, _, _, rfl, ?_⟩
      by_cases hc : xs.length < 2 ∨ canN n 0 xs = false
      · rw [if_pos hc] at hyes; cases hyes
      · rw [if_neg hc] at hyes
        simp at hc
        exact ⟨hc.2, hc.1, by cases hyes; rfl⟩
    have HNN := Lib.hid hn
    have HL := Lib.hid hll
    have h2' : ¬ (xs.length : Int) < 2 := by omega
    have HC : ∀ w, Fr0 (W.alloc (.cells #[.slice A xs.length cp] 23)) w → Hid (Calls Try.prog 23 #[needV a b c d, .int .i64 0, .slice A xs.length cp] w (Rets (SamePost true w))) := fun w hw => Lib.hid (hcan ▸ Can_is (cp := cp) (had := 0) (HX.out.fr0 hw) (by omega) (by omega))
    have HC2 := Lib.hid HC
    simp only [needV] at HC2
    clear HC hcan hn hyes hll
    go_enter Try.func11, Try.ntmps11
    go_wp2_with (first | (go_at_call 23; refine (HC2.out _ (hf1.alloc _)).out.mono ?_; rintro e w4 ⟨_, rfl, rfl, hf4⟩; have hq4 := ((hb.fr0 (hf1.alloc (.cells #[.int .i64 a, .int .i64 b, .int .i64 c, .int .i64 d] 58))).fr0 hf4).cell; have hqa := (((hb.fr0 (hf1.alloc (.cells #[.int .i64 a, .int .i64 b, .int .i64 c, .int .i64 d] 58))).fr0 hf4).fr0 (fr_alloc _ w4 (.cells #[.int .i64 0] 3))).cell) | (go_at_call 22; refine HN.out.mono ?_; rintro e w1 ⟨_, rfl, hf1, a', b', c', d', rfl, hn⟩; rw [(hn n rfl).trans HNN.out]; clear hn; simp only [needV, Option.isSome_some]; have hq := (hb.fr0 (hf1.alloc (.cells #[.int .i64 a, .int .i64 b, .int .i64 c, .int .i64 d] 58))).cell))
    have HCP := Lib.hid (And.intro hp hcp)
    clear hp hcp hq hq4 hqa HC2 HN HNN
    have h4a := (FourB.new w1 a b c d).fr0 hf4
    have hb4 := (hb.fr0 (hf1.alloc (.cells #[.int .i64 a, .int .i64 b, .int .i64 c, .int .i64 d] 58))).fr0 hf4
    have HF4 : Hid (Fr0 (W.alloc (.cells #[.slice A xs.length cp] 23)) w4) := Lib.hid ((hf1.alloc _).trans0 hf4)
    have s0 := hf1.size
    have s1 := hf4.size
    rw [World.size_alloc] at s0 s1
    clear hf1 hf4 hb
    obtain ⟨bq, hbq⟩ : ∃ bq, bq = W.heap.size := ⟨_, rfl⟩
    obtain ⟨bn, hbn⟩ : ∃ bn, bn = w1.heap.size := ⟨_, rfl⟩
    have HB : Hid (bq = W.heap.size ∧ bn = w1.heap.size) := Lib.hid ⟨hbq, hbn⟩
    rw [← hbq] at hb4 s0 ⊢
    rw [← hbn] at h4a s0 s1 ⊢
    clear hbq hbn
    obtain ⟨w5, hw5⟩ : ∃ w5, w5 = w4.alloc (.cells #[.int .i64 0] 3) := ⟨_, rfl⟩
    have F45 : Fr0 w4 w5 := by rw [hw5]; exact fr_alloc _ _ _
    have s5 : w5.heap.size = w4.heap.size + 1 := by rw [hw5, World.size_alloc]
    have hb5 : Box w5 w4.heap.size 3 (.int .i64 (0 : Nat)) := by rw [hw5]; exact Box.new _ _ _
    rw [← hw5]
    clear hw5
    have h4b := h4a.fr0 F45
    have hbq5 := hb4.fr0 F45
    have HF5 := Lib.hid (HF4.out.trans0 F45)
    clear h4a hb4 F45 HF4
    obtain ⟨bh, hbh⟩ : ∃ bh, bh = w4.heap.size := ⟨_, rfl⟩
    rw [← hbh] at s1 s5 hb5 ⊢
    have HBH := Lib.hid hbh
    clear hbh
    obtain ⟨i0, hi, hz0, hz1, hz2⟩ := info_parts info_int
    go_loopw [9, 10, 11, 12, 13, 14, 35] (fun v9 v10 v11 v12 v13 v14 v35 wr => ∃ (k had : Nat) (L : List Int), k ≤ xs.length ∧ v35 = .int .i64 k ∧ Hid (stL a b c d xs k = (L, had)) ∧ had ≤ k ∧ Hid (L.length = k) ∧ Fr (fun j => j = bh) w5 wr ∧ Box wr bh 3 (.int .i64 had) ∧ Hid (wr.ownsRow (bh + 1) 3 1 v9 k (intsI L))) (fun _ _ _ _ _ _ v35 _ => xs.length - (intOf v35).toNat)
    case atStart => exact ⟨0, 0, [], by omega, rfl, Lib.hid rfl, by omega, Lib.hid rfl, Fr.refl _ _, hb5, Lib.hid (own_nil _ _ _ _)⟩
    case round =>
      obtain ⟨k, had, L, hk2, rfl, HST, hhk, HLL, hfr, hbh2, HO⟩ := hrel
      obtain ⟨A9, c9, rfl⟩ := own_form HO.out
      by_cases hlt : k < xs.length
      · have hlt' : (k : Int) < (xs.length : Int) := by omega
        have HFW : Hid (Fr0 (W.alloc (.cells #[.slice A xs.length cp] 23)) wr) := Lib.hid (HF5.out.trans hfr (fun j hj e => absurd e (by have := HB.out.1; rw [World.size_alloc] at hj; omega)))
        have h4r := h4b.fr hfr (by omega)
        have hbqr := hbq5.fr hfr (by omega)
        have hxr := HX.out.fr0 HFW.out
        obtain ⟨bx, ox, rfl, hc⟩ := hxr.at_ hlt
        have hsr := hfr.size
        generalize hm : xs.getD k 0 = m at hc
        have HM := Lib.hid hm
        clear hm
        have F6 : Fr0 wr ((wr.alloc (.cells #[.int .i64 k] 3)).alloc (.cells #[.int .i64 m] 3)) := (fr_alloc _ _ _).alloc _
        have hK6 : LabK (wr.heap.size + 1) bn bh bq wr.heap.size m a b c d had k (some ⟨bx, ox, none⟩) cp xs ((wr.alloc (.cells #[.int .i64 k] 3)).alloc (.cells #[.int .i64 m] 3)) :=
          ⟨by have := Box.new (wr.alloc (.cells #[.int .i64 k] 3)) 3 (.int .i64 m); rwa [World.size_alloc] at this, h4r.fr0 F6, hbh2.fr0 F6, hbqr.fr0 F6, (Box.new wr 3 (.int .i64 k)).fr0 (fr_alloc _ _ _), hxr.fr0 F6⟩
        obtain ⟨i, hi3, hmax, hpick⟩ := pick_idx (labB m a b c d had (xs.drop (k + 1)))
        obtain ⟨r, hr⟩ : ∃ r, idxFI (labB m a b c d had (xs.drop (k + 1))) [1, 2, 4] = r := ⟨_, rfl⟩
        rw [hr] at hmax
        obtain ⟨x, hx⟩ : ∃ x, pickL (labB m a b c d had (xs.drop (k + 1))) = x := ⟨_, rfl⟩
        rw [hx] at hpick
        have HST2 : Hid (stL a b c d xs (k + 1) = (L ++ [x], had + if (x == b) = true then 1 else 0)) := Lib.hid (by simp only [stL, HST.out, HM.out, hx])
        have HIx : ∀ w g, Fr0 ((wr.alloc (.cells #[.int .i64 k] 3)).alloc (.cells #[.int .i64 m] 3)) w → IntsAt w (some ⟨g, 0, none⟩) [1, 2, 4] → Hid (Calls Try.prog 26 #[.slice (some ⟨g, 0, none⟩) 3 3, .func (.func 24) #[] #[.pointer (some ⟨wr.heap.size + 1, 0, none⟩), .pointer (some ⟨bn, 0, none⟩), .pointer (some ⟨bh, 0, none⟩), .pointer (some ⟨bq, 0, none⟩), .pointer (some ⟨wr.heap.size, 0, none⟩)]] w (Rets (IdxPostI r w))) := fun w g hw hg =>
          Lib.hid (labs_idx HCP.out.1 HCP.out.2 hlt (by omega) (by omega) hr hg (hK6.fr0 hw))
        have HIx2 := Lib.hid HIx
        have HK6 := Lib.hid hK6
        have HHR := Lib.hid hr
        have HHX := Lib.hid hx
        have HPI := Lib.hid hpick
        have HF6 := Lib.hid F6
        have hi3' : (i : Int) < 3 := by omega
        clear HIx hK6 hr hx hpick h4r hbqr F6 hxr
        have HOW1 : Hid (∀ w8, Fr0 wr w8 → ∀ u o, ((w8.setCell ⟨bh, 0, none⟩ u).alloc o).ownsRow (bh + 1) 3 1 (.slice A9 k c9) k (intsI L)) := Lib.hid (fun w8 f u o => own_fr0 (own_fr (own_fr0 HO.out f) (fr_setCell (S := fun j => j = bh) _ _ _ (fun _ => rfl)) (fun q hq e => own_old HO.out (k := bh) (by omega) (e ▸ hq))) (fr_alloc _ _ _))
        have HOW0 : Hid (∀ w8, Fr0 wr w8 → ∀ o, (w8.alloc o).ownsRow (bh + 1) 3 1 (.slice A9 k c9) k (intsI L)) := Lib.hid (fun w8 f o => own_fr0 (own_fr0 HO.out f) (fr_alloc _ _ _))
        have HCN : Hid (∀ (w8 : World) (u : Value) (j : Nat) (v : Value), [Value.int .i64 x][j]? = some v → ((w8.setCell ⟨bh, 0, none⟩ u).alloc (.cells #[.int .i64 x] 3)).cell? ((⟨w8.heap.size, 0, none⟩ : Addr).add j) = some v) := Lib.hid (fun w8 u => by
          have := cell_one_new (w8.setCell ⟨bh, 0, none⟩ u) (.int .i64 x) 3
          rwa [World.size_setCell] at this)
        have hszr : bh + 1 ≤ wr.heap.size := by omega
        cases hxb : (x == b) with
        | true =>
          rw [hxb] at HST2
          go_wp2_with (first
          | (go_at_call 26; refine (HIx2.out _ _ hf7 h7).out.mono ?_; rintro e w8 ⟨_, rfl, rfl, hf8⟩; obtain ⟨_, _, ⟨⟩, hg8⟩ := (h7.fr0 hf8).at_ (k := i) hi3; rw [HPI.out, Nat.zero_add] at hg8; have hK8 := HK6.out.fr0 (hf7.trans0 hf8); have hk8 := hK8.n.c1; have hh8 := hK8.h.cell; have hz8 := hK8.h.frozen; have HF8 := Lib.hid (HF6.out.trans0 (hf7.trans0 hf8)); clear hK8)
          | (go_at_call 25; refine (single_g _).mono ?_; rintro e w7 ⟨_, rfl, g, rfl, hf7, hsz7, h7⟩)
            | (at_builtin; go_loud (refine wpList_append_own _ rfl _ _ 23 rfl (bh + 1) 3 i0 (.int .i64 0) 1 8 Try.underlying23 hi hz0 hz1 hz2 rfl (by decide) _ _ _ rfl (HOW1.out _ HF8.out _ _) _ 1 1 [.int .i64 x] rfl rfl (HCN.out _ _) (by simp [Value.oneCell']) (by unfold maxLen; omega) (by omega) (by have := HF8.out.size; simp; omega) ?_; intro v' w2 hown' hgrow _)))
          go_roundw
          case rel =>
            have hgf := append_fr0 (HOW1.out _ HF8.out _ _) hgrow
            have F := ((((hfr.trans0 HF8.out).setCell ⟨bh, 0, none⟩ (.int .i64 ((had : Int) + 1)) (fun _ => rfl)).alloc (.cells #[.int .i64 x] 3)).trans hgf (fun j hj e => absurd e (own_old HO.out (by omega))))
            have hbx : Box w2 bh 3 (.int .i64 ((had : Int) + 1)) := (((hbh2.fr0 HF8.out).set (.int .i64 ((had : Int) + 1))).fr0 (fr_alloc _ _ _)).fr hgf (own_old HO.out (by omega))
            rw [intsI_snoc] at hown'
            exact ⟨k + 1, had + 1, L ++ [x], by omega, by go_num, Lib.hid (HST2.out.trans (by simp)), by omega, Lib.hid (by simp [HLL.out]), F, hbx, Lib.hid hown'⟩
          case measure => simp [intOf]; omega
        | false =>
          rw [hxb] at HST2
          go_wp2_with (first
          | (go_at_call 26; refine (HIx2.out _ _ hf7 h7).out.mono ?_; rintro e w8 ⟨_, rfl, rfl, hf8⟩; obtain ⟨_, _, ⟨⟩, hg8⟩ := (h7.fr0 hf8).at_ (k := i) hi3; rw [HPI.out, Nat.zero_add] at hg8; have hK8 := HK6.out.fr0 (hf7.trans0 hf8); have hk8 := hK8.n.c1; have hh8 := hK8.h.cell; have hz8 := hK8.h.frozen; have HF8 := Lib.hid (HF6.out.trans0 (hf7.trans0 hf8)); clear hK8)
          | (go_at_call 25; refine (single_g _).mono ?_; rintro e w7 ⟨_, rfl, g, rfl, hf7, hsz7, h7⟩)
            | (at_builtin; go_loud (refine wpList_append_own _ rfl _ _ 23 rfl (bh + 1) 3 i0 (.int .i64 0) 1 8 Try.underlying23 hi hz0 hz1 hz2 rfl (by decide) _ _ _ rfl (HOW0.out _ HF8.out _) _ 1 1 [.int .i64 x] rfl rfl (cell_one_new _ _ _) (by simp [Value.oneCell']) (by unfold maxLen; omega) (by omega) (by have := HF8.out.size; simp; omega) ?_; intro v' w2 hown' hgrow _)))
          go_roundw
          case rel =>
            have hgf := append_fr0 (HOW0.out _ HF8.out _) hgrow
            have F := (((hfr.trans0 HF8.out).alloc (.cells #[.int .i64 x] 3)).trans hgf (fun j hj e => absurd e (own_old HO.out (by omega))))
            have hbx : Box w2 bh 3 (.int .i64 had) := ((hbh2.fr0 HF8.out).fr0 (fr_alloc _ _ _)).fr hgf (own_old HO.out (by omega))
            rw [intsI_snoc] at hown'
            exact ⟨k + 1, had, L ++ [x], by omega, by go_num, Lib.hid (HST2.out.trans (by simp)), by omega, Lib.hid (by simp [HLL.out]), F, hbx, Lib.hid hown'⟩
          case measure => simp [intOf]; omega
      · have hke : k = xs.length := by omega
        subst hke
        have hge : ¬ (xs.length : Int) < (xs.length : Int) := by omega
        go_wp2_with fail
        go_ret2
        have hL : L = l := by have := HL.out; rw [HST.out] at this; exact this
        subst hL
        have h9 := HO.out
        have h8 := HLL.out
        have hB := HBH.out
        have hB2 := HB.out.1
        have FW := HF0.out.trans0 HF5.out
        have hs9 := HF0.out.size
        refine ⟨_, rfl, FW.trans hfr (fun j hj e => absurd e (by have h1 := HF5.out.size; have h2 := HB.out.1; rw [World.size_alloc] at h1; omega)), A9, c9, by rw [h8]; rfl, ?_⟩
        rw [h8]
        exact own_baseI h9 (by omega)
end Go.Proofs.Ytidpmbbkpclccaa
