/- The program's store: what is seen, all there is. -/
import Derived.Test.YtekigojbkhjdbaaStore
namespace Go.Proofs.Ytekigojbkhjdbaa
set_option linter.all false
open Go.RowKit Go.Maps
set_option maxRecDepth 100000

def opnP (id key : Int) (x : V4I) : Bool := x.i == id && x.k == key
/-- What waits, where the slice says. -/
theorem opn_at {W : World} {A : Option Addr} {Q : List V4I} (h : TupsAt wtE 3 W A (Q.map wtOf)) {k : Nat} (hk : k < Q.length) : ∃ b o x, A = some ⟨b, o, none⟩ ∧ Q.take (k + 1) = Q.take k ++ [x] ∧ x ∈ Q ∧
    W.cell? ⟨b, o + k * 3, none⟩ = some (.int .i64 x.i) ∧ W.cell? ⟨b, o + k * 3 + 1, none⟩ = some (.int .i64 x.k) ∧ W.cell? ⟨b, o + k * 3 + 2, none⟩ = some (.int .i64 x.v) := by
  have hk' : k < (Q.map wtOf).length := by simpa using hk
  obtain ⟨b, o, e, hc⟩ := h.at_ hk'
  have e2 : (Q.map wtOf)[k] = wtOf Q[k] := by simp
  rw [e2] at hc
  exact ⟨b, o, Q[k], e, take_succ_T Q k hk, List.getElem_mem hk, hc 0 (by omega), hc 1 (by omega), hc 2 (by omega)⟩
theorem StoreIs.tups {W : World} {B c b n co now : Nat} {Ao : Option Addr} {m : Int → Option Value} {P Q : List V4I} (h : StoreIs W B c b n Ao co m P Q now) (hQ : Q.length ≤ 100000) : TupsAt wtE 3 W Ao (Q.map wtOf) :=
  own_tups (c := co) (B := B) (e := 107) wtE_len (by simpa using h.opn) (by simp; omega)
section
variable {W : World} {B c b n co now : Nat} {Ao : Option Addr} {m : Int → Option Value} {P Q : List V4I}

set_option maxHeartbeats 4000000 in
theorem Seen_is (h : StoreIs W B c b n Ao co m P Q now) (hP : P.length ≤ 100000) (hQ : Q.length ≤ 100000) {id key upto : Int} (hk : wfI key) :
    Calls Try.prog 31 #[.pointer (some ⟨c, 0, none⟩), .int .i64 id, .int .i64 key, .int .i64 upto] W (Rets (IListPost W (selV (comP key upto) (fun x => x.v) P ++ selV (opnP id key) (fun x => x.v) Q))) := by
  obtain ⟨i0, hi, hz0, hz1, hz2⟩ := info_parts info_int
  have HI := Lib.hid (sis_is h)
  have HC := Lib.hid (committed_is h hP hk upto)
  have HH := Lib.hid h
  have HX := Lib.hid (h.tups hQ)
  have c2 := h.c2
  have hCl : (selV (comP key upto) (fun x => x.v) P).length ≤ 100000 := Nat.le_trans (selV_len _ _ _) hP
  generalize hRR : selV (comP key upto) (fun x => x.v) P = R0 at HC hCl ⊢
  have HRR := Lib.hid hRR
  clear h hRR
  go_enter Try.func31, Try.ntmps31
  go_wp2_with (first | (go_at_call 68; refine (HI.out).mono ?_; rintro e w' ⟨rfl, rfl⟩) | (go_at_call 69; refine (HC.out).mono ?_; rintro e w1 ⟨v1, rfl, hf1, ho1⟩; obtain ⟨A1, c1, rfl⟩ := own_form ho1; have k1 := (HH.out.fr0 hf1).c1))
  go_loopw [9, 24] (fun v5 v6 wr => ∃ (k : Nat) (r : List Int), k ≤ Q.length ∧ v6 = .int .i64 k ∧ Hid (r = R0 ++ selV (opnP id key) (fun x => x.v) (Q.take k)) ∧ r.length ≤ R0.length + k ∧ Fr0 W wr ∧ wr.ownsRow W.heap.size 3 1 v5 r.length (intsI r)) (fun _ v6 _ => Q.length - (intOf v6).toNat)
  case atStart => exact ⟨0, R0, by omega, rfl, Lib.hid (by simp [selV]), by omega, hf1, ho1⟩
  case round =>
    clear ho1 hf1 k1
    obtain ⟨k, r, hk, rfl, HR, hrl, hf, ho⟩ := hrel
    have hsz := hf.size
    obtain ⟨A3, c3, e3⟩ := own_form ho
    subst e3
    by_cases hlt : k < Q.length
    · obtain ⟨q, o, x, rfl, he, _, k0, k1, k2⟩ := opn_at (HX.out.fr0 hf) hlt
      have hlt' : (k : Int) < (Q.length : Int) := by omega
      have hT := selV_take (opnP id key) (fun x => x.v) Q k he
      by_cases h1 : x.i = id
      · have d1 : (x.i == id) = true := by simpa using h1
        by_cases h2 : x.k = key
        · have d2 : (x.k == key) = true := by simpa using h2
          have hin : opnP id key x = true := by simp [opnP, h1, h2]
          clear h1 h2
          rw [if_pos hin] at hT
          have HT := Lib.hid hT
          clear hT hin
          go_wp2_with (at_builtin; refine wpList_append_own _ rfl _ _ 41 rfl W.heap.size 3 i0 (.int .i64 0) 1 8 Try.underlying41 hi hz0 hz1 hz2 rfl (by decide) _ _ _ rfl (own_fr0 ho ((fr_alloc _ _ _).alloc _)) _ 1 1 [.int .i64 x.v] rfl rfl (cells_newN _ [.int .i64 x.v] _ (by simp)) (by simp [Value.oneCell']) (by unfold maxLen; omega) (by omega) (by simp; omega) ?_; intro v' w2 hown' hgrow _)
          go_roundw
          case rel =>
            rw [intsI_snoc] at hown'
            exact ⟨k + 1, r ++ [x.v], by omega, by go_num, Lib.hid (by rw [HT.out, ← List.append_assoc, ← HR.out]), by simp; omega, (hf.trans0 ((fr_alloc _ _ _).alloc _)).trans (append_fr0 (own_fr0 ho ((fr_alloc _ _ _).alloc _)) hgrow) (fun j hj e => own_old ho hj e), by simpa using hown'⟩
          case measure => simp [intOf]; omega
        · have d2 : (x.k == key) = false := by simpa using h2
          have hin : opnP id key x = false := by simp [opnP, h2]
          clear h1
          rw [if_neg (by simp [hin]), List.append_nil] at hT
          have HT := Lib.hid hT
          clear hT hin
          go_wp2_with fail
          go_roundw
          case rel => exact ⟨k + 1, r, by omega, by go_num, Lib.hid (by rw [HT.out]; exact HR.out), by omega, hf.alloc _, own_fr0 ho (fr_alloc _ _ _)⟩
          case measure => simp [intOf]; omega
      · have d1 : (x.i == id) = false := by simpa using h1
        have hin : opnP id key x = false := by simp [opnP, h1]
        rw [if_neg (by simp [hin]), List.append_nil] at hT
        have HT := Lib.hid hT
        clear hT hin
        go_wp2_with fail
        go_roundw
        case rel => exact ⟨k + 1, r, by omega, by go_num, Lib.hid (by rw [HT.out]; exact HR.out), by omega, hf.alloc _, own_fr0 ho (fr_alloc _ _ _)⟩
        case measure => simp [intOf]; omega
    · have hke : k = Q.length := by omega
      have hR := HR.out
      rw [hke, List.take_of_length_le (Nat.le_refl _)] at hR
      clear HR
      go_wp2_with fail
      go_ret
      refine ⟨_, rfl, hf, ?_⟩
      rw [← hR]; exact ho

set_option maxHeartbeats 4000000 in
theorem All_is (h : StoreIs W B c b n Ao co m P Q now) (hP : P.length ≤ 100000) (hQ : Q.length ≤ 100000) {key : Int} (hk : wfI key) :
    Calls Try.prog 33 #[.pointer (some ⟨c, 0, none⟩), .int .i64 key] W (Rets (IListPost W (selV (comP key (now : Int)) (fun x => x.v) P ++ selV (keyP key) (fun x => x.v) Q))) := by
  obtain ⟨i0, hi, hz0, hz1, hz2⟩ := info_parts info_int
  have HI := Lib.hid (sis_is h)
  have HC := Lib.hid (committed_is h hP hk (now : Int))
  have HH := Lib.hid h
  have HX := Lib.hid (h.tups hQ)
  have c2 := h.c2
  have hCl : (selV (comP key (now : Int)) (fun x => x.v) P).length ≤ 100000 := Nat.le_trans (selV_len _ _ _) hP
  generalize hRR : selV (comP key (now : Int)) (fun x => x.v) P = R0 at HC hCl ⊢
  have HRR := Lib.hid hRR
  clear h hRR
  go_enter Try.func33, Try.ntmps33
  go_wp2_with (first | (go_at_call 68; refine (HI.out).mono ?_; rintro e w' ⟨rfl, rfl⟩) | (go_at_call 69; refine (HC.out).mono ?_; rintro e w1 ⟨v1, rfl, hf1, ho1⟩; obtain ⟨A1, c1, rfl⟩ := own_form ho1; have k1 := (HH.out.fr0 hf1).c1))
  go_loopw [5, 23] (fun v5 v6 wr => ∃ (k : Nat) (r : List Int), k ≤ Q.length ∧ v6 = .int .i64 k ∧ Hid (r = R0 ++ selV (keyP key) (fun x => x.v) (Q.take k)) ∧ r.length ≤ R0.length + k ∧ Fr0 W wr ∧ wr.ownsRow W.heap.size 3 1 v5 r.length (intsI r)) (fun _ v6 _ => Q.length - (intOf v6).toNat)
  case atStart => exact ⟨0, R0, by omega, rfl, Lib.hid (by simp [selV]), by omega, hf1, ho1⟩
  case round =>
    clear ho1 hf1 k1
    obtain ⟨k, r, hk, rfl, HR, hrl, hf, ho⟩ := hrel
    have hsz := hf.size
    obtain ⟨A3, c3, e3⟩ := own_form ho
    subst e3
    by_cases hlt : k < Q.length
    · obtain ⟨q, o, x, rfl, he, _, k0, k1, k2⟩ := opn_at (HX.out.fr0 hf) hlt
      have hlt' : (k : Int) < (Q.length : Int) := by omega
      have hT := selV_take (keyP key) (fun x => x.v) Q k he
      by_cases h2 : x.k = key
      · have d2 : (x.k == key) = true := by simpa using h2
        have hin : keyP key x = true := by simp [keyP, h2]
        clear h2
        rw [if_pos hin] at hT
        have HT := Lib.hid hT
        clear hT hin
        go_wp2_with (at_builtin; refine wpList_append_own _ rfl _ _ 41 rfl W.heap.size 3 i0 (.int .i64 0) 1 8 Try.underlying41 hi hz0 hz1 hz2 rfl (by decide) _ _ _ rfl (own_fr0 ho ((fr_alloc _ _ _).alloc _)) _ 1 1 [.int .i64 x.v] rfl rfl (cells_newN _ [.int .i64 x.v] _ (by simp)) (by simp [Value.oneCell']) (by unfold maxLen; omega) (by omega) (by simp; omega) ?_; intro v' w2 hown' hgrow _)
        go_roundw
        case rel =>
          rw [intsI_snoc] at hown'
          exact ⟨k + 1, r ++ [x.v], by omega, by go_num, Lib.hid (by rw [HT.out, ← List.append_assoc, ← HR.out]), by simp; omega, (hf.trans0 ((fr_alloc _ _ _).alloc _)).trans (append_fr0 (own_fr0 ho ((fr_alloc _ _ _).alloc _)) hgrow) (fun j hj e => own_old ho hj e), by simpa using hown'⟩
        case measure => simp [intOf]; omega
      · have d2 : (x.k == key) = false := by simpa using h2
        have hin : keyP key x = false := by simp [keyP, h2]
        rw [if_neg (by simp [hin]), List.append_nil] at hT
        have HT := Lib.hid hT
        clear hT hin
        go_wp2_with fail
        go_roundw
        case rel => exact ⟨k + 1, r, by omega, by go_num, Lib.hid (by rw [HT.out]; exact HR.out), by omega, hf.alloc _, own_fr0 ho (fr_alloc _ _ _)⟩
        case measure => simp [intOf]; omega
    · have hke : k = Q.length := by omega
      have hR := HR.out
      rw [hke, List.take_of_length_le (Nat.le_refl _)] at hR
      clear HR
      go_wp2_with fail
      go_ret
      refine ⟨_, rfl, hf, ?_⟩
      rw [← hR]; exact ho

theorem Seen_none {v : Value} (h : NoStore W v) (id key upto : Int) :
    Calls Try.prog 31 #[v, .int .i64 id, .int .i64 key, .int .i64 upto] W fun e w' => e = .returned (.slice none 0 0) ∧ W = w' := by
  have HI := Lib.hid (sis_none h)
  clear h
  go_enter Try.func31, Try.ntmps31
  go_wp2_with (go_at_call 68; refine (HI.out).mono ?_; rintro e w' ⟨rfl, rfl⟩)
  go_ret
  exact ⟨rfl, rfl⟩

theorem All_none {v : Value} (h : NoStore W v) (key : Int) :
    Calls Try.prog 33 #[v, .int .i64 key] W fun e w' => e = .returned (.slice none 0 0) ∧ W = w' := by
  have HI := Lib.hid (sis_none h)
  clear h
  go_enter Try.func33, Try.ntmps33
  go_wp2_with (go_at_call 68; refine (HI.out).mono ?_; rintro e w' ⟨rfl, rfl⟩)
  go_ret
  exact ⟨rfl, rfl⟩

theorem Pending_none {v : Value} (h : NoStore W v) (id : Int) :
    Calls Try.prog 37 #[v, .int .i64 id] W fun e w' => e = .returned (.slice none 0 0) ∧ W = w' := by
  have HI := Lib.hid (sis_none h)
  clear h
  go_enter Try.func37, Try.ntmps37
  go_wp2_with (go_at_call 68; refine (HI.out).mono ?_; rintro e w' ⟨rfl, rfl⟩)
  go_ret
  exact ⟨rfl, rfl⟩

end
end Go.Proofs.Ytekigojbkhjdbaa
