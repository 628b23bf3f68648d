/- The program's store: what it is; what was committed. -/
import Derived.Test.YtekigojbkhjdbaaRef40E
import Derived.Test.YtekigojbkhjdbaaWait
import Derived.Test.YtekigojbkhjdbaaStam
import Derived.Test.YtekigojbkhjdbaaMaps
import Derived.Test.YtekigojbkhjdbaaSetsD
namespace Go.Proofs.Ytekigojbkhjdbaa
set_option linter.all false
open Go.RowKit Go.Maps
set_option maxRecDepth 100000

abbrev WtI := ArcIW
abbrev StI := ArcIS
def wtE (x : WtI) : List Int := [x.f, x.t, x.m]
def stE (x : StI) : List Int := [x.f, x.t]
theorem wtE_len (x : WtI) : (wtE x).length = 3 := rfl
theorem stE_len (x : StI) : (stE x).length = 2 := rfl
def wtOf (x : V4I) : WtI := ⟨x.i, x.k, x.v⟩
def stOf (x : V4I) : StI := ⟨x.v, x.s⟩
def rowP (P : List V4I) (x : Int) : List StI := (P.filter (keyP x)).map stOf
theorem zero_sts : ∀ w : World, (zeroValue 111).run Try.prog w = .ok (.slice none 0 0) w := fun w => by kernel_rfl
theorem stK : KeyEnc Try.prog 3 (fun a : Int => .int .i64 a) (fun a => .int .i64 a) (fun a => wfI a) := intKey Try.underlying3
abbrev SMap (W : World) (b n : Nat) (m : Int → Option Value) : Prop := MapIs Try.prog 3 (fun a : Int => Lit.int .i64 a) (fun a => wfI a) W b n m
def POk (now : Nat) (P : List V4I) : Prop := ∀ x ∈ P, 1 ≤ x.s ∧ x.s ≤ (now : Int) ∧ wfI x.k
def QOk (Q : List V4I) : Prop := ∀ x ∈ Q, x.s = 0 ∧ wfI x.k
/-- A store: its committed values P, its pending ones Q, how many commits. -/
structure StoreIs (W : World) (B c b n : Nat) (Ao : Option Addr) (co : Nat) (m : Int → Option Value) (P Q : List V4I) (now : Nat) : Prop where
  box : W.heap[c]? = some (.cells #[.map (some b), .slice Ao Q.length co, .int .i64 (now : Int)] 74 (0, 0))
  opn : W.ownsRow B 107 3 (.slice Ao Q.length co) Q.length (tupCells wtE (Q.map wtOf))
  map : SMap W b n m
  rows : ∀ x, wfI x → (m x = none ∧ rowP P x = []) ∨ ∃ v, m x = some v ∧ W.ownsRow B 113 2 v (rowP P x).length (tupCells stE (rowP P x))
  apart : ∀ x y u v, wfI x → wfI y → x ≠ y → m x = some u → m y = some v → Apart u v
  bc : B ≤ c
  bb : B ≤ b
  pok : POk now P
  qok : QOk Q
section
variable {W W' : World} {B c b n co now : Nat} {Ao : Option Addr} {m : Int → Option Value} {P Q : List V4I}
theorem StoreIs.c0 (h : StoreIs W B c b n Ao co m P Q now) : W.cell? ⟨c, 0, none⟩ = some (.map (some b)) := by have := h.box; simp [World.cell?, this]
theorem StoreIs.c1 (h : StoreIs W B c b n Ao co m P Q now) : W.cell? ⟨c, 1, none⟩ = some (.slice Ao Q.length co) := by have := h.box; simp [World.cell?, this]
theorem StoreIs.c2 (h : StoreIs W B c b n Ao co m P Q now) : W.cell? ⟨c, 2, none⟩ = some (.int .i64 (now : Int)) := by have := h.box; simp [World.cell?, this]
theorem StoreIs.fz (h : StoreIs W B c b n Ao co m P Q now) (o : Nat) : W.frozen? ⟨c, o, none⟩ = false := by have := h.box; simp [World.frozen?, this]
theorem StoreIs.fr0 (h : StoreIs W B c b n Ao co m P Q now) (f : Fr0 W W') : StoreIs W' B c b n Ao co m P Q now :=
  ⟨f.heap' h.box, own_fr0 h.opn f, h.map.fr0 f, fun x hx => (h.rows x hx).imp id (fun ⟨v, e, ho⟩ => ⟨v, e, own_fr0 ho f⟩), h.apart, h.bc, h.bb, h.pok, h.qok⟩
theorem StoreIs.lt (h : StoreIs W B c b n Ao co m P Q now) : c < W.heap.size := heap_lt h.box
/-- What lies at a key. -/
theorem StoreIs.row (h : StoreIs W B c b n Ao co m P Q now) {x : Int} (hx : wfI x) : ∃ A2 c2, (m x).getD (.slice none 0 0) = .slice A2 (rowP P x).length c2 ∧ W.ownsRow B 113 2 (.slice A2 (rowP P x).length c2) (rowP P x).length (tupCells stE (rowP P x)) := by
  rcases h.rows x hx with ⟨e, e2⟩ | ⟨v, e, ho⟩
  · rw [e, e2]
    exact ⟨none, 0, rfl, own_nil _ _ _ _⟩
  · obtain ⟨A2, c2, rfl⟩ := own_form ho
    rw [e]
    exact ⟨A2, c2, rfl, ho⟩
end
/-- No store. -/
def NoStore (W : World) (v : Value) : Prop := v = .pointer none ∨ ∃ c, v = .pointer (some ⟨c, 0, none⟩) ∧ W.heap[c]? = some (.cells #[.map none, .slice none 0 0, .int .i64 0] 74 (0, 0))
theorem NoStore.fr0 {W W' : World} {v : Value} (h : NoStore W v) (f : Fr0 W W') : NoStore W' v := by
  rcases h with h | ⟨c, e, hb⟩
  · exact .inl h
  · exact .inr ⟨c, e, f.heap' hb⟩
theorem run_equalIn_maps {P : Program} (d t : Nat) {k e : Nat} (h : P.underlying t = some (.map k e)) (b : Nat) (w : World) : (Op.equalIn (d + 1) t (.map (some b)) (.map none)).run P w = .ok false w := by
  simp [Op.equalIn, run_underlying h]
theorem run_equalIn_mapsn {P : Program} (d t : Nat) {k e : Nat} (h : P.underlying t = some (.map k e)) (w : World) : (Op.equalIn (d + 1) t (.map none) (.map none)).run P w = .ok true w := by
  simp [Op.equalIn, run_underlying h]
theorem run_equal_maps {P : Program} (t : Nat) {k e : Nat} (h : P.underlying t = some (.map k e)) (b : Nat) (w : World) : (Op.equal t (.map (some b)) (.map none)).run P w = .ok false w := run_equalIn_maps 9999 t h b w
theorem run_equal_mapsn {P : Program} (t : Nat) {k e : Nat} (h : P.underlying t = some (.map k e)) (w : World) : (Op.equal t (.map none) (.map none)).run P w = .ok true w := run_equalIn_mapsn 9999 t h w
theorem run_neq_sm (w : World) (b : Nat) : (binOp .neq 71 (.map (some b)) (.map none)).run Try.prog w = .ok (.bool true) w := by
  simp only [binOp]
  simp [run_equal_maps _ Try.underlying71]
theorem run_neq_smn (w : World) : (binOp .neq 71 (.map none) (.map none)).run Try.prog w = .ok (.bool false) w := by
  simp only [binOp]
  simp [run_equal_mapsn _ Try.underlying71]
section
variable {W : World} {B c b n co now : Nat} {Ao : Option Addr} {m : Int → Option Value} {P Q : List V4I}
theorem sis_is (h : StoreIs W B c b n Ao co m P Q now) : Calls Try.prog 68 #[.pointer (some ⟨c, 0, none⟩)] W fun e w' => e = .returned (.bool true) ∧ W = w' := by
  have c0 := h.c0
  clear h
  have q := fun w => run_neq_sm w b
  go_enter Try.func68, Try.ntmps68
  go_wp2_with fail
  go_ret
  exact ⟨rfl, rfl⟩
theorem sis_none {v : Value} (h : NoStore W v) : Calls Try.prog 68 #[v] W fun e w' => e = .returned (.bool false) ∧ W = w' := by
  rcases h with rfl | ⟨c, rfl, hb⟩
  · go_enter Try.func68, Try.ntmps68
    go_wp2_with fail
    go_ret
    exact ⟨rfl, rfl⟩
  · have c0 : W.cell? ⟨c, 0, none⟩ = some (.map none) := by simp [World.cell?, hb]
    clear hb
    have q := run_neq_smn
    go_enter Try.func68, Try.ntmps68
    go_wp2_with fail
    go_ret
    exact ⟨rfl, rfl⟩
theorem SNow_is (h : StoreIs W B c b n Ao co m P Q now) : Calls Try.prog 30 #[.pointer (some ⟨c, 0, none⟩)] W fun e w' => e = .returned (.int .i64 (now : Int)) ∧ W = w' := by
  have c2 := h.c2
  have HI := Lib.hid (sis_is h)
  clear h
  go_enter Try.func30, Try.ntmps30
  go_wp2_with (go_at_call 68; refine (HI.out).mono ?_; rintro e w' ⟨rfl, rfl⟩)
  go_ret
  exact ⟨rfl, rfl⟩
theorem SNow_none {v : Value} (h : NoStore W v) : Calls Try.prog 30 #[v] W fun e w' => e = .returned (.int .i64 0) ∧ W = w' := by
  have HI := Lib.hid (sis_none h)
  clear h
  go_enter Try.func30, Try.ntmps30
  go_wp2_with (go_at_call 68; refine (HI.out).mono ?_; rintro e w' ⟨rfl, rfl⟩)
  go_ret
  exact ⟨rfl, rfl⟩
/-- Committed values of a key, up to a commit. -/
def comP (key upto : Int) (x : V4I) : Bool := x.k == key && decide (x.s ≤ upto)
def comS (upto : Int) (l : List StI) : List Int := (l.filter (fun x => decide (x.t ≤ upto))).map (·.f)
theorem comS_row (P : List V4I) (key upto : Int) : comS upto (rowP P key) = selV (comP key upto) (fun x => x.v) P := by
  unfold comS rowP selV
  rw [List.filter_map, List.map_map, List.filter_filter]
  congr 1
  · refine List.filter_congr (fun x _ => ?_)
    show (decide (x.s ≤ upto) && (x.k == key)) = ((x.k == key) && decide (x.s ≤ upto))
    cases (x.k == key) <;> cases decide (x.s ≤ upto) <;> rfl
theorem comS_take (upto : Int) (l : List StI) (k : Nat) {x : StI} (e : l.take (k + 1) = l.take k ++ [x]) : comS upto (l.take (k + 1)) = comS upto (l.take k) ++ (if x.t ≤ upto then [x.f] else []) := by
  rw [e, comS, List.filter_append, List.map_append]
  by_cases h : x.t ≤ upto <;> simp [comS, h]
theorem rowP_len (P : List V4I) (x : Int) : (rowP P x).length ≤ P.length := by simp [rowP, List.length_filter_le]
set_option maxHeartbeats 4000000 in
theorem committed_is (h : StoreIs W B c b n Ao co m P Q now) (hP : P.length ≤ 100000) {key : Int} (hk : wfI key) (upto : Int) :
    Calls Try.prog 69 #[.pointer (some ⟨c, 0, none⟩), .int .i64 key, .int .i64 upto] W (Rets (IListPost W (selV (comP key upto) (fun x => x.v) P))) := by
  obtain ⟨i0, hi, hz0, hz1, hz2⟩ := info_parts info_int
  have c0 := h.c0
  obtain ⟨A2, c2, hget, hrow⟩ := h.row hk
  have hrl := rowP_len P key
  have HX := Lib.hid (own_tups stE_len hrow (by omega))
  have HM := Lib.hid h.map
  have HE := Lib.hid (comS_row P key upto)
  clear h hrow
  generalize rowP P key = l at hget HX HE hrl
  go_enter Try.func69, Try.ntmps69
  go_wp2_with (at_lookup; refine wpList_look_m rfl _ _ _ rfl stK Try.underlying71 zero_sts HM.out rfl (y := key) hk rfl ?_; simp only [hget, if_false, Bool.false_eq_true])
  go_loopw [7, 17] (fun v5 v6 wr => ∃ (k : Nat) (r : List Int), k ≤ l.length ∧ v6 = .int .i64 k ∧ Hid (r = comS upto (l.take k)) ∧ r.length ≤ k ∧ Fr0 W wr ∧ wr.ownsRow W.heap.size 3 1 v5 r.length (intsI r)) (fun _ v6 _ => l.length - (intOf v6).toNat)
  case atStart => exact ⟨0, [], by omega, rfl, Lib.hid rfl, by simp, Fr.refl _ _, own_nil _ _ _ _⟩
  case round =>
    obtain ⟨k, r, hk, rfl, HR, hrl, hf, ho⟩ := hrel
    have hsz := hf.size
    obtain ⟨A3, c3, e3⟩ := own_form ho
    subst e3
    by_cases hlt : k < l.length
    · obtain ⟨q, o, rfl, hc⟩ := (HX.out.fr0 hf).at_ hlt
      have hlt' : (k : Int) < (l.length : Int) := by omega
      have he := take_succ_T l k hlt
      generalize l[k] = x at hc he
      have k0 : wr.cell? ⟨q, o + k * 2, none⟩ = some (.int .i64 x.f) := hc 0 (by omega)
      have k1 : wr.cell? ⟨q, o + k * 2 + 1, none⟩ = some (.int .i64 x.t) := hc 1 (by omega)
      have hT := comS_take upto l k he
      rw [← HR.out] at hT
      by_cases h1 : x.t ≤ upto
      · rw [if_pos h1] at hT
        have HT := Lib.hid hT
        clear hT hc
        go_wp2_with (at_builtin; refine wpList_append_own _ rfl _ _ 41 rfl W.heap.size 3 i0 (.int .i64 0) 1 8 Try.underlying41 hi hz0 hz1 hz2 rfl (by decide) _ _ _ rfl (own_fr0 ho ((fr_alloc _ _ _).alloc _)) _ 1 1 [.int .i64 x.f] rfl rfl (cells_newN _ [.int .i64 x.f] _ (by simp)) (by simp [Value.oneCell']) (by unfold maxLen; omega) (by omega) (by simp; omega) ?_; intro v' w2 hown' hgrow _)
        go_roundw
        case rel =>
          rw [intsI_snoc] at hown'
          exact ⟨k + 1, r ++ [x.f], by omega, by go_num, Lib.hid HT.out.symm, by simp; omega, (hf.trans0 ((fr_alloc _ _ _).alloc _)).trans (append_fr0 (own_fr0 ho ((fr_alloc _ _ _).alloc _)) hgrow) (fun j hj e => own_old ho hj e), by simpa using hown'⟩
        case measure => simp [intOf]; omega
      · rw [if_neg h1, List.append_nil] at hT
        have HT := Lib.hid hT
        have d1 : decide (x.t ≤ upto) = false := by simpa using h1
        clear hT hc
        go_wp2_with fail
        go_roundw
        case rel => exact ⟨k + 1, r, by omega, by go_num, Lib.hid HT.out.symm, by omega, hf.alloc _, own_fr0 ho (fr_alloc _ _ _)⟩
        case measure => simp [intOf]; omega
    · have hke : k = l.length := by omega
      have hR := HR.out
      rw [hke, List.take_of_length_le (Nat.le_refl _), HE.out] at hR
      clear HR
      go_wp2_with fail
      go_ret
      refine ⟨_, rfl, hf, ?_⟩
      rw [← hR]; exact ho
end
end Go.Proofs.Ytekigojbkhjdbaa
