/- RefFirst, RefFirstB, RefLeast, in one text. -/
import Derived.Test.YtdcjfpjpboafnaaDoorRefDist
import Derived.Test.YtdcjfpjpboafnaaDoorRefD
import Derived.Test.YtdcjfpjpboafnaaDoorMasks
import Derived.Deep.CutRange
namespace Go.Proofs.YtdcjfpjpboafnaaDoor
set_option linter.all false
attribute [local go_sem ↓] appendH_eq
open Go.RowKit
set_option maxRecDepth 100000

abbrev refM (n : Nat) (Mx : Nat → Nat → Int) : Nat → Nat → Int := fun u w => maskR n Mx (u : Int) (w : Int)
def outsD (n : Nat) (Mx : Nat → Nat → Int) (ws : List Int) (u : Nat) : List Nat := (elems n (outR n Mx (u : Int) (-1))).filter (fun w : Nat => decide ((w : Int) ∈ ws))
/-- What the document's search asks at the end. -/
def fitsQ (n : Nat) (Mx : Nat → Nat → Int) (a b c : Int) (r : List Nat) : Bool := match masksQ (maskR n Mx) (natI r.reverse) with
  | none => false
  | some ms => fitsL (bitT a) (bitT b) (bitT c) ms
def fitsD (n : Nat) (Mx : Nat → Nat → Int) (a b c : Int) (v : Nat) (r : List Nat) : Bool := decide (r.getLast? = some v) && fitsL (bitT a) (bitT b) (bitT c) (closedR (refM n Mx) v r)
theorem fitD_is (n : Nat) (Mx : Nat → Nat → Int) (a b c : Int) (v : Nat) : FitR (refE n Mx a b c) v (fitsD n Mx a b c v) := fitR_closed
theorem bitT_zero (a : Int) : bitT a 0 = false := hit_zero a
theorem bitT_all {a x : Int} (h : bitT a x = true) : bitT (-1) x = true := by
  have h1 := (hit_iff a x).1 h
  refine (hit_iff (-1) x).2 (fun h0 => h1 ?_)
  have e : bv (-1) = BitVec.allOnes 64 := by decide
  rw [e, BitVec.and_allOnes] at h0
  rw [h0, BitVec.zero_and]
theorem outsD_is (n : Nat) (Mx : Nat → Nat → Int) (a b c : Int) (ws : List Int) : OutsR n (fun v => decide ((v : Int) ∈ ws)) (refE n Mx a b c) (outsD n Mx ws) := by
  refine ⟨fun u => (elems_sorted _ _).filter _, fun u d w c' he hw hp => ?_, fun u w hw => ?_⟩
  · refine List.mem_filter.2 ⟨mem_elems.2 ⟨hw, ?_⟩, hp⟩
    show bitT (-1) (maskR n Mx (u : Int) (w : Int)) = true
    cases d <;> cases c'
    · exact bitT_all he
    · exact bitT_all he
    · cases he
    · exact bitT_all he
  · obtain ⟨h1, h2⟩ := List.mem_filter.1 hw
    exact ⟨(mem_elems.1 h1).1, h2⟩
theorem fitsL_zero {a b c : Int} {ms : List Int} (h : (0 : Int) ∈ ms) : fitsL (bitT a) (bitT b) (bitT c) ms = false := by
  obtain ⟨i, hi, h0⟩ := List.mem_iff_getElem.1 h
  unfold fitsL
  rw [List.any_eq_false]
  intro k hk he
  rw [List.mem_range] at hk
  simp only [Bool.and_eq_true, List.all_eq_true] at he
  obtain ⟨h1, h2, h3⟩ := he
  rcases Nat.lt_trichotomy i k with hlt | rfl | hgt
  · have hm : (0 : Int) ∈ ms.take k := by
      rw [← h0]
      have : (ms.take k)[i]'(by simp; omega) = ms[i] := by simp
      rw [← this]; exact List.getElem_mem _
    have := h2 _ hm
    rw [bitT_zero] at this; cases this
  · rw [List.getD_eq_getElem?_getD, List.getElem?_eq_getElem hi, Option.getD_some, h0, bitT_zero] at h1; cases h1
  · have hm : (0 : Int) ∈ ms.drop (k + 1) := by
      rw [← h0]
      have : (ms.drop (k + 1))[i - (k + 1)]'(by simp; omega) = ms[i] := by simp; congr 1; omega
      rw [← this]; exact List.getElem_mem _
    have := h3 _ hm
    rw [bitT_zero] at this; cases this
theorem getD_natI (l : List Nat) {k : Nat} (hk : k < l.length) : (natI l).getD k 0 = ((l.getD k 0 : Nat) : Int) := by
  simp [natI, List.getD_eq_getElem?_getD, hk]
theorem fitsQ_eq {n : Nat} {Mx : Nat → Nat → Int} {a b c : Int} {v : Nat} {r : List Nat} (hr : r ≠ []) (hl : r.getLast? = some v) : fitsQ n Mx a b c r = fitsD n Mx a b c v r := by
  unfold fitsQ fitsD
  rw [closed_ring hr hl, hl]
  simp only [decide_true, Bool.true_and]
  have hmap : (List.range (natI r.reverse).length).map (mkM25 (maskR n Mx) (natI r.reverse)) = ringM (refM n Mx) r.reverse := by
    unfold ringM
    have e : (natI r.reverse).length = r.reverse.length := by simp [natI]
    rw [e]
    apply List.map_congr_left
    intro k hk
    rw [List.mem_range] at hk
    have hm : (k + 1) % r.reverse.length < r.reverse.length := Nat.mod_lt _ (by omega)
    rw [mkM25, e, getD_natI _ hk, getD_natI _ hm]
  by_cases hz : ∃ k, k < (natI r.reverse).length ∧ mkM25 (maskR n Mx) (natI r.reverse) k = 0
  · obtain ⟨k, hk, h0⟩ := hz
    rw [masksQ_no hk h0]
    refine (fitsL_zero ?_).symm
    rw [← hmap]
    exact List.mem_map.2 ⟨k, List.mem_range.2 hk, h0⟩
  · rw [masksQ_yes (fun k hk h0 => hz ⟨k, hk, h0⟩), hmap]
theorem firstR_congr {outs : Nat → List Nat} {f g : List Nat → Bool} {v : Nat} (h : ∀ r, r ≠ [] → r.getLast? = some v → f r = g r) : ∀ (m : Nat) (r : List Nat), r ≠ [] → r.getLast? = some v → firstR outs f m r = firstR outs g m r
  | 0, r, hr, hl => by rw [firstR, firstR, h r hr hl]
  | m + 1, r, hr, hl => by
    rw [firstR, firstR]
    congr 1
    funext w
    exact firstR_congr h m (w :: r) (by simp) (by
      cases r with
      | nil => exact absurd rfl hr
      | cons u r => simpa using hl)
/-- What the document's search tells. -/
def FirstPost (W : World) (o : Option (List Nat)) (v : Value) (w' : World) : Prop := Fr0 W w' ∧ ∃ A n c, match o with
  | none => v = .tuple #[.slice A n c, .bool false]
  | some ys => n = ys.length ∧ v = .tuple #[.slice A n c, .bool true] ∧ IntsAt w' A (natI ys)
def MsNo (W : World) (v : Value) (w' : World) : Prop := v = .tuple #[.slice none 0 0, .bool false] ∧ Fr0 W w'
def MsYes (W : World) (l : List Int) (v : Value) (w' : World) : Prop := ∃ A c, v = .tuple #[.slice A l.length c, .bool true] ∧ w'.ownsRow W.heap.size 3 1 (.slice A l.length c) l.length (intsI l) ∧ Fr0 W w'
theorem ms_no {f : Nat} {args : Array Value} {w : World} (h : Calls Tryd.prog f args w (Rets (MsPost25 w none))) : Calls Tryd.prog f args w (Rets (MsNo w)) := h.mono (fun _ _ ⟨v, he, hf, hv⟩ => ⟨v, he, hv, hf⟩)
theorem ms_yes {f : Nat} {args : Array Value} {w : World} {l : List Int} (h : Calls Tryd.prog f args w (Rets (MsPost25 w (some l)))) : Calls Tryd.prog f args w (Rets (MsYes w l)) := h.mono (fun _ _ ⟨v, he, hf, A, c, hv, ho⟩ => ⟨v, he, A, c, hv, ho, hf⟩)
set_option maxHeartbeats 8000000 in
theorem First_zero {W : World} {n cR d : Nat} {R B : Option Addr} {Mx : Nat → Nat → Int} {ws : List Int} {a b c : Int} (hg : RefG W n R Mx) {r : List Nat} {A : Option Addr} {cp : Nat} (hx : IntsAt W A (natI r.reverse)) (hlen : r.length ≤ 900) :
    Calls Tryd.prog 33 #[.agg #[.int .i64 (n : Int), .slice R n cR], .slice B ws.length d, .agg #[.int .i64 a, .int .i64 b, .int .i64 c], .slice A r.length cp, .int .i64 0] W (Rets (FirstPost W (firstR (outsD n Mx ws) (fitsQ n Mx a b c) 0 r))) := by
  obtain ⟨w0, hw0⟩ : ∃ w0, (W.alloc (.cells #[.int .i64 (n : Int), .slice R n cR] 37)).alloc (.cells #[.int .i64 a, .int .i64 b, .int .i64 c] 26) = w0 := ⟨_, rfl⟩
  have hf0 : Fr0 W w0 := hw0 ▸ (fr_alloc _ _ _).alloc _
  have hgB : w0.heap[W.heap.size]? = some (.cells #[.int .i64 (n : Int), .slice R n cR] 37 (0, 0)) := hw0 ▸ (fr_alloc (fun _ => False) _ _).heap (World.alloc_heap_new W _) (fun x => x)
  have hrB : w0.heap[W.heap.size + 1]? = some (.cells #[.int .i64 a, .int .i64 b, .int .i64 c] 26 (0, 0)) := by
    have := World.alloc_heap_new (W.alloc (.cells #[.int .i64 (n : Int), .slice R n cR] 37)) (.cells #[.int .i64 a, .int .i64 b, .int .i64 c] 26)
    rw [World.size_alloc, hw0] at this; exact this
  have g0 : w0.cell? ⟨W.heap.size, 0, none⟩ = some (.int .i64 (n : Int)) := by unfold World.cell?; rw [hgB]; rfl
  have g1 : w0.cell? ⟨W.heap.size, 1, none⟩ = some (.slice R n cR) := by unfold World.cell?; rw [hgB]; rfl
  have hnl : (natI r.reverse).length = r.length := by simp [natI]
  have HMS := Lib.hid (Masks25_is (M := maskR n Mx) (cR := cR) (fun w f u t => MaskR_is (c := cR) (hg.fr0 (hf0.trans0 f)) u t) (c := cp) (hx.fr0 hf0) (by rw [hnl]; omega))
  rw [hnl] at HMS
  have HX := Lib.hid hx
  have HRB := Lib.hid hrB
  have hfq : fitsQ n Mx a b c r = match masksQ (maskR n Mx) (natI r.reverse) with | none => false | some ms => fitsL (bitT a) (bitT b) (bitT c) ms := rfl
  have hml : ∀ ms, masksQ (maskR n Mx) (natI r.reverse) = some ms → ms.length = r.length := by
    intro ms h
    unfold masksQ at h
    split at h
    · cases h
    · cases h; simp [natI]
  rw [firstR]
  clear hg hx hgB hrB
  cases hq : masksQ (maskR n Mx) (natI r.reverse) with
  | none =>
    rw [hq] at HMS hfq
    simp only at hfq
    rw [hfq]
    simp only [Bool.false_eq_true, if_false]
    have HMS := Lib.hid (ms_no HMS.out)
    clear hq hfq hml hnl
    go_enter Tryd.func33, Tryd.ntmps33
    go_upto_region 2 with (fail)
    clear hw0
    go_wp2_with (go_at_call 48; refine (HMS.out).mono ?_; rintro e w2 ⟨_, rfl, rfl, hf2⟩)
    go_ret2
    exact ⟨_, rfl, hf0.trans0 hf2, A, r.length, cp, rfl⟩
  | some ms =>
    rw [hq] at HMS hfq
    simp only at hfq
    rw [hfq]
    have hmsl : ms.length ≤ 900 := by have := hml ms hq; omega
    have HMS := Lib.hid (ms_yes HMS.out)
    have HFI := Lib.hid (fun (w : World) (A2 : Option Addr) (c2 : Nat) (h : IntsAt w A2 ms) => Fits25_is (a := a) (b := b) (c := c) (cp := c2) h (by omega))
    clear hq hfq hml hnl
    generalize fitsL (bitT a) (bitT b) (bitT c) ms = bo at HFI
    cases bo with
    | true =>
      go_enter Tryd.func33, Tryd.ntmps33
      go_upto_region 2 with (fail)
      clear hw0
      go_wp2_with (first
        | (go_at_call 48; refine (HMS.out).mono ?_; rintro e w2 ⟨_, rfl, A2, c2, rfl, hown, hf2⟩; have r0 := hf2.heap HRB.out (fun x => x); have q0 : w2.cell? ⟨W.heap.size + 1, 0, none⟩ = some (.int .i64 a) := (by unfold World.cell?; rw [r0]; rfl); have q1 : w2.cell? ⟨W.heap.size + 1, 1, none⟩ = some (.int .i64 b) := (by unfold World.cell?; rw [r0]; rfl); have q2 : w2.cell? ⟨W.heap.size + 1, 2, none⟩ = some (.int .i64 c) := (by unfold World.cell?; rw [r0]; rfl); have hI := own_intsI hown (by omega); clear r0)
        | (go_at_call 22; refine (HFI.out _ _ _ hI).mono ?_; rintro e w3 ⟨_, rfl, rfl, hf3⟩))
      go_ret2
      have hF3 := (hf0.trans0 hf2).trans0 hf3
      simp only [if_true]
      refine ⟨_, rfl, hF3, A, r.length, cp, ?_⟩
      exact ⟨by simp, rfl, HX.out.fr0 hF3⟩
    | false =>
      go_enter Tryd.func33, Tryd.ntmps33
      go_upto_region 2 with (fail)
      clear hw0
      go_wp2_with (first
        | (go_at_call 48; refine (HMS.out).mono ?_; rintro e w2 ⟨_, rfl, A2, c2, rfl, hown, hf2⟩; have r0 := hf2.heap HRB.out (fun x => x); have q0 : w2.cell? ⟨W.heap.size + 1, 0, none⟩ = some (.int .i64 a) := (by unfold World.cell?; rw [r0]; rfl); have q1 : w2.cell? ⟨W.heap.size + 1, 1, none⟩ = some (.int .i64 b) := (by unfold World.cell?; rw [r0]; rfl); have q2 : w2.cell? ⟨W.heap.size + 1, 2, none⟩ = some (.int .i64 c) := (by unfold World.cell?; rw [r0]; rfl); have hI := own_intsI hown (by omega); clear r0)
        | (go_at_call 22; refine (HFI.out _ _ _ hI).mono ?_; rintro e w3 ⟨_, rfl, rfl, hf3⟩))
      go_ret2
      have hF3 := (hf0.trans0 hf2).trans0 hf3
      simp only [Bool.false_eq_true, if_false]
      exact ⟨_, rfl, hF3, A, r.length, cp, rfl⟩
end Go.Proofs.YtdcjfpjpboafnaaDoor
namespace Go.Proofs.YtdcjfpjpboafnaaDoor
set_option linter.all false
attribute [local go_sem ↓] appendH_eq
open Go.RowKit
set_option maxRecDepth 100000

def RecRes (o : Option (List Nat)) (A : Option Addr) (n : Nat) (bo : Bool) (w' : World) : Prop := match o with
  | none => bo = false
  | some ys => bo = true ∧ n = ys.length ∧ IntsAt w' A (natI ys)
def RecPost (W : World) (o : Option (List Nat)) (v : Value) (w' : World) : Prop := ∃ A n c bo, v = .tuple #[.slice A n c, .bool bo] ∧ Fr0 W w' ∧ RecRes o A n bo w'
theorem first_rec {f : Nat} {args : Array Value} {w : World} {o : Option (List Nat)} (h : Calls Tryd.prog f args w (Rets (FirstPost w o))) : Calls Tryd.prog f args w (Rets (RecPost w o)) := by
  refine h.mono ?_
  rintro e w' ⟨v, he, hf, A, n, c, hv⟩
  cases o with
  | none => exact ⟨v, he, A, n, c, false, hv, hf, rfl⟩
  | some ys => exact ⟨v, he, A, n, c, true, hv.2.1, hf, rfl, hv.1, hv.2.2⟩
set_option maxHeartbeats 16000000 in
theorem First_is {n cR d : Nat} {R B : Option Addr} {Mx : Nat → Nat → Int} {ws : List Int} {a b c : Int} : ∀ (m : Nat) {W : World}, RefG W n R Mx → IntsAt W B ws → ∀ {r : List Nat} {A : Option Addr} {cp : Nat}, IntsAt W A (natI r.reverse) → Plain A r.length cp → r ≠ [] → r.length + m ≤ 900 →
    Calls Tryd.prog 33 #[.agg #[.int .i64 (n : Int), .slice R n cR], .slice B ws.length d, .agg #[.int .i64 a, .int .i64 b, .int .i64 c], .slice A r.length cp, .int .i64 (m : Int)] W (Rets (FirstPost W (firstR (outsD n Mx ws) (fitsQ n Mx a b c) m r))) := by
  intro m
  induction m with
  | zero =>
    intro W hg hw r A cp hx hp hr hlen
    exact First_zero hg hx (by omega)
  | succ m ih =>
    intro W hg hw r A cp hx hp hr hlen
    have hn := hg.1
    obtain ⟨w0, hw0⟩ : ∃ w0, (W.alloc (.cells #[.int .i64 (n : Int), .slice R n cR] 37)).alloc (.cells #[.int .i64 a, .int .i64 b, .int .i64 c] 26) = w0 := ⟨_, rfl⟩
    have hf0 : Fr0 W w0 := hw0 ▸ (fr_alloc _ _ _).alloc _
    have hgB : w0.heap[W.heap.size]? = some (.cells #[.int .i64 (n : Int), .slice R n cR] 37 (0, 0)) := hw0 ▸ (fr_alloc (fun _ => False) _ _).heap (World.alloc_heap_new W _) (fun x => x)
    have hrB : w0.heap[W.heap.size + 1]? = some (.cells #[.int .i64 a, .int .i64 b, .int .i64 c] 26 (0, 0)) := by
      have := World.alloc_heap_new (W.alloc (.cells #[.int .i64 (n : Int), .slice R n cR] 37)) (.cells #[.int .i64 a, .int .i64 b, .int .i64 c] 26)
      rw [World.size_alloc, hw0] at this; exact this
    have HKB := Lib.hid (show ∀ w', Fr0 w0 w' → (w'.cell? ⟨W.heap.size, 0, none⟩ = some (.int .i64 (n : Int)) ∧ w'.cell? ⟨W.heap.size, 1, none⟩ = some (.slice R n cR) ∧ w'.cell? ⟨W.heap.size + 1, 0, none⟩ = some (.int .i64 a) ∧ w'.cell? ⟨W.heap.size + 1, 1, none⟩ = some (.int .i64 b) ∧ w'.cell? ⟨W.heap.size + 1, 2, none⟩ = some (.int .i64 c)) from fun w' f => by
      have h1 := f.heap hgB (fun x => x)
      have h2 := f.heap hrB (fun x => x)
      refine ⟨?_, ?_, ?_, ?_, ?_⟩
      · unfold World.cell?; rw [h1]; rfl
      · unfold World.cell?; rw [h1]; rfl
      · unfold World.cell?; rw [h2]; rfl
      · unfold World.cell?; rw [h2]; rfl
      · unfold World.cell?; rw [h2]; rfl)
    obtain ⟨u, r', rfl⟩ : ∃ u r', r = u :: r' := by
      cases r with
      | nil => exact absurd rfl hr
      | cons u r' => exact ⟨u, r', rfl⟩
    have hnl : (natI (u :: r').reverse).length = (u :: r').length := by simp [natI]
    obtain ⟨rb, ro, hA, hcl⟩ := hx.at_ (k := (u :: r').length - 1) (by rw [hnl]; simp)
    have hlast : (natI (u :: r').reverse).getD ((u :: r').length - 1) 0 = (u : Int) := by
      rw [getD_natI _ (by simp)]
      simp [List.getD_eq_getElem?_getD]
    rw [hlast] at hcl
    have HO := Lib.hid (fun w' (f : Fr0 w0 w') => Out21_is (c := cR) (d := d) (hg.fr0 (hf0.trans0 f)) (hw.fr0 (hf0.trans0 f)) (u : Int) (-1))
    have houts : outsD n Mx ws u = (elems n (outR n Mx (u : Int) (-1))).filter (fun w : Nat => decide ((w : Int) ∈ ws)) := rfl
    rw [← houts] at HO
    have hol : (outsD n Mx ws u).length ≤ n := Nat.le_trans (List.length_filter_le _ _) (elems_len _ _)
    have hfr : firstR (outsD n Mx ws) (fitsQ n Mx a b c) (m + 1) (u :: r') = (outsD n Mx ws u).findSome? (fun w => firstR (outsD n Mx ws) (fitsQ n Mx a b c) m (w :: u :: r')) := rfl
    rw [hfr]
    generalize outsD n Mx ws u = os at HO hol
    have HG := Lib.hid hg
    have HW := Lib.hid hw
    have HX := Lib.hid hx
    have HIH := Lib.hid (show ∀ (w : World) (r2 : List Nat) (A2 : Option Addr) (c2 : Nat), RefG w n R Mx → IntsAt w B ws → IntsAt w A2 (natI r2.reverse) → Plain A2 r2.length c2 → r2 ≠ [] → r2.length + m ≤ 900 → Calls Tryd.prog 33 #[.agg #[.int .i64 (n : Int), .slice R n cR], .slice B ws.length d, .agg #[.int .i64 a, .int .i64 b, .int .i64 c], .slice A2 r2.length c2, .int .i64 (m : Int)] w (Rets (FirstPost w (firstR (outsD n Mx ws) (fitsQ n Mx a b c) m r2))) from fun w r2 A2 c2 h1 h2 h3 h4 h5 h6 => ih h1 h2 h3 h4 h5 h6)
    have HP := Lib.hid hp
    have HNL := Lib.hid hnl
    have hcl0 := hf0.cell hcl (fun x => x)
    subst hA
    have hl1 : 1 ≤ ((u :: r').length : Int) := by simp; omega
    have hl9 : ((u :: r').length : Int) ≤ 900 := by omega
    have hwl : IntKind.i64.wrap (((u :: r').length : Int) - 1) = ((u :: r').length : Int) - 1 := by rw [IntKind.wrap_i64]; omega
    have hln : (((u :: r').length : Int) - 1).toNat = (u :: r').length - 1 := by omega
    have hnz : ((((m + 1 : Nat)) : Int) == 0) = false := by rw [beq_eq_false_iff_ne]; omega
    have hsm : (((m + 1 : Nat)) : Int) ≤ 900 := by simp only [List.length_cons] at hlen; omega
    have hsp : 1 ≤ (((m + 1 : Nat)) : Int) := by omega
    have hsub : (((m + 1 : Nat)) : Int) - 1 = (m : Int) := by omega
    clear hg hw hx hgB hrB hcl hlast houts hnl hp ih hfr hr
    obtain ⟨bg, hbg⟩ : ∃ bg, natI (u :: r').reverse = bg := ⟨_, rfl⟩
    have hll : (u :: r').length = bg.length := by rw [← hbg]; exact HNL.out.symm
    have HBG := Lib.hid hbg
    rw [hbg] at HX
    rw [hll] at hl1 hl9 hwl hln hcl0 HP ⊢
    obtain ⟨M1, hM1⟩ : ∃ M1 : Int, (((m + 1 : Nat)) : Int) = M1 := ⟨_, rfl⟩
    rw [hM1] at hnz hsm hsp hsub ⊢
    have HLL := Lib.hid hll
    generalize bg.length - 1 = lm at hcl0 hln
    have hlm : (bg.length : Int) - 1 < (bg.length : Int) := by omega
    clear hll hM1 hbg HNL
    go_enter Tryd.func33, Tryd.ntmps33
    go_upto_region 4 with (fail)
    clear hw0
    have g0 := ((HKB.out _ (fr_drew _ _))).1
    have g1 := ((HKB.out _ (fr_drew _ _))).2.1
    have l0 := (fr_drew (fun _ => False) w0).cell hcl0 (fun x => x)
    refine wp_region_still_tail 8 (by kernel_rfl) (by kernel_rfl) ?_
    simp only [List.take_succ_cons, List.take_zero, List.drop_succ_cons, List.drop_zero]
    change wpStill _ _ (World.drew _) _ _ _
    repeat still_step
    refine wpStill_nil ?_
    change wpList _ _ _ _ _ (World.drew _)
    go_wp2_with (go_at_call 49; refine (HO.out _ (fr_drew _ _)).mono ?_; rintro e w2 ⟨_, rfl, hf2, ho2⟩)
    obtain ⟨Ao, co, rfl⟩ := own_form ho2
    have hio := own_ints ho2 (by omega)
    have hF2 : Fr0 w0 w2 := (fr_drew _ _).trans0 hf2
    have HIO := Lib.hid hio
    clear ho2 hio g0 g1 l0 HO hwl hln hlm hcl0
    go_loopw [15] (fun vk wr => ∃ k : Nat, k ≤ os.length ∧ vk = .int .i64 k ∧ Fr0 w2 wr ∧ Hid ((os.take k).findSome? (fun w => firstR (outsD n Mx ws) (fitsQ n Mx a b c) m (w :: u :: r')) = none)) (fun vk _ => os.length - (intOf vk).toNat)
    case atStart => exact ⟨0, Nat.zero_le _, rfl, Fr.refl _ _, Lib.hid rfl⟩
    case round =>
      obtain ⟨k, hk, rfl, hf, HN⟩ := hrel
      by_cases hlt : k < os.length
      · have hlt' : (k : Int) < (os.length : Int) := by omega
        have hF : Fr0 w0 wr := hF2.trans0 hf
        obtain ⟨ob, oo, hAo, hck⟩ := (HIO.out.fr0 hf).at_ (k := k) (by simpa [natI] using hlt)
        subst hAo
        rw [getD_natI _ hlt] at hck
        have htk : os.take (k + 1) = os.take k ++ [os.getD k 0] := by rw [List.take_succ_eq_append_getElem hlt]; simp [List.getD_eq_getElem?_getD, List.getElem?_eq_getElem hlt]
        have hdr : os.drop k = os.getD k 0 :: os.drop (k + 1) := by rw [List.drop_eq_getElem_cons hlt]; simp [List.getD_eq_getElem?_getD, List.getElem?_eq_getElem hlt]
        generalize os.getD k 0 = x at hck htk hdr
        have hxl : (x :: u :: r').length = bg.length + 1 := by rw [List.length_cons, HLL.out]
        have hxr : natI (x :: u :: r').reverse = bg ++ [(x : Int)] := by
          rw [List.reverse_cons, ← HBG.out]; simp [natI]
        have HREC := Lib.hid (show ∀ (w : World) (A2 : Option Addr) (c2 : Nat), Fr0 wr w → IntsAt w A2 (bg ++ [(x : Int)]) → Plain A2 (bg.length + 1) c2 → Calls Tryd.prog 33 #[.agg #[.int .i64 (n : Int), .slice R n cR], .slice B ws.length d, .agg #[.int .i64 a, .int .i64 b, .int .i64 c], .slice A2 (bg.length + 1) c2, .int .i64 (m : Int)] w (Rets (RecPost w (firstR (outsD n Mx ws) (fitsQ n Mx a b c) m (x :: u :: r')))) from fun w A2 c2 f h1 h2 => by
          have := HIH.out w (x :: u :: r') A2 c2 (HG.out.fr0 ((hf0.trans0 hF).trans0 f)) (HW.out.fr0 ((hf0.trans0 hF).trans0 f)) (by rw [hxr]; exact h1) (by rw [hxl]; exact h2) (by simp) (by simp only [List.length_cons] at hlen ⊢; omega)
          rw [hxl] at this
          exact first_rec this)
        clear hxl hxr
        have HK := Lib.hid (show ∀ w', Fr0 wr w' → (Fr0 wr w' ∧ (w'.cell? ⟨W.heap.size, 0, none⟩ = some (.int .i64 (n : Int)) ∧ w'.cell? ⟨W.heap.size, 1, none⟩ = some (.slice R n cR) ∧ w'.cell? ⟨W.heap.size + 1, 0, none⟩ = some (.int .i64 a) ∧ w'.cell? ⟨W.heap.size + 1, 1, none⟩ = some (.int .i64 b) ∧ w'.cell? ⟨W.heap.size + 1, 2, none⟩ = some (.int .i64 c)) ∧ w'.cell? ⟨ob, oo + k, none⟩ = some (.int .i64 (x : Int))) from fun w' f => ⟨f, HKB.out _ (hF.trans0 f), f.cell hck (fun x => x)⟩)
        have HIX := Lib.hid (fun w' (f : Fr0 wr w') => HX.out.fr0 ((hf0.trans0 hF).trans0 f))
        have HTK := Lib.hid htk
        have HDR := Lib.hid hdr
        clear hck htk hdr
        have hlw2 : IntKind.i64.wrap (m : Int) = (m : Int) := by rw [IntKind.wrap_i64]; omega
        have hlw : IntKind.i64.wrap (M1 - 1) = (m : Int) := by rw [hsub, IntKind.wrap_i64]; omega
        go_upto_region 8 with (fail)
        go_cut [16, 17] from 48 to 66 (fun s16 s17 wx => ∃ A3 n3 c3 bo, s16 = .slice A3 n3 c3 ∧ s17 = .bool bo ∧ Fr0 wr wx ∧ RecRes (firstR (outsD n Mx ws) (fitsQ n Mx a b c) m (x :: u :: r')) A3 n3 bo wx)
        case first =>
          have hKS0 := HK.out _ (Fr.refl _ wr)
          go_region_held_law (fun w' => Fr0 wr w' ∧ (w'.cell? ⟨W.heap.size, 0, none⟩ = some (.int .i64 (n : Int)) ∧ w'.cell? ⟨W.heap.size, 1, none⟩ = some (.slice R n cR) ∧ w'.cell? ⟨W.heap.size + 1, 0, none⟩ = some (.int .i64 a) ∧ w'.cell? ⟨W.heap.size + 1, 1, none⟩ = some (.int .i64 b) ∧ w'.cell? ⟨W.heap.size + 1, 2, none⟩ = some (.int .i64 c)) ∧ w'.cell? ⟨ob, oo + k, none⟩ = some (.int .i64 (x : Int)))
            ((refine HK.out _ ?_; first | exact fr_drew _ _ | assumption | exact And.left (by assumption) | exact Fr.alloc (And.left (by assumption)) _ | exact Fr.alloc (by assumption) _))
            (first
              | (refine step_append_lit (B := wr.heap.size) rfl (.tmp 52) (.tmp 53) rfl rfl rfl HP.out (by omega) ?_ ?_ (HIX.out _ (And.left (by assumption))) ?_; (first | exact World.alloc_heap_new _ _ | exact (fr_alloc (fun _ => False) _ _).heap (World.alloc_heap_new _ _) (fun x => x) | (have hq := World.alloc_heap_new (wr.alloc (.cells #[.int .i64 (x : Int)] 3)) (.cells #[] 3); rw [World.size_alloc] at hq; exact hq)); (first | exact Nat.le_refl _ | omega | (simp; done) | (simp; omega)); intro v1 w1 hown1 hf1; have hF1 := Fr.trans0 (And.left (by assumption)) hf1; (try have hxa := hf1.heap' (World.alloc_heap_new _ _)); (try rw [World.size_alloc] at hxa); (try have hxb := hf1.heap' ((fr_alloc (fun _ => False) _ _).heap (World.alloc_heap_new _ _) (fun x => x))))
              | (refine step_append_ints (B := wr.heap.size) (xs := bg) (ys := [(x : Int)]) rfl (.tmp 54) (.tmp 59) rfl rfl rfl (fun e => by cases e) ?_ ?_ ?_ ?_ ?_; (simp; omega); (have := hF1.size; (try simp only [World.size_alloc]); (first | omega | exact this | (simp; omega))); (first | exact hown1 | exact own_fr0 hown1 (fr_drew _ _) | exact own_fr0 hown1 (fr_alloc _ _ _) | exact own_fr0 hown1 ((fr_alloc _ _ _).drew) | exact own_fr0 hown1 ((fr_drew _ _).alloc _)); (first | exact ints_lit (l := [(x : Int)]) (World.alloc_heap_new _ _) (by simp) | exact ints_lit (l := [(x : Int)]) hxa (by simp) | exact ints_lit (l := [(x : Int)]) hxb (by simp)); intro v6 w6 hown6 hf6; have hF6 : Fr0 wr w6 := Fr.trans (And.left (by assumption)) hf6 (fun j hj e => own_old hown1 hj e); obtain ⟨A6, c6, hv6⟩ := own_form hown6; rw [hv6] at hown6; have hI6 := own_intsI hown6 (by simp; omega); have hP6 := plain_own hown6; rw [List.length_append, List.length_singleton] at hP6 hv6; subst hv6)
              | (go_at_call 33; (try rw [hsub]); refine (HREC.out _ A6 c6 (And.left (by assumption)) ?_ hP6).mono ?_; (first | exact hI6 | exact hI6.fr0 (fr_drew _ _)); rintro e w7 ⟨_, rfl, A7, n7, c7, b7, rfl, hf7, h7⟩; have hF7 := Fr.trans0 (And.left (by assumption)) hf7))
          all_goals
            go_wp2_with fail
            go_meet
            exact ⟨A7, n7, c7, b7, rfl, rfl, hF7, h7⟩
        case rest =>
          obtain ⟨A3, n3, c3, bo, rfl, rfl, hF3, h3⟩ := hcut
          obtain ⟨w3, hw3⟩ : ∃ w3, w3 = wc := ⟨_, rfl⟩
          subst hw3
          cases hfx : firstR (outsD n Mx ws) (fitsQ n Mx a b c) m (x :: u :: r') with
          | none =>
            rw [hfx] at h3
            have hbo : bo = false := h3
            subst hbo
            have HNN : Hid ((os.take (k + 1)).findSome? (fun w => firstR (outsD n Mx ws) (fitsQ n Mx a b c) m (w :: u :: r')) = none) := Lib.hid (by
              rw [HTK.out, List.findSome?_append, HN.out, List.findSome?_cons, hfx]; rfl)
            clear hfx h3
            go_wp2_with fail
            go_roundw
            case rel => exact ⟨k + 1, by omega, by go_num, hf.trans0 hF3, HNN⟩
            case measure => simp [intOf]; omega
          | some ys =>
            rw [hfx] at h3
            obtain ⟨hbo, hn3, hy3⟩ := (show bo = true ∧ n3 = ys.length ∧ IntsAt w3 A3 (natI ys) from h3)
            subst hbo
            have HS : Hid (os.findSome? (fun w => firstR (outsD n Mx ws) (fitsQ n Mx a b c) m (w :: u :: r')) = some ys) := Lib.hid (by
              have e : os = os.take k ++ x :: os.drop (k + 1) := by rw [← HDR.out, List.take_append_drop]
              rw [e, List.findSome?_append, HN.out, List.findSome?_cons, hfx]; rfl)
            have HN3 := Lib.hid hn3
            clear hfx h3 hn3
            go_wp2_with fail
            go_ret2
            refine ⟨_, rfl, (hf0.trans0 hF).trans0 hF3, A3, n3, c3, ?_⟩
            rw [HS.out]
            exact ⟨HN3.out, rfl, hy3⟩
      · have hke : k = os.length := by omega
        subst hke
        have HNN := HN
        rw [List.take_length] at HNN
        clear HN
        go_wp2_with fail
        go_ret2
        refine ⟨_, rfl, (hf0.trans0 hF2).trans0 hf, none, 0, 0, ?_⟩
        rw [HNN.out]
        rfl
end Go.Proofs.YtdcjfpjpboafnaaDoor
namespace Go.Proofs.YtdcjfpjpboafnaaDoor
set_option linter.all false
open Go.RowKit
set_option maxRecDepth 100000

def NilPost (W : World) (v : Value) (w' : World) : Prop := v = .tuple #[.slice none 0 0, .bool false] ∧ Fr0 W w'
def SomePost (W : World) (ys : List Nat) (v : Value) (w' : World) : Prop := ∃ A c, v = .tuple #[.slice A ys.length c, .bool true] ∧ Fr0 W w' ∧ IntsAt w' A (natI ys)
def LeastO (o : Option (List Nat)) (W : World) (v : Value) (w' : World) : Prop := match o with
  | none => NilPost W v w'
  | some ys => SomePost W ys v w'
theorem boxes25 (W : World) (n : Nat) (R : Option Addr) (cR : Nat) (a b c : Int) : ∀ w', Fr0 ((W.alloc (.cells #[.int .i64 (n : Int), .slice R n cR] 37)).alloc (.cells #[.int .i64 a, .int .i64 b, .int .i64 c] 26)) w' →
    (w'.cell? ⟨W.heap.size, 0, none⟩ = some (.int .i64 (n : Int)) ∧ w'.cell? ⟨W.heap.size, 1, none⟩ = some (.slice R n cR) ∧ w'.cell? ⟨W.heap.size + 1, 0, none⟩ = some (.int .i64 a) ∧ w'.cell? ⟨W.heap.size + 1, 1, none⟩ = some (.int .i64 b) ∧ w'.cell? ⟨W.heap.size + 1, 2, none⟩ = some (.int .i64 c)) := by
  intro w' f
  have hgB := (fr_alloc (fun _ => False) _ (.cells #[.int .i64 a, .int .i64 b, .int .i64 c] 26)).heap (World.alloc_heap_new W (.cells #[.int .i64 (n : Int), .slice R n cR] 37)) (fun x => x)
  have hrB := World.alloc_heap_new (W.alloc (.cells #[.int .i64 (n : Int), .slice R n cR] 37)) (.cells #[.int .i64 a, .int .i64 b, .int .i64 c] 26)
  rw [World.size_alloc] at hrB
  have h1 := f.heap hgB (fun x => x)
  have h2 := f.heap hrB (fun x => x)
  refine ⟨?_, ?_, ?_, ?_, ?_⟩
  · unfold World.cell?; rw [h1]; rfl
  · unfold World.cell?; rw [h1]; rfl
  · unfold World.cell?; rw [h2]; rfl
  · unfold World.cell?; rw [h2]; rfl
  · unfold World.cell?; rw [h2]; rfl
set_option maxHeartbeats 8000000 in
theorem RefLeast_out {W : World} {n cR d : Nat} {R B : Option Addr} {ws : List Int} (hx : IntsAt W B ws) (a b c v : Int) (hv : ¬ (0 ≤ v ∧ v < (n : Int) ∧ v ∈ ws)) :
    Calls Tryd.prog 19 #[.agg #[.int .i64 (n : Int), .slice R n cR], .slice B ws.length d, .agg #[.int .i64 a, .int .i64 b, .int .i64 c], .int .i64 v] W (Rets (NilPost W)) := by
  have HB := boxes25 W n R cR a b c
  obtain ⟨w0, hw0⟩ : ∃ w0, (W.alloc (.cells #[.int .i64 (n : Int), .slice R n cR] 37)).alloc (.cells #[.int .i64 a, .int .i64 b, .int .i64 c] 26) = w0 := ⟨_, rfl⟩
  rw [hw0] at HB
  have hf0 : Fr0 W w0 := hw0 ▸ (fr_alloc _ _ _).alloc _
  obtain ⟨g0, g1, q0, q1, q2⟩ := HB w0 (Fr.refl _ _)
  have HAS := Lib.hid (Has5_is (c := d) (hx.fr0 hf0) v)
  clear HB hx
  by_cases h0 : v < 0
  · clear HAS
    go_enter Tryd.func19, Tryd.ntmps19
    go_wp2_with fail
    go_ret2
    exact ⟨_, rfl, rfl, hf0⟩
  · by_cases h1 : (n : Int) ≤ v
    · clear HAS
      go_enter Tryd.func19, Tryd.ntmps19
      go_wp2_with fail
      go_ret2
      exact ⟨_, rfl, rfl, hf0⟩
    · have hm : decide (v ∈ ws) = false := by
        rw [decide_eq_false_iff_not]; exact fun h => hv ⟨by omega, by omega, h⟩
      rw [hm] at HAS
      clear hv hm
      go_enter Tryd.func19, Tryd.ntmps19
      go_upto_region 1 with (fail)
      clear hw0
      go_wp2_with (go_at_call 20; refine (HAS.out).mono ?_; rintro e w' ⟨rfl, rfl⟩)
      go_ret2
      exact ⟨_, rfl, rfl, hf0⟩
set_option maxHeartbeats 8000000 in
theorem RefLeast_in {W : World} {n cR d : Nat} {R B : Option Addr} {Mx : Nat → Nat → Int} {ws : List Int} (hg : RefG W n R Mx) (hx : IntsAt W B ws) (a b c : Int) {vn : Nat} (hvn : vn < n) (hvw : (vn : Int) ∈ ws) {far : Nat → Bool → Option Nat}
    (hF : FarOk n (fun v => decide ((v : Int) ∈ ws)) (refE n Mx a b c) (fun u => decide ((u : Int) = (vn : Int))) far) (hbd : ∀ u d k, far u d = some k → k ≤ 2 * n) (hn3 : n ≤ 400)
    {o : Option (List Nat)} (hno : far vn false = none → o = none) (hyes : ∀ k0, far vn false = some k0 → ∃ ys, o = some ys ∧ firstR (outsD n Mx ws) (fitsQ n Mx a b c) (k0 - 1) [vn] = some ys) :
    Calls Tryd.prog 19 #[.agg #[.int .i64 (n : Int), .slice R n cR], .slice B ws.length d, .agg #[.int .i64 a, .int .i64 b, .int .i64 c], .int .i64 (vn : Int)] W (Rets (LeastO o W)) := by
  have HB := boxes25 W n R cR a b c
  obtain ⟨w0, hw0⟩ : ∃ w0, (W.alloc (.cells #[.int .i64 (n : Int), .slice R n cR] 37)).alloc (.cells #[.int .i64 a, .int .i64 b, .int .i64 c] 26) = w0 := ⟨_, rfl⟩
  rw [hw0] at HB
  have hf0 : Fr0 W w0 := hw0 ▸ (fr_alloc _ _ _).alloc _
  obtain ⟨g0, g1, q0, q1, q2⟩ := HB w0 (Fr.refl _ _)
  have HKB := Lib.hid HB
  have HAS := Lib.hid (Has5_is (c := d) (hx.fr0 hf0) (vn : Int))
  rw [show decide ((vn : Int) ∈ ws) = true by simpa using hvw] at HAS
  have HDI := Lib.hid (RefDist_is (cR := cR) (d := d) (hg.fr0 hf0) (hx.fr0 hf0) a b c (vn : Int) hF hbd)
  have hv0 : ¬ (vn : Int) < 0 := by omega
  have hv1 : ¬ (n : Int) ≤ (vn : Int) := by omega
  have hv2 : (vn : Int) < (n : Int) := by omega
  have HFC := Lib.hid (fun (w : World) (f : Fr0 W w) (m : Nat) (hm : m ≤ 800) (A : Option Addr) (h1 : IntsAt w A [(vn : Int)]) (hp : Plain A 1 1) => First_is (n := n) (cR := cR) (d := d) (R := R) (B := B) (Mx := Mx) (ws := ws) (a := a) (b := b) (c := c) m (hg.fr0 f) (hx.fr0 f) (r := [vn]) (A := A) (cp := 1) h1 hp (by simp) (by simp; omega))
  have hF2 : FarOk n (fun v => decide ((v : Int) ∈ ws)) (refE n Mx a b c) (fun u => decide (u = vn)) far := by
    have e : (fun u : Nat => decide ((u : Int) = (vn : Int))) = (fun u => decide (u = vn)) := by funext u; rw [decide_eq_decide]; omega
    rw [← e]; exact hF
  cases hk : far vn false with
  | none =>
    have ho := hno hk
    subst ho
    have hrow : (encF (far vn false)) = -1 := by rw [hk]; rfl
    have HRD : Hid (((List.range n).map (fun u => encF (far u false))).getD vn 0 = _) := Lib.hid ((by rw [List.getD_eq_getElem?_getD]; simp [hvn] : ((List.range n).map (fun u => encF (far u false))).getD vn 0 = encF (far vn false)).trans hrow)
    clear HB hg hx hF hF2 hbd hno hyes HFC hk hrow
    go_enter Tryd.func19, Tryd.ntmps19
    go_upto_region 1 with (fail)
    clear hw0
    go_wp2_with (first
      | (go_at_call 20; refine (HAS.out).mono ?_; rintro e w' ⟨rfl, rfl⟩)
      | (go_at_call 16; refine (HDI.out).mono ?_; rintro e w2 ⟨_, rfl, ba, bb, rfl, hf2, hra, hrb, hba, hbb⟩; have d0 := hra.cell (i := vn) (by rw [List.length_map, List.length_range]; exact hvn); rw [HRD.out] at d0))
    go_ret2
    exact ⟨_, rfl, rfl, hf0.trans0 hf2⟩
  | some k0 =>
    obtain ⟨ys, ho, hfy⟩ := hyes k0 hk
    subst ho
    have hk0 : 1 ≤ k0 := by
      rcases Nat.eq_zero_or_pos k0 with e | e
      · rw [e] at hk; have := ((hF.zero vn false).1 hk).1; cases this
      · exact e
    have hk8 : k0 ≤ 800 := by have := hbd _ _ _ hk; omega
    have hnone : ∀ m, m + 1 < k0 → firstR (outsD n Mx ws) (fitsQ n Mx a b c) m [vn] = none := fun m hm => by
      rw [firstR_congr (v := vn) (fun r hr hl => fitsQ_eq hr hl) m [vn] (by simp) rfl]
      exact first_none hF2 (fitD_is n Mx a b c vn) (outsD_is n Mx a b c ws) hvn (by simpa using hvw) hk hm
    have hrow : (encF (far vn false)) = (k0 : Int) := by rw [hk]; rfl
    have HRD : Hid (((List.range n).map (fun u => encF (far u false))).getD vn 0 = _) := Lib.hid ((by rw [List.getD_eq_getElem?_getD]; simp [hvn] : ((List.range n).map (fun u => encF (far u false))).getD vn 0 = encF (far vn false)).trans hrow)
    have HNO := Lib.hid hnone
    have HFY := Lib.hid hfy
    clear HB hg hx hF hF2 hbd hno hyes hk hrow hnone hfy
    go_enter Tryd.func19, Tryd.ntmps19
    go_upto_region 1 with (fail)
    clear hw0
    go_wp2_with (first
      | (go_at_call 20; refine (HAS.out).mono ?_; rintro e w' ⟨rfl, rfl⟩)
      | (go_at_call 16; refine (HDI.out).mono ?_; rintro e w2 ⟨_, rfl, ba, bb, rfl, hf2, hra, hrb, hba, hbb⟩; have d0 := hra.cell (i := vn) (by rw [List.length_map, List.length_range]; exact hvn); rw [HRD.out] at d0))
    have hF2' : Fr0 w0 w2 := hf2
    clear g0 g1 q0 q1 q2 HAS HDI hrb HRD
    go_loopw [12] (fun vi wr => ∃ j : Nat, j + 1 ≤ k0 ∧ vi = .int .i64 (((j + 1 : Nat)) : Int) ∧ Fr0 w2 wr) (fun vi _ => k0 + 1 - (intOf vi).toNat)
    case atStart => exact ⟨0, by omega, rfl, Fr.refl _ _⟩
    case round =>
      obtain ⟨j, hj, rfl, hf⟩ := hrel
      have hF := hF2'.trans0 hf
      obtain ⟨g0, g1, q0, q1, q2⟩ := HKB.out _ hF
      have d0' := hf.cell d0 (fun x => x)
      have hle : (((j + 1 : Nat)) : Int) ≤ (k0 : Int) := by omega
      have hsub : (((j + 1 : Nat)) : Int) - 1 = (j : Int) := by omega
      have hlit := newF wr #[.int .i64 (vn : Int)] 3
      have hfl : Fr0 wr (wr.alloc (.cells #[.int .i64 (vn : Int)] 3)) := fr_alloc _ _ _
      have HREC := Lib.hid (first_rec (HFC.out _ ((hf0.trans0 hF).trans0 hfl) j (by omega) (some ⟨wr.heap.size, 0, none⟩) (ints_lit (l := [(vn : Int)]) hlit (by simp)) (fun e => by cases e)))
      have hj1 : 1 ≤ (((j + 1 : Nat)) : Int) := by omega
      have hj2 : (((j + 1 : Nat)) : Int) ≤ 800 := by omega
      clear hlit
      obtain ⟨J1, hJ1⟩ : ∃ J1 : Int, (((j + 1 : Nat)) : Int) = J1 := ⟨_, rfl⟩
      rw [hJ1] at hle hsub hj1 hj2 ⊢
      have HJ1 := Lib.hid hJ1
      clear hJ1
      by_cases hlt : j + 1 < k0
      · have HN1 := Lib.hid (HNO.out j hlt)
        go_wp2_with (go_at_call 33; (try rw [hsub]); refine (HREC.out).mono ?_; rintro e w3 ⟨_, rfl, A3, n3, c3, bo, rfl, hf3, h3⟩; rw [HN1.out] at h3; have hbo : bo = false := h3; subst hbo)
        go_roundw
        case rel => exact ⟨j + 1, by omega, by rw [← HJ1.out]; go_num, hf.trans0 (hfl.trans0 hf3)⟩
        case measure => have := HJ1.out; simp [intOf]; omega
      · have hje : j = k0 - 1 := by omega
        subst hje
        go_wp2_with (go_at_call 33; (try rw [hsub]); refine (HREC.out).mono ?_; rintro e w3 ⟨_, rfl, A3, n3, c3, bo, rfl, hf3, h3⟩; rw [HFY.out] at h3; obtain ⟨hbo, hn4, hy3⟩ := (show bo = true ∧ n3 = ys.length ∧ IntsAt w3 A3 (natI ys) from h3); subst hbo; subst hn4)
        go_ret2
        exact ⟨_, rfl, A3, c3, rfl, ((hf0.trans0 hF).trans0 hfl).trans0 hf3, hy3⟩
end Go.Proofs.YtdcjfpjpboafnaaDoor
