/- The program's store: what is pending, what was changed. -/
import Derived.Test.YtekigojbkhjdbaaStoreB
namespace Go.Proofs.Ytekigojbkhjdbaa
set_option linter.all false
open Go.RowKit Go.Maps
set_option maxRecDepth 100000

theorem SetAt.growS {B : Nat} {W W' : World} {A : Option Addr} {c : Nat} {zs : List Int} (h : SetAt W A c zs) (f : Fr0 W W') : SetAt W' A c zs := h.fr0 f
def idP (id : Int) (x : V4I) : Bool := x.i == id
theorem len_oneS {x : Int} : [x].length ≤ 140737488355328 := by simp
theorem sum_oneS {zs : List Int} {x : Int} (h : zs.length ≤ 200000) : zs.length + [x].length ≤ 1000000 := by simp; omega
theorem ofI_more (r : List Int) (x : Int) : ofI (ofI r ++ ofI [x]) = ofI (r ++ [x]) := ofI_congr (fun y => by
  rw [List.mem_append, List.mem_append, mem_ofI, mem_ofI])
section
variable {W : World} {B c b n co now : Nat} {Ao : Option Addr} {m : Int → Option Value} {P Q : List V4I}
/-- The contract of With, at the world in which the literal lies. -/
theorem with_lit {wr : World} {A : Option Addr} {cz : Nat} {zs : List Int} (hset : SetAt wr A cz zs) (hsmall : zs.length ≤ 200000) (o : Obj) (x : Int) :
    Calls Try.prog 42 #[setV A zs.length cz, .slice (some ⟨wr.heap.size + 1, 0, none⟩) 1 1] ((wr.alloc o).alloc (.cells #[.int .i64 x] 3)) (Rets (SetPost ((wr.alloc o).alloc (.cells #[.int .i64 x] 3)) (ofI (zs ++ ofI [x])))) := by
  have e : wr.heap.size + 1 = (wr.alloc o).heap.size := by simp
  rw [e]
  exact SWith_is (l := [x]) (hset.fr0 ((fr_alloc _ _ _).alloc _)) (ints_lit (World.alloc_heap_new _ _) len_oneS) (fun e => by cases e) (sum_oneS hsmall)
set_option maxHeartbeats 4000000 in
theorem Pending_is (h : StoreIs W B c b n Ao co m P Q now) (hQ : Q.length ≤ 100000) (id : Int) :
    Calls Try.prog 37 #[.pointer (some ⟨c, 0, none⟩), .int .i64 id] W (Rets (IListPost W (ofI (selV (idP id) (fun x => x.k) Q)))) := by
  have HI := Lib.hid (sis_is h)
  obtain ⟨w0, hw0⟩ : ∃ w0, w0 = W.alloc (.cells #[.slice none 0 0] 76) := ⟨_, rfl⟩
  have hf0 : Fr0 W w0 := hw0 ▸ fr_alloc _ _ _
  have hs0 : w0.heap.size = W.heap.size + 1 := by rw [hw0]; simp
  have hb0 : Box w0 W.heap.size 76 (.slice none 0 0) := hw0 ▸ Box.new _ _ _
  have k1 := (h.fr0 hf0).c1
  have HX := Lib.hid (h.tups hQ)
  have hS0 : SetAt w0 none 0 [] := ⟨⟨by simp, .inl rfl⟩, fun _ => ⟨rfl, rfl⟩, List.Pairwise.nil, by simp, Nat.le_refl _⟩
  rw [hw0] at k1
  have HW := Lib.hid hw0
  clear h hw0
  go_enter Try.func37, Try.ntmps37
  go_wp2_with (go_at_call 68; refine (HI.out).mono ?_; rintro e w' ⟨rfl, rfl⟩)
  rw [← HW.out]
  go_loopw [16] (fun v6 wr => ∃ (k : Nat) (r zs : List Int) (A : Option Addr) (cz : Nat), k ≤ Q.length ∧ v6 = .int .i64 k ∧ Hid (r = selV (idP id) (fun x => x.k) (Q.take k)) ∧ Hid (zs = ofI r) ∧ zs.length ≤ k ∧ Box wr W.heap.size 76 (.slice A zs.length cz) ∧ SetAt wr A cz zs ∧ Fr0 W wr) (fun v6 _ => Q.length - (intOf v6).toNat)
  case atStart => exact ⟨0, [], [], none, 0, by omega, rfl, Lib.hid rfl, Lib.hid rfl, by simp, hb0, hS0, hf0⟩
  case round =>
    obtain ⟨k, r, zs, A, cz, hk, rfl, HR, HZ, hzl, hbx, hset, hf⟩ := hrel
    have z0 := hbx.cell
    have hWs := hbx.lt
    by_cases hlt : k < Q.length
    · obtain ⟨q, o, x, rfl, he, _, k0, k1, k2⟩ := opn_at (HX.out.fr0 hf) hlt
      have hlt' : (k : Int) < (Q.length : Int) := by omega
      have hT := selV_take (idP id) (fun x => x.k) Q k he
      rw [← HR.out] at hT
      by_cases h1 : x.i = id
      · have d1 : (x.i == id) = true := by simpa using h1
        have hin : idP id x = true := by simp [idP, h1]
        rw [if_pos hin] at hT
        have HT := Lib.hid hT
        have HWt := Lib.hid (with_lit hset (by omega) (.cells #[.int .i64 x.i, .int .i64 x.k, .int .i64 x.v] 107) x.k)
        have z1 := (Box.fr0 hbx (fr_alloc (fun _ => False) wr (.cells #[.int .i64 x.i, .int .i64 x.k, .int .i64 x.v] 107))).cell
        clear hT hin h1
        go_wp2_with (go_at_call 42; refine (HWt.out).mono ?_; rintro e w2 ⟨_, rfl, A2, c2, rfl, hf2, hset2, hnew2⟩; have hbx2 := (hbx.fr0 ((fr_alloc _ _ _).alloc _)).fr0 hf2; have z2 := hbx2.cell; have y2 := hbx2.frozen)
        obtain ⟨wp, hwp⟩ : ∃ wp, wp = (wr.alloc (.cells #[.int .i64 x.i, .int .i64 x.k, .int .i64 x.v] 107)).alloc (.cells #[.int .i64 x.k] 3) := ⟨_, rfl⟩
        rw [← hwp] at hf2 hnew2
        have hfp : Fr0 wr wp := hwp ▸ (fr_alloc _ _ _).alloc _
        have hA2 : Fr0 wr w2 := hfp.trans0 hf2
        have hFS : Fr (fun k => k = W.heap.size) w2 (w2.setCell ⟨W.heap.size, 0, none⟩ (.slice A2 (ofI (zs ++ ofI [x.k])).length c2)) := fr_setCell _ _ _ (fun _ => rfl)
        have hpz := hfp.size
        have hlen : (ofI (zs ++ ofI [x.k])).length ≤ zs.length + 1 := by
          refine Nat.le_trans (len_ofI _) ?_
          rw [List.length_append]
          have := len_ofI [x.k]
          simp at this; omega
        go_roundw
        case rel =>
          exact ⟨k + 1, r ++ [x.k], _, A2, c2, by omega, by go_num, Lib.hid HT.out.symm, Lib.hid (by rw [HZ.out]; exact ofI_more r x.k), by omega, hbx2.set _, hset2.fr hFS (fun a e h => by have := hnew2 a e; omega), (hf.trans0 hA2).trans hFS (fun j hj e => by omega)⟩
        case measure => simp [intOf]; omega
      · have d1 : (x.i == id) = false := by simpa using h1
        have hin : idP id x = false := by simp [idP, h1]
        rw [if_neg (by simp [hin]), List.append_nil] at hT
        have HT := Lib.hid hT
        clear hT hin
        go_wp2_with fail
        go_roundw
        case rel => exact ⟨k + 1, r, zs, A, cz, by omega, by go_num, Lib.hid HT.out.symm, HZ, by omega, hbx.fr0 (fr_alloc _ _ _), hset.fr0 (fr_alloc _ _ _), hf.alloc _⟩
        case measure => simp [intOf]; omega
    · have hke : k = Q.length := by omega
      have hR := HR.out
      rw [hke, List.take_of_length_le (Nat.le_refl _)] at hR
      clear HR
      have hZ := HZ.out
      rw [hR] at hZ
      have HZ2 := Lib.hid hZ
      clear HZ hR hZ
      go_wp2_with (go_at_call 43; refine (SList_is hset).mono ?_; rintro e w2 ⟨v2, rfl, hf2, ho2⟩)
      go_ret
      rw [← HZ2.out]
      exact ⟨_, rfl, hf.trans0 hf2, own_base ho2 hf.size⟩
def chgS (since : Int) (x : StI) : Bool := decide (since < x.t)
theorem chg_is {since : Int} {blk : Nat} : PredSpecS 71 #[.pointer (some ⟨blk, 0, none⟩)] (chgS since) (fun W => Box W blk 3 (.int .i64 since)) := by
  intro a W hb
  have z0 := (hb.fr0 (fr_alloc _ W (.cells #[.int .i64 a.f, .int .i64 a.t] 113))).cell
  clear hb
  by_cases h : since < a.t
  · have e : chgS since a = true := by simp [chgS, h]
    rw [e]
    go_enter Try.func71, Try.ntmps71
    go_wp2_with fail
    go_ret
    exact ⟨_, by simp [h], rfl, fr_alloc _ _ _⟩
  · have e : chgS since a = false := by simp [chgS, h]
    rw [e]
    go_enter Try.func71, Try.ntmps71
    go_wp2_with fail
    go_ret
    exact ⟨_, by simp [h], rfl, fr_alloc _ _ _⟩
theorem chg_enters : ∀ args w, (callFunc 71 args).run Try.prog w = .ok (.enter 71 args) w := enters_of Try.func71 (by kernel_rfl) rfl
theorem tups_sts {W : World} {A : Option Addr} {l : List StI} (h : TupsAt stE 2 W A l) : ArcsAtS W A l := by
  refine ⟨h.1, h.2.imp id ?_⟩
  rintro ⟨q, o, e, hc⟩
  refine ⟨q, o, e, fun j hj => ?_⟩
  rw [List.getD_eq_getElem?_getD, List.getElem?_eq_getElem hj, Option.getD_some]
  exact ⟨hc j hj 0 (by omega), hc j hj 1 (by omega)⟩
theorem chg_any (P : List V4I) (key since : Int) : (rowP P key).any (chgS since) = P.any (fun x => x.k == key && decide (since < x.s)) := by
  unfold rowP
  rw [List.any_map, List.any_filter]
  rfl
set_option maxHeartbeats 4000000 in
theorem Changed_is (h : StoreIs W B c b n Ao co m P Q now) (hP : P.length ≤ 100000) {key : Int} (hk : wfI key) (since : Int) :
    Calls Try.prog 35 #[.pointer (some ⟨c, 0, none⟩), .int .i64 key, .int .i64 since] W (Rets (SamePost (P.any (fun x => x.k == key && decide (since < x.s))) W)) := by
  obtain ⟨w0, hw0⟩ : ∃ w0, w0 = W.alloc (.cells #[.int .i64 since] 3) := ⟨_, rfl⟩
  have hf0 : Fr0 W w0 := hw0 ▸ fr_alloc _ _ _
  have hb0 : Box w0 W.heap.size 3 (.int .i64 since) := hw0 ▸ Box.new _ _ _
  have h0 := h.fr0 hf0
  obtain ⟨A2, c2, hget, hrow⟩ := h0.row hk
  have hrl := rowP_len P key
  have HI := Lib.hid (sis_is h0)
  have c0 := h0.c0
  have hlk := h0.map.look1 stK Try.underlying71 (zero_sts _) hk
  rw [hget] at hlk
  have HC := Lib.hid (ContainsFunc_isS (c := c2) (chg_is (since := since) (blk := W.heap.size)) (fun _ _ h f => h.fr0 f) chg_enters (tups_sts (own_tups stE_len hrow (by omega))) hb0)
  rw [chg_any] at HC
  have HW := Lib.hid hw0
  clear h h0 hrow hw0 hget
  generalize rowP P key = l at hlk HC hrl
  go_enter Try.func35, Try.ntmps35
  go_wp2_with (first
    | (go_at_call 70; refine (HC.out).mono ?_; rintro e w2 ⟨_, rfl, rfl, hf2⟩)
    | (go_at_call 68; (try rw [← HW.out]); refine (HI.out).mono ?_; rintro e w' ⟨rfl, rfl⟩))
  go_ret
  exact ⟨_, rfl, rfl, hf0.trans0 hf2⟩
theorem Changed_none {v : Value} (h : NoStore W v) (key since : Int) :
    Calls Try.prog 35 #[v, .int .i64 key, .int .i64 since] W (Rets (SamePost false W)) := by
  have HI := Lib.hid (sis_none (h.fr0 (fr_alloc _ W (.cells #[.int .i64 since] 3))))
  clear h
  go_enter Try.func35, Try.ntmps35
  go_wp2_with (go_at_call 68; refine (HI.out).mono ?_; rintro e w' ⟨rfl, rfl⟩)
  go_ret
  exact ⟨_, rfl, rfl, fr_alloc _ _ _⟩
end
end Go.Proofs.Ytekigojbkhjdbaa
