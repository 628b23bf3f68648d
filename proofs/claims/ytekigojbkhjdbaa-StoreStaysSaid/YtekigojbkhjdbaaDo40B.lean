/- An act with a store, by the program and by the document: walked. -/
import Derived.Test.YtekigojbkhjdbaaDo40
namespace Go.Proofs.Ytekigojbkhjdbaa
set_option linter.all false
open Go.RowKit Go.Maps
set_option maxRecDepth 100000

def D0 (W : World) (s : Value) (now : Int) (x : ActI) : World := ((W.alloc (.cells #[s, .int .i64 now] 58)).alloc (.cells #[.int .i64 x.a, .int .i64 x.b, .int .i64 x.c, .int .i64 x.d] 62)).alloc (.cells #[.slice none 0 0, .int .i64 0] 58)
theorem FootS.trans' {B : Nat} {W W' W'' : World} (f : Fr (FootS B W) W W') (g : Fr (FootS B W') W' W'') : Fr (FootS B W) W W'' := FootS.trans f g
theorem D0_facts (W : World) (s : Value) (now : Int) (x : ActI) : Fr0 W (D0 W s now x) ∧ (D0 W s now x).heap.size = W.heap.size + 3 ∧ Two (D0 W s now x) W.heap.size 58 s (.int .i64 now) ∧ FourA (D0 W s now x) (W.heap.size + 1) 62 x ∧ Two (D0 W s now x) (W.heap.size + 1 + 1) 58 (.slice none 0 0) (.int .i64 0) := by
  have h1 := Two.new W 58 s (.int .i64 now)
  have e1 : (W.alloc (.cells #[s, .int .i64 now] 58)).heap.size = W.heap.size + 1 := by simp
  have h2 := World.alloc_heap_new (W.alloc (.cells #[s, .int .i64 now] 58)) (.cells #[.int .i64 x.a, .int .i64 x.b, .int .i64 x.c, .int .i64 x.d] 62)
  rw [e1] at h2
  have h3 := Two.new ((W.alloc (.cells #[s, .int .i64 now] 58)).alloc (.cells #[.int .i64 x.a, .int .i64 x.b, .int .i64 x.c, .int .i64 x.d] 62)) 58 (.slice none 0 0) (.int .i64 0)
  have e2 : ((W.alloc (.cells #[s, .int .i64 now] 58)).alloc (.cells #[.int .i64 x.a, .int .i64 x.b, .int .i64 x.c, .int .i64 x.d] 62)).heap.size = W.heap.size + 1 + 1 := by simp
  rw [e2] at h3
  exact ⟨((fr_alloc _ _ _).alloc _).alloc _, by simp [D0], (h1.fr0 (fr_alloc _ _ _)).fr0 (fr_alloc _ _ _), (fr_alloc (fun _ => False) _ _).heap h2 (fun x => x), h3⟩
set_option maxHeartbeats 8000000 in
theorem Do40_is {W : World} {B c k BL cl now : Nat} {A : Option Addr} {P Q : List V4I} (h : SSt W B c k P Q now) (hl : StAt W BL A cl (P ++ Q)) (hk : k ≤ 130) (hB : B ≤ W.heap.size) (hBL : BL ≤ W.heap.size) {x : ActI} (hx : ActOk x) :
    Calls Try.prog 29 #[.pointer (some ⟨c, 0, none⟩), .agg #[.slice A (P ++ Q).length cl, .int .i64 (now : Int)], .agg #[.int .i64 x.a, .int .i64 x.b, .int .i64 x.c, .int .i64 x.d]] W (Rets (Do40Post W B c BL (k + 1) (P2 P Q now x) (Q2 Q x) (n2 now x))) := by
  obtain ⟨xa, xb, xc, xd⟩ := x
  obtain ⟨wa, wb, wc, wd⟩ := hx
  simp only at wa wb wc wd
  have hll : (P ++ Q).length = P.length + Q.length := List.length_append
  obtain ⟨L, hLQ⟩ : ∃ L, L = P ++ Q := ⟨_, rfl⟩
  rw [← hLQ] at hl hll ⊢
  obtain ⟨hf0, hs0, hA0, hX0, hR0⟩ := D0_facts W (.slice A L.length cl) (now : Int) ⟨xa, xb, xc, xd⟩
  have HW := Lib.hid (show ((W.alloc (.cells #[.slice A L.length cl, .int .i64 (now : Int)] 58)).alloc (.cells #[.int .i64 xa, .int .i64 xb, .int .i64 xc, .int .i64 xd] 62)).alloc (.cells #[.slice none 0 0, .int .i64 0] 58) = D0 W (.slice A L.length cl) (now : Int) ⟨xa, xb, xc, xd⟩ from rfl)
  generalize D0 W (.slice A L.length cl) (now : Int) ⟨xa, xb, xc, xd⟩ = w0 at hf0 hs0 hA0 hX0 hR0 HW
  have h0 := h.fr0 hf0
  have hl0 := hl.fr0 hf0
  have k0 := hX0.k0
  have k1 := hX0.k1
  have k2 := hX0.k2
  have k3 := hX0.k3
  simp only at k0 k1 k2 k3
  obtain ⟨⟨b, n, Ao, co, m, hn, hs⟩, hlen, hnow⟩ := h0
  have hLl : L.length ≤ 130 := by omega
  have HB0 := Lib.hid (show ∀ w', Fr (FootS B w0) w0 w' → Two w' W.heap.size 58 (.slice A L.length cl) (.int .i64 (now : Int)) ∧ FourA w' (W.heap.size + 1) 62 ⟨xa, xb, xc, xd⟩ ∧ Two w' (W.heap.size + 1 + 1) 58 (.slice none 0 0) (.int .i64 0) ∧ StAt w' BL A cl L from fun w' f => ⟨hA0.foot f (by decide) (by decide) (by decide), heap_foot hX0 f (by decide) (by decide) (by decide), hR0.foot f (by decide) (by decide) (by decide), own_foot hl0 f (by decide) (by decide) (by decide)⟩)
  have hpok := hs.pok
  have hqok := hs.qok
  have c0 := (HB0.out w0 (Fr.refl _ _)).1.c0
  have c1 := (HB0.out w0 (Fr.refl _ _)).1.c1
  have HSo := Lib.hid h
  have HLo := Lib.hid hl
  clear h hl hA0 hX0 hll
  by_cases a0 : xa = 0
  · subst a0
    have e1 : P2 P Q now ⟨0, xb, xc, xd⟩ = P := by simp [P2]
    have e2 : Q2 Q ⟨0, xb, xc, xd⟩ = Q ++ [⟨xb, xc, xd, 0⟩] := by simp [Q2]
    have e3 : n2 now ⟨0, xb, xc, xd⟩ = now := by simp [n2]
    rw [e1, e2, e3]
    have HP := Lib.hid (SAppend_is hs (by omega) (by omega) (id := xb) (value := xd) wc)
    have HRf := Lib.hid (fun w' (f : Fr (FootS B w0) w0 w') => Append40_is (c := cl) (now := (now : Int)) ((HB0.out w' f).2.2.2.v4 (by omega)) (HB0.out w' f).2.2.2.plain (by omega) xb xc xd)
    have hL2 : L ++ [⟨xb, xc, xd, 0⟩] = P ++ (Q ++ [⟨xb, xc, xd, 0⟩]) := by rw [hLQ, List.append_assoc]
    rw [hL2] at HRf
    have hQl : P.length + (Q ++ [(⟨xb, xc, xd, 0⟩ : V4I)]).length ≤ k + 1 := by simp; omega
    generalize Q ++ [(⟨xb, xc, xd, 0⟩ : V4I)] = Q' at HP HRf hQl ⊢
    generalize hLL : P ++ Q' = L2 at HRf
    have HLL := Lib.hid hLL
    clear hs hL2 e1 e2 e3 hLL hLQ hpok hqok hl0 hR0
    go_enter Try.func29, Try.ntmps29
    go_wp2_with fail
    rw [HW.out]
    clear HW
    go_wp2_with (first
      | (go_at_call 64; refine (HRf.out _ hf1).mono ?_; rintro e w2 ⟨_, rfl, A2, c2, rfl, hf2, hl2⟩; have hR2 := (HB0.out _ hf1).2.2.1.fr0 hf2; have r0 := hR2.c0; have f0 := hR2.fz 0; have r1 := (hR2.set0 (.slice A2 L2.length c2)).c1; have f1 := (hR2.set0 (.slice A2 L2.length c2)).fz 1; have r2 := ((hR2.set0 (.slice A2 L2.length c2)).set1 (.int .i64 (now : Int))).c0; have r3 := ((hR2.set0 (.slice A2 L2.length c2)).set1 (.int .i64 (now : Int))).c1)
      | (go_at_call 62; refine (HP.out).mono ?_; rintro e w1 ⟨_, rfl, rfl, Ao', co', hs1, hf1⟩; have j0 := (HB0.out _ hf1).1.c0; have j1 := (HB0.out _ hf1).1.c1; have j2 := (HB0.out _ hf1).2.1.k1; have j3 := (HB0.out _ hf1).2.1.k2; have j4 := (HB0.out _ hf1).2.1.k3; simp only at j2 j3 j4))
    have HE := do_end (W := W) (B := B) (c := c) (BL := BL) (k := k + 1) (bR := W.heap.size + 1 + 1) (by omega) ((FootS.trans' (FootS.of0 hf0) hf1).trans0 hf2) (SSt.fr0 ⟨⟨b, n, Ao', co', m, by omega, hs1⟩, hQl, by omega⟩ hf2) (by rw [HLL.out]; exact hl2.base (by have := hf1.size; omega)) hR2 (.slice A2 L2.length c2) (.int .i64 (now : Int))
    refine bodyPost_ret (v := .tuple #[.agg #[(.slice A2 L2.length c2), (.int .i64 (now : Int))], .bool true]) ?_ rfl ?_
    · simp only [results, show Try.f29.results = #[ResultVar.cell 6 58, ResultVar.tmp 7] from rfl]
      go_simp
    · exact ⟨_, rfl, A2, c2, by rw [HLL.out], HE.1, HE.2.1, HE.2.2⟩
  · have d0 : (xa == 0) = false := by simpa using a0
    by_cases a1 : xa = 1
    · subst a1
      have e1 : P2 P Q now ⟨1, xb, xc, xd⟩ = P ++ comQ xb ((now + 1 : Nat) : Int) Q := by simp [P2]
      have e2 : Q2 Q ⟨1, xb, xc, xd⟩ = selV (notP xb) (fun x => x) Q := by simp [Q2]
      have e3 : n2 now ⟨1, xb, xc, xd⟩ = now + 1 := by simp [n2]
      rw [e1, e2, e3]
      have HP := Lib.hid (SCommit_is hs (by omega) (by omega) (by omega) (by omega) (by omega) xb)
      have HRf := Lib.hid (fun w' (f : Fr (FootS B w0) w0 w') => Commit40_is (c := cl) (now := now) ((HB0.out w' f).2.2.2.v4 (by omega)) (by omega) (by omega) xb)
      have ecast : ((now : Int) + 1) = ((now + 1 : Nat) : Int) := by omega
      rw [ecast] at HRf
      have hL2 : commitL L xb ((now + 1 : Nat) : Int) = (P ++ comQ xb ((now + 1 : Nat) : Int) Q) ++ selV (notP xb) (fun x => x) Q := by rw [hLQ]; exact commitL_split hpok hqok _ _
      rw [hL2] at HRf
      have hQl : (P ++ comQ xb ((now + 1 : Nat) : Int) Q).length + (selV (notP xb) (fun x => x) Q).length ≤ k + 1 := by
        have := sel_split Q xb ((now + 1 : Nat) : Int)
        rw [List.length_append]; omega
      have hQle : Q.length ≤ k := by omega
      generalize P ++ comQ xb ((now + 1 : Nat) : Int) Q = P' at HP HRf hQl ⊢
      generalize selV (notP xb) (fun x => x) Q = Q' at HP HRf hQl ⊢
      generalize hN : now + 1 = N1 at HP HRf ⊢
      generalize hLL : P' ++ Q' = L2 at HRf
      have HLL := Lib.hid hLL
      clear hs hL2 e1 e2 e3 hLL hLQ hpok hqok hl0 hR0 a0 ecast
      go_enter Try.func29, Try.ntmps29
      go_wp2_with fail
      rw [HW.out]
      clear HW
      go_wp2_with (first
        | (go_at_call 65; refine (HRf.out _ hf1).mono ?_; rintro e w2 ⟨_, rfl, A2, c2, rfl, hf2', hl2'⟩; obtain ⟨w2x, hw2x⟩ : ∃ w2x, w2x = w2.alloc (.cells #[.slice A2 L2.length c2, .int .i64 (N1 : Int)] 58) := ⟨_, rfl⟩; have hb2 := Two.new w2 58 (.slice A2 L2.length c2) (.int .i64 (N1 : Int)); have q0 := hb2.c0; have q1 := hb2.c1; have hR2 := ((HB0.out _ hf1).2.2.1.fr0 hf2').fr0 (fr_alloc _ w2 (.cells #[.slice A2 L2.length c2, .int .i64 (N1 : Int)] 58)); have r0 := hR2.c0; have f0 := hR2.fz 0; have r1 := (hR2.set0 (.slice A2 L2.length c2)).c1; have f1 := (hR2.set0 (.slice A2 L2.length c2)).fz 1; have r2 := ((hR2.set0 (.slice A2 L2.length c2)).set1 (.int .i64 (N1 : Int))).c0; have r3 := ((hR2.set0 (.slice A2 L2.length c2)).set1 (.int .i64 (N1 : Int))).c1)
        | (go_at_call 63; refine (HP.out).mono ?_; rintro e w1 ⟨_, rfl, rfl, n', Ao', co', m', hn', hs1, hf1⟩; have j0 := (HB0.out _ hf1).1.c0; have j1 := (HB0.out _ hf1).1.c1; have j2 := (HB0.out _ hf1).2.1.k1; simp only at j2))
      have hf2 := hf2'.trans0 (fr_alloc (fun _ => False) w2 (.cells #[.slice A2 L2.length c2, .int .i64 (N1 : Int)] 58))
      have hl2 := hl2'.fr0 (fr_alloc (fun _ => False) w2 (.cells #[.slice A2 L2.length c2, .int .i64 (N1 : Int)] 58))
      have HE := do_end (W := W) (B := B) (c := c) (BL := BL) (k := k + 1) (bR := W.heap.size + 1 + 1) (by omega) ((FootS.trans' (FootS.of0 hf0) hf1).trans0 hf2) (SSt.fr0 ⟨⟨b, n', Ao', co', m', by omega, hs1⟩, hQl, by omega⟩ hf2) (by rw [HLL.out]; exact hl2.base (by have := hf1.size; omega)) hR2 (.slice A2 L2.length c2) (.int .i64 (N1 : Int))
      refine bodyPost_ret (v := .tuple #[.agg #[(.slice A2 L2.length c2), (.int .i64 (N1 : Int))], .bool true]) ?_ rfl ?_
      · simp only [results, show Try.f29.results = #[ResultVar.cell 6 58, ResultVar.tmp 7] from rfl]
        go_simp
      · exact ⟨_, rfl, A2, c2, by rw [HLL.out], HE.1, HE.2.1, HE.2.2⟩
    · have d1 : (xa == 1) = false := by simpa using a1
      by_cases a2 : xa = 2
      · subst a2
        have e1 : P2 P Q now ⟨2, xb, xc, xd⟩ = P := by simp [P2]
        have e2 : Q2 Q ⟨2, xb, xc, xd⟩ = selV (notP xb) (fun x => x) Q := by simp [Q2]
        have e3 : n2 now ⟨2, xb, xc, xd⟩ = now := by simp [n2]
        rw [e1, e2, e3]
        have HP := Lib.hid (SAbort_is hs (by omega) (by omega) xb)
        have HRf := Lib.hid (fun w' (f : Fr (FootS B w0) w0 w') => Abort40_is (c := cl) ((HB0.out w' f).2.2.2.v4 (by omega)) (by omega) (now : Int) xb)
        have hL2 : abortL L xb = P ++ selV (notP xb) (fun x => x) Q := by rw [hLQ]; exact abortL_split hpok hqok _
        rw [hL2] at HRf
        have hQl : P.length + (selV (notP xb) (fun x => x) Q).length ≤ k + 1 := by have := selV_len (notP xb) (fun x => x) Q; omega
        generalize selV (notP xb) (fun x => x) Q = Q' at HP HRf hQl ⊢
        generalize hLL : P ++ Q' = L2 at HRf
        have HLL := Lib.hid hLL
        clear hs hL2 e1 e2 e3 hLL hLQ hpok hqok hl0 hR0 a0 a1
        go_enter Try.func29, Try.ntmps29
        go_wp2_with fail
        rw [HW.out]
        clear HW
        go_wp2_with (first
          | (go_at_call 67; refine (HRf.out _ hf1).mono ?_; rintro e w2 ⟨_, rfl, A2, c2, rfl, hf2, hl2⟩; have hR2 := (HB0.out _ hf1).2.2.1.fr0 hf2; have r0 := hR2.c0; have f0 := hR2.fz 0; have r1 := (hR2.set0 (.slice A2 L2.length c2)).c1; have f1 := (hR2.set0 (.slice A2 L2.length c2)).fz 1; have r2 := ((hR2.set0 (.slice A2 L2.length c2)).set1 (.int .i64 (now : Int))).c0; have r3 := ((hR2.set0 (.slice A2 L2.length c2)).set1 (.int .i64 (now : Int))).c1)
          | (go_at_call 66; refine (HP.out).mono ?_; rintro e w1 ⟨_, rfl, rfl, Ao', co', hs1, hf1⟩; have j0 := (HB0.out _ hf1).1.c0; have j1 := (HB0.out _ hf1).1.c1; have j2 := (HB0.out _ hf1).2.1.k1; simp only at j2))
        have HE := do_end (W := W) (B := B) (c := c) (BL := BL) (k := k + 1) (bR := W.heap.size + 1 + 1) (by omega) ((FootS.trans' (FootS.of0 hf0) hf1).trans0 hf2) (SSt.fr0 ⟨⟨b, n, Ao', co', m, by omega, hs1⟩, hQl, by omega⟩ hf2) (by rw [HLL.out]; exact hl2.base (by have := hf1.size; omega)) hR2 (.slice A2 L2.length c2) (.int .i64 (now : Int))
        refine bodyPost_ret (v := .tuple #[.agg #[(.slice A2 L2.length c2), (.int .i64 (now : Int))], .bool true]) ?_ rfl ?_
        · simp only [results, show Try.f29.results = #[ResultVar.cell 6 58, ResultVar.tmp 7] from rfl]
          go_simp
        · exact ⟨_, rfl, A2, c2, by rw [HLL.out], HE.1, HE.2.1, HE.2.2⟩
      · have d2 : (xa == 2) = false := by simpa using a2
        have e1 : P2 P Q now ⟨xa, xb, xc, xd⟩ = P := by simp [P2, a1]
        have e2 : Q2 Q ⟨xa, xb, xc, xd⟩ = Q := by simp [Q2, a0, a1, a2]
        have e3 : n2 now ⟨xa, xb, xc, xd⟩ = now := by simp [n2, a1]
        rw [e1, e2, e3]
        have HLL := Lib.hid hLQ.symm
        clear hs hl0 hR0 hLQ hpok hqok e1 e2 e3
        go_enter Try.func29, Try.ntmps29
        go_wp2_with fail
        refine bodyPost_ret (v := .tuple #[.agg #[(.slice A L.length cl), (.int .i64 (now : Int))], .bool true]) ?_ rfl ?_
        · simp only [results, show Try.f29.results = #[ResultVar.cell 6 58, ResultVar.tmp 7] from rfl]
          go_simp
        · have hfz : Fr0 W (((W.alloc (.cells #[.slice A L.length cl, .int .i64 (now : Int)] 58)).alloc (.cells #[.int .i64 xa, .int .i64 xb, .int .i64 xc, .int .i64 xd] 62)).alloc (.cells #[.slice A L.length cl, .int .i64 (now : Int)] 58)) := ((fr_alloc _ _ _).alloc _).alloc _
          obtain ⟨⟨b', n', Ao', co', m', hn', hs'⟩, g1, g2⟩ := HSo.out.fr0 hfz
          refine ⟨_, rfl, A, cl, by rw [HLL.out], FootS.of0 hfz, ⟨⟨b', n', Ao', co', m', by omega, hs'⟩, by omega, by omega⟩, ?_⟩
          rw [HLL.out]; exact HLo.out.fr0 hfz
end Go.Proofs.Ytekigojbkhjdbaa
