/- What was seen up to a commit stays: pure. -/
import Derived.Test.YtekigojbkhjdbaaStorePure
namespace Go.Proofs.Ytekigojbkhjdbaa
set_option linter.all false
open Go.RowKit Go.Maps
set_option maxRecDepth 100000

def SortedP (P : List V4I) : Prop := P.Pairwise (fun x y => x.s ≤ y.s)
def NotMe (Q : List V4I) : Prop := ∀ x ∈ Q, x.i ≠ 99
theorem SSt.mono {W : World} {B c k k' now : Nat} {P Q : List V4I} (h : SSt W B c k P Q now) (hk : k ≤ k') : SSt W B c k' P Q now := by
  obtain ⟨⟨b, n, Ao, co, m, hn, hs⟩, h1, h2⟩ := h
  exact ⟨⟨b, n, Ao, co, m, by omega, hs⟩, by omega, by omega⟩
theorem stay_step {P Q : List V4I} {now : Nat} {x : ActI} (hp : POk now P) (hs : SortedP P) (hq : NotMe Q) (hx : x.b ≠ 99) :
    SortedP (P2 P Q now x) ∧ NotMe (Q2 Q x) ∧ (now ≤ n2 now x) ∧ ∃ R, P2 P Q now x = P ++ R ∧ ∀ y ∈ R, (now : Int) < y.s := by
  have hc : ∀ y ∈ comQ x.b ((now + 1 : Nat) : Int) Q, y.s = ((now + 1 : Nat) : Int) := fun y hy => by
    unfold comQ selV at hy
    obtain ⟨z, _, rfl⟩ := List.mem_map.1 hy
    rfl
  have hn : NotMe (selV (notP x.b) (fun x => x) Q) := fun y hy => by
    unfold selV at hy
    simp at hy
    exact hq y hy.1
  refine ⟨?_, ?_, ?_, ?_⟩
  · unfold P2
    split
    · refine List.pairwise_append.2 ⟨hs, ?_, fun a ha b hb => ?_⟩
      · refine List.pairwise_of_forall_mem_list (fun a ha b hb => ?_)
        rw [hc a ha, hc b hb]; exact Int.le_refl _
      · have := (hp a ha).2.1
        rw [hc b hb]; omega
    · exact hs
  · unfold Q2
    split
    · intro y hy
      rcases List.mem_append.1 hy with hy | hy
      · exact hq y hy
      · rw [List.mem_singleton.1 hy]; exact hx
    · split
      · exact hn
      · split
        · exact hn
        · exact hq
  · unfold n2; split <;> omega
  · unfold P2
    split
    · exact ⟨_, rfl, fun y hy => by rw [hc y hy]; omega⟩
    · exact ⟨[], by simp, fun y hy => by cases hy⟩
/-- What 99 sees. -/
def seen99 (key u : Int) (P : List V4I) : List Int := selV (comP key u) (fun x => x.v) P
theorem seen99_eq {P Q : List V4I} (hq : NotMe Q) (key u : Int) : selV (comP key u) (fun x => x.v) P ++ selV (opnP 99 key) (fun x => x.v) Q = seen99 key u P := by
  rw [selV_none (p := opnP 99 key) (l := Q) (fun x hx => by have := hq x hx; simp [opnP]; intro h; exact absurd h this), List.append_nil]
  rfl
theorem seen99_more {P R : List V4I} {now : Nat} (hr : ∀ y ∈ R, (now : Int) < y.s) (key u : Int) (hu : u ≤ (now : Int)) : seen99 key u (P ++ R) = seen99 key u P := by
  unfold seen99
  rw [selV_app, selV_none (p := comP key u) (l := R) (fun x hx => by have := hr x hx; simp [comP]; intro _; omega), List.append_nil]
theorem seen99_pre (key : Int) {u w : Int} (huw : u ≤ w) : ∀ {P : List V4I}, SortedP P → seen99 key u P <+: seen99 key w P
  | [], _ => by simp [seen99, selV]
  | x :: P, h => by
    obtain ⟨h1, h2⟩ := List.pairwise_cons.1 h
    have ih := seen99_pre key huw h2
    unfold seen99 selV at ih ⊢
    by_cases hk : x.k = key
    · by_cases hs : x.s ≤ u
      · have a1 : comP key u x = true := by simp [comP, hk, hs]
        have a2 : comP key w x = true := by simp [comP, hk]; omega
        rw [List.filter_cons_of_pos a1, List.filter_cons_of_pos a2, List.map_cons, List.map_cons]
        exact List.cons_prefix_cons.2 ⟨rfl, ih⟩
      · have e : (x :: P).filter (comP key u) = [] := by
          rw [List.filter_eq_nil_iff]
          intro y hy
          rcases List.mem_cons.1 hy with rfl | hy
          · simp [comP]; intro _; omega
          · have := h1 y hy
            simp [comP]; intro _; omega
        rw [e]; exact List.nil_prefix
    · have a1 : ¬ comP key u x = true := by simp [comP, hk]
      have a2 : ¬ comP key w x = true := by simp [comP, hk]
      rw [List.filter_cons_of_neg a1, List.filter_cons_of_neg a2]
      exact ih
theorem seen99_whole {P R : List V4I} {now now' : Nat} (hp : POk now P) (hn : now ≤ now') (key : Int) : seen99 key (now : Int) P <+: seen99 key (now' : Int) (P ++ R) := by
  unfold seen99
  rw [selV_app, selV_congr (p := comP key (now' : Int)) (q := comP key (now : Int)) (l := P) (fun x hx => by
    have := (hp x hx).2.1
    have h1 : decide (x.s ≤ (now' : Int)) = true := by simp; omega
    have h2 : decide (x.s ≤ (now : Int)) = true := by simp; omega
    simp only [comP, h1, h2])]
  exact List.prefix_append _ _
theorem seen99_len (key u : Int) (P : List V4I) : (seen99 key u P).length ≤ P.length := selV_len _ _ _
theorem grow_R {P0 P P' : List V4I} {now0 now now' : Nat} (h : ∃ R, P = P0 ++ R ∧ (∀ y ∈ R, (now0 : Int) < y.s) ∧ now0 ≤ now) (h2 : now ≤ now') (h3 : ∃ R, P' = P ++ R ∧ ∀ y ∈ R, (now : Int) < y.s) :
    ∃ R, P' = P0 ++ R ∧ (∀ y ∈ R, (now0 : Int) < y.s) ∧ now0 ≤ now' := by
  obtain ⟨R, rfl, h4, h5⟩ := h
  obtain ⟨T, rfl, h6⟩ := h3
  refine ⟨R ++ T, List.append_assoc .., fun y hy => ?_, by omega⟩
  rcases List.mem_append.1 hy with hy | hy
  · exact h4 y hy
  · have := h6 y hy; omega
theorem row_end {W w3 : World} {B bR B0 n : Nat} {v u v' : Value} {xs : List Value} (h : W.ownsRow B0 3 1 v n xs) (hF : Fr (FootS B W) W w3) (hR : Two w3 bR 58 u v') (s m : Value) : ((w3.setCell ⟨bR, 0, none⟩ s).setCell ⟨bR, 1, none⟩ m).ownsRow B0 3 1 v n xs := by
  have h3 := own_foot h hF (by decide) (by decide) (by decide)
  have f : Fr (fun j => j = bR) w3 ((w3.setCell ⟨bR, 0, none⟩ s).setCell ⟨bR, 1, none⟩ m) := (fr_setCell (S := fun j => j = bR) w3 ⟨bR, 0, none⟩ s (fun _ => rfl)).setCell ⟨bR, 1, none⟩ m (fun _ => rfl)
  exact own_fr h3 f (fun q hq e => own_ne h3 hR (by decide) (e ▸ hq))
theorem ho_le {W : World} {B n c : Nat} {A : Option Addr} {xs : List Value} (h : W.ownsRow B 3 1 (.slice A n c) n xs) : n ≤ c := by
  rcases h.2 with ⟨e, h0⟩ | ⟨g, cap, cur, e, _, _, h3, _⟩
  · cases e; omega
  · cases e; omega
theorem Is15_is {W : World} {A B : Option Addr} {c d : Nat} {xs ys : List Int} (h : IntsAt W A xs) (h2 : IntsAt W B ys) (hd : ys.length ≤ d) (hpre : xs <+: ys) :
    Calls Try.prog 39 #[.slice A xs.length c, .slice B ys.length d] W (Rets (SamePost true W)) := by
  have hle := hpre.length_le
  have he := List.prefix_iff_eq_take.1 hpre
  have hls := slice_head B ys.length d xs.length (by omega)
  have hS := Same_is (c := c) (d := d) h (h2.take xs.length)
  have hlt : (ys.take xs.length).length = xs.length := by rw [List.length_take]; omega
  rw [hlt, ← he] at hS
  have HS := Lib.hid hS
  have hle' : (xs.length : Int) ≤ (ys.length : Int) := by omega
  clear hS h h2 hpre he hlt
  go_enter Try.func39, Try.ntmps39
  go_wp2_with (go_at_call 21; refine (HS.out).mono ?_; rintro e w' ⟨_, rfl, h1, hf⟩; simp at h1; subst h1)
  go_ret
  exact ⟨_, rfl, rfl, hf⟩
end Go.Proofs.Ytekigojbkhjdbaa
