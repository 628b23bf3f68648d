/- The document's store: was a key changed; appending. -/
import Derived.Test.YtekigojbkhjdbaaRef40
import Derived.Test.YtekigojbkhjdbaaAppRow
namespace Go.Proofs.Ytekigojbkhjdbaa
set_option linter.all false
open Go.RowKit
set_option maxRecDepth 100000

/-- A block of two cells. -/
def Two (W : World) (b t : Nat) (u v : Value) : Prop := W.heap[b]? = some (.cells #[u, v] t (0, 0))
section
variable {W W' : World} {b t : Nat} {u v : Value}
theorem Two.c0 (h : Two W b t u v) : W.cell? ⟨b, 0, none⟩ = some u := by unfold Two at h; simp [World.cell?, h]
theorem Two.c1 (h : Two W b t u v) : W.cell? ⟨b, 1, none⟩ = some v := by unfold Two at h; simp [World.cell?, h]
theorem Two.fz (h : Two W b t u v) (o : Nat) : W.frozen? ⟨b, o, none⟩ = false := by unfold Two at h; simp [World.frozen?, h]
theorem Two.fr {S : Nat → Prop} (h : Two W b t u v) (f : Fr S W W') (hs : ¬ S b) : Two W' b t u v := f.heap h hs
theorem Two.fr0 (h : Two W b t u v) (f : Fr0 W W') : Two W' b t u v := f.heap h (fun x => x)
theorem Two.new (w : World) (t : Nat) (u v : Value) : Two (w.alloc (.cells #[u, v] t)) w.heap.size t u v := World.alloc_heap_new w _
theorem Two.set0 (h : Two W b t u v) (x : Value) : Two (W.setCell ⟨b, 0, none⟩ x) b t x v := by
  unfold Two at h ⊢
  simp only [World.setCell, Array.getElem?_modify, h, if_true]
  simp
theorem Two.set1 (h : Two W b t u v) (x : Value) : Two (W.setCell ⟨b, 1, none⟩ x) b t u x := by
  unfold Two at h ⊢
  simp only [World.setCell, Array.getElem?_modify, h, if_true]
  simp
theorem Two.lt (h : Two W b t u v) : b < W.heap.size := heap_lt h
end
theorem tups_news {α : Type} {enc : α → List Int} {k : Nat} (hk : ∀ a, (enc a).length = k) (hk0 : 0 < k) {W : World} {b o : Nat} {l : List α} (h : TupsAt enc k W (some ⟨b, o, none⟩) l) : ∀ j u, (tupCells enc l)[j]? = some u → W.cell? ((⟨b, o, none⟩ : Addr).add j) = some u := by
  intro j u hu
  have hj : j < l.length * k := by rw [← tupCells_len hk]; exact (List.getElem?_eq_some_iff.1 hu).1
  have hi : j / k < l.length := by rw [Nat.div_lt_iff_lt_mul hk0]; exact hj
  have e : j = j / k * k + j % k := by rw [Nat.mul_comm]; exact (Nat.div_add_mod j k).symm
  have hm := Nat.mod_lt j hk0
  have h3 := tupCells_get hk l (j / k) hi (j % k) hm
  rw [← e, hu] at h3
  obtain ⟨b', o', e', hc⟩ := h.at_ hi
  cases e'
  have ha : (⟨b, o, none⟩ : Addr).add j = ⟨b, o + j, none⟩ := by
    unfold Addr.add
    split
    · rename_i h0; subst h0; rfl
    · rfl
  rw [ha]
  have := hc (j % k) hm
  rw [show o + j / k * k + j % k = o + j by omega] at this
  rw [this, ← h3]
theorem run_append_tups {α : Type} {enc : α → List Int} {P : Program} {sl e k bytes : Nat} {i0 : TypeInfo} {z : Value} (hu : P.underlying sl = some (.slice e)) (hi : P.info? e = some i0) (hz0 : i0.zero = some z) (hz1 : i0.size = k) (hz2 : i0.bytes = bytes) (hzc : z.cells.size = k) (hk0 : 0 < k)
    (hk : ∀ a, (enc a).length = k) {w : World} {B : Nat} {v : Value} {xs ys : List α} (hown : w.ownsRow B e k v xs.length (tupCells enc xs)) {A : Option Addr} {c : Nat} (hy : TupsAt enc k w A ys) (hp : Plain A ys.length c)
    (hl : xs.length + ys.length ≤ maxLen) (hb : (xs.length + ys.length) * bytes ≤ 140737488355328) (hB : B ≤ w.heap.size) (ty : Nat) :
    ∃ v' w', (Builtin.append_ #[sl, sl] ty #[v, .slice A ys.length c]).run P w = .ok v' w' ∧ w'.ownsRow B e k v' (xs ++ ys).length (tupCells enc (xs ++ ys)) ∧ w.grownBy w' v.ownBlock := by
  have e1 : tupCells enc xs ++ tupCells enc ys = tupCells enc (xs ++ ys) := by simp [tupCells]
  have el : xs.length + ys.length = (xs ++ ys).length := by simp
  cases A with
  | none =>
    obtain ⟨h1, h2⟩ := hp rfl
    have := List.eq_nil_of_length_eq_zero h1
    subst this
    subst h2
    refine ⟨v, w, run_append_owned_none w B sl ty e i0 k hu hi v xs.length (tupCells enc xs) hown, by simpa using hown, ⟨rfl, rfl, rfl, Nat.le_refl _, fun _ _ _ => rfl⟩⟩
  | some ad =>
    have hnews : ∀ j u, (tupCells enc ys)[j]? = some u → w.cell? (ad.add j) = some u := by
      rcases hy.2 with e | ⟨b, o, e, _⟩
      · subst e; intro j u hu; simp [tupCells] at hu
      · cases e; exact tups_news hk hk0 hy
    obtain ⟨v', w', hr, h2, h3, _⟩ := run_append_own (P := P) (w := w) B sl ty e i0 z k bytes hu hi hz0 hz1 hz2 hzc hk0 v xs.length (tupCells enc xs) hown ad ys.length c (tupCells enc ys) (tupCells_len hk ys) hnews (tupCells_one ys) hl hb hB
    exact ⟨v', w', hr, by rw [e1, el] at h2; exact h2, h3⟩
theorem info_v4 : (Try.prog.info? 109).map (fun i => (i.zero, i.size, i.bytes)) = some (some (.agg #[.int .i64 0, .int .i64 0, .int .i64 0, .int .i64 0]), 4, 32) := by kernel_rfl
theorem run_append_v4 {w : World} {B : Nat} {v : Value} {xs ys : List V4I} (hown : w.ownsRow B 109 4 v xs.length (tupCells v4E xs)) {A : Option Addr} {c : Nat} (hy : TupsAt v4E 4 w A ys) (hp : Plain A ys.length c)
    (hl : xs.length + ys.length ≤ 1000000) (hB : B ≤ w.heap.size) (ty : Nat) :
    ∃ v' w', (Builtin.append_ #[56, 56] ty #[v, .slice A ys.length c]).run Try.prog w = .ok v' w' ∧ w'.ownsRow B 109 4 v' (xs ++ ys).length (tupCells v4E (xs ++ ys)) ∧ w.grownBy w' v.ownBlock := by
  obtain ⟨i0, hi, hz0, hz1, hz2⟩ := info_parts info_v4
  exact run_append_tups Try.underlying56 hi hz0 hz1 hz2 rfl (by decide) v4E_len hown hy hp (by unfold maxLen; omega) (by omega) hB ty
/-- The document's store, its values in a row of its own from block B on. -/
def StAt (W : World) (B : Nat) (A : Option Addr) (c : Nat) (l : List V4I) : Prop := W.ownsRow B 109 4 (.slice A l.length c) l.length (tupCells v4E l)
abbrev stV (A : Option Addr) (n c : Nat) (now : Int) : Value := .agg #[.slice A n c, .int .i64 now]
theorem StAt.v4 {W : World} {B c : Nat} {A : Option Addr} {l : List V4I} (h : StAt W B A c l) (hl : l.length ≤ 1000000) : V4At W A l := own_tups v4E_len h (by omega)
theorem StAt.fr0 {W W' : World} {B c : Nat} {A : Option Addr} {l : List V4I} (h : StAt W B A c l) (f : Fr0 W W') : StAt W' B A c l := own_fr0 h f
theorem StAt.base {W : World} {B B0 c : Nat} {A : Option Addr} {l : List V4I} (h : StAt W B A c l) (hB : B0 ≤ B) : StAt W B0 A c l := own_base h hB
theorem StAt.plain {W : World} {B c : Nat} {A : Option Addr} {l : List V4I} (h : StAt W B A c l) : Plain A l.length c := plain_own h
theorem StAt.nil (W : World) (B : Nat) : StAt W B none 0 [] := own_nil _ _ _ _
def StPost (W : World) (l : List V4I) (now : Int) (v : Value) (w' : World) : Prop := ∃ A c, v = stV A l.length c now ∧ Fr0 W w' ∧ StAt w' W.heap.size A c l
theorem any_take_T {l : List V4I} {p : V4I → Bool} {k : Nat} {x : V4I} (h : (l.take k).any p = false) (e : l.take (k + 1) = l.take k ++ [x]) : (l.take (k + 1)).any p = p x := by
  rw [e, List.any_append, h]; simp
theorem any_of_take {l : List V4I} {p : V4I → Bool} {k : Nat} (h : (l.take k).any p = true) : l.any p = true := by
  obtain ⟨x, hx, hp⟩ := List.any_eq_true.1 h
  exact List.any_eq_true.2 ⟨x, List.mem_of_mem_take hx, hp⟩
set_option maxHeartbeats 4000000 in
theorem Changed40_is {W : World} {A : Option Addr} {c : Nat} {l : List V4I} (h : V4At W A l) (hsm : l.length ≤ 100000) (now key since : Int) :
    Calls Try.prog 36 #[.agg #[.slice A l.length c, .int .i64 now], .int .i64 key, .int .i64 since] W (Rets (SamePost (l.any (chgP key since)) W)) := by
  obtain ⟨w1, hw1⟩ : ∃ w1, w1 = W.alloc (.cells #[.slice A l.length c, .int .i64 now] 58) := ⟨_, rfl⟩
  have hf1 : Fr0 W w1 := hw1 ▸ fr_alloc _ _ _
  have hx := two_cells W (.slice A l.length c) (.int .i64 now) 58
  rw [← hw1] at hx
  have X1 := Lib.hid hx.1
  have HX := Lib.hid (h.fr0 hf1)
  clear h hx
  go_enter Try.func36, Try.ntmps36
  go_wp2_with fail
  rw [← hw1]
  clear hw1
  go_loopw [7] (fun v7 wr => ∃ k : Nat, k ≤ l.length ∧ v7 = .int .i64 k ∧ Hid ((l.take k).any (chgP key since) = false) ∧ w1 = wr) (fun v7 _ => l.length - (intOf v7).toNat)
  case atStart => exact ⟨0, by omega, rfl, Lib.hid rfl, rfl⟩
  case round =>
    obtain ⟨k, hk, rfl, HN, rfl⟩ := hrel
    have y1 := X1.out
    by_cases hlt : k < l.length
    · obtain ⟨b, o, x, rfl, he, c0, c1, c2, c4⟩ := v4_at HX.out hlt
      have hlt' : (k : Int) < (l.length : Int) := by omega
      have hT := any_take_T HN.out he
      have hany := fun h => any_of_take (l := l) (p := chgP key since) (k := k + 1) h
      by_cases h1 : x.k = key
      · have d1 : (x.k == key) = true := by simpa using h1
        by_cases h2 : 0 < x.s
        · by_cases h3 : since < x.s
          · have hin : chgP key since x = true := by simp [chgP, h1, h2, h3]
            rw [hin] at hT
            have HR := Lib.hid (hany hT)
            clear hT hany hin HN
            go_wp2_with fail
            go_ret
            refine ⟨_, rfl, ?_, hf1⟩
            rw [HR.out]; rfl
          · have d3 : decide (since < x.s) = false := by simpa using h3
            have hin : chgP key since x = false := by simp [chgP, h3]
            rw [hin] at hT
            have HT := Lib.hid hT
            clear hT hany hin HN
            go_wp2_with fail
            go_roundw
            case rel => exact ⟨k + 1, by omega, by go_num, HT, by trivial⟩
            case measure => simp [intOf]; omega
        · have d2 : decide (0 < x.s) = false := by simpa using h2
          have hin : chgP key since x = false := by simp [chgP, h2]
          rw [hin] at hT
          have HT := Lib.hid hT
          clear hT hany hin HN
          go_wp2_with fail
          go_roundw
          case rel => exact ⟨k + 1, by omega, by go_num, HT, by trivial⟩
          case measure => simp [intOf]; omega
      · have d1 : (x.k == key) = false := by simpa using h1
        have hin : chgP key since x = false := by simp [chgP, h1]
        rw [hin] at hT
        have HT := Lib.hid hT
        clear hT hany hin HN
        go_wp2_with fail
        go_roundw
        case rel => exact ⟨k + 1, by omega, by go_num, HT, by trivial⟩
        case measure => simp [intOf]; omega
    · have hke : k = l.length := by omega
      have hN := HN.out
      rw [hke, List.take_of_length_le (Nat.le_refl _)] at hN
      have HR := Lib.hid hN
      clear hN HN
      go_wp2_with fail
      go_ret
      refine ⟨_, rfl, ?_, hf1⟩
      rw [HR.out]; rfl
end Go.Proofs.Ytekigojbkhjdbaa
