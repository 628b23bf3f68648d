/- What a store tells, by the program and by the document. -/
import Derived.Test.YtekigojbkhjdbaaWorks40
namespace Go.Proofs.Ytekigojbkhjdbaa
set_option linter.all false
open Go.RowKit Go.Maps

section
variable {P Q : List V4I} {now : Nat} (hp : POk now P) (hq : QOk Q)
theorem seen_split (hp : POk now P) (hq : QOk Q) (id key upto : Int) : selV (seenP id key upto) (fun x => x.v) (P ++ Q) = selV (comP key upto) (fun x => x.v) P ++ selV (opnP id key) (fun x => x.v) Q := by
  rw [selV_app]
  congr 1
  · refine selV_congr (fun x hx => ?_)
    have h := (hp x hx).1
    have h1 : decide (0 < x.s) = true := by simp; omega
    have h2 : (x.s == 0) = false := by simp; omega
    simp [seenP, comP, h1, h2]
  · refine selV_congr (fun x hx => ?_)
    have h := (hq x hx).1
    simp [seenP, opnP, h, Bool.and_comm]
theorem all_split (hp : POk now P) (key : Int) : selV (keyP key) (fun x => x.v) (P ++ Q) = selV (comP key (now : Int)) (fun x => x.v) P ++ selV (keyP key) (fun x => x.v) Q := by
  rw [selV_app]
  congr 1
  refine selV_congr (fun x hx => ?_)
  have h := (hp x hx).2.1
  simp [keyP, comP, h]
theorem chg_split (hp : POk now P) (hq : QOk Q) (key since : Int) : (P ++ Q).any (chgP key since) = P.any (fun x => x.k == key && decide (since < x.s)) := by
  rw [List.any_append]
  have h1 : Q.any (chgP key since) = false := by
    rw [List.any_eq_false]
    intro x hx
    have h := (hq x hx).1
    simp [chgP, h]
  rw [h1, Bool.or_false]
  rw [Bool.eq_iff_iff, List.any_eq_true, List.any_eq_true]
  constructor
  · rintro ⟨x, hx, h⟩
    exact ⟨x, hx, by simp [chgP] at h ⊢; exact ⟨h.1.1, h.2⟩⟩
  · rintro ⟨x, hx, h⟩
    have h1 := (hp x hx).1
    exact ⟨x, hx, by simp [chgP] at h ⊢; exact ⟨⟨h.1, by omega⟩, h.2⟩⟩
theorem pen_split (hp : POk now P) (hq : QOk Q) (id : Int) : selV (penP id) (fun x => x.k) (P ++ Q) = selV (idP id) (fun x => x.k) Q := by
  rw [selV_app, selV_none (p := penP id) (l := P) (fun x hx => by have := (hp x hx).1; simp [penP]; intro _; omega), List.nil_append]
  refine selV_congr (fun x hx => ?_)
  have h := (hq x hx).1
  simp [penP, idP, h]
end
end Go.Proofs.Ytekigojbkhjdbaa
