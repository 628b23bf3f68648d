/- LocksNone walked: no table, or one that no call made, has no locks and gives none. -/
import Derived.Test.YtekigojbkhjdbaaWorks39
namespace Go.Proofs.Ytekigojbkhjdbaa
set_option linter.all false
open Go.RowKit Go.Maps
set_option maxRecDepth 100000

theorem none39_is {W : World} {v : Value} (h : NoTab W v) (id key mode : Int) :
    Calls Try.prog 26 #[v, .int .i64 id, .int .i64 key, .int .i64 mode] W (Rets (SamePost true W)) := by
  have H1 := Lib.hid (TFree_none h id)
  have H2 := Lib.hid (TCan_none h id key mode)
  have H3 := Lib.hid (TAsk_none h id key mode)
  have H4 := Lib.hid (THolds_none h id key)
  have H5 := Lib.hid (TBlocks_none h id key mode)
  have H6 := Lib.hid (TKeys_none h id)
  clear h
  go_enter Try.func26, Try.ntmps26
  go_wp2_with (first
    | (go_at_call 55; refine (H1.out).mono ?_; rintro e w' ⟨rfl, rfl⟩)
    | (go_at_call 56; refine (H2.out).mono ?_; rintro e w' ⟨rfl, rfl⟩)
    | (go_at_call 54; refine (H3.out).mono ?_; rintro e w' ⟨rfl, rfl⟩)
    | (go_at_call 19; refine (H4.out).mono ?_; rintro e w' ⟨rfl, rfl⟩)
    | (go_at_call 24; refine (H5.out).mono ?_; rintro e w' ⟨rfl, rfl⟩)
    | (go_at_call 22; refine (H6.out).mono ?_; rintro e w' ⟨rfl, rfl⟩))
  go_ret
  exact ⟨_, rfl, rfl, Fr.refl _ _⟩
theorem LocksNone_is {W : World} {id key mode : Int} :
    Calls Try.prog 6 #[.int .i64 id, .int .i64 key, .int .i64 mode] W (Rets (SamePost true W)) := by
  have H1 := Lib.hid (fun w : World => none39_is (W := w) (.inl rfl) id key mode)
  have H2 := Lib.hid (fun w : World => none39_is (W := w.alloc (.cells #[.map none] 51)) (.inr ⟨_, rfl, Box.new w _ _⟩) id key mode)
  go_enter Try.func6, Try.ntmps6
  go_wp2_with (first
    | (go_at_call 16; refine (works39_is _).mono ?_; rintro e w4 ⟨_, rfl, rfl, hf4⟩)
    | (go_at_call 26; (with_reducible refine (H1.out _).mono ?_); rintro e w1 ⟨_, rfl, rfl, hf1⟩)
    | (go_at_call 26; (with_reducible refine (H2.out _).mono ?_); rintro e w2 ⟨_, rfl, rfl, hf2⟩))
  go_ret
  exact ⟨_, rfl, rfl, ((hf1.alloc _).trans0 hf2).trans0 hf4⟩
end Go.Proofs.Ytekigojbkhjdbaa
