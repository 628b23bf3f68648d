/- The program's store: committing, walked. -/
import Derived.Test.YtekigojbkhjdbaaStoreF
import Derived.BigRegion
namespace Go.Proofs.Ytekigojbkhjdbaa
set_option linter.all false
open Go.RowKit Go.Maps
set_option maxRecDepth 100000

attribute [local go_sem ↓] appendH_eq
def comQ (id n : Int) (Q : List V4I) : List V4I := selV (idP id) (stampV n) Q
section
variable {W W' W1 : World} {B c b n co now : Nat} {Ao : Option Addr} {m : Int → Option Value} {P Q : List V4I}
/-- What the round's region finds, and what it leaves. -/
theorem commit_facts {wr : World} (h : StoreIs wr B c b n Ao co m P Q now) (hn : n ≤ 100000) (hP : P.length ≤ 100000) (hB : B ≤ wr.heap.size) (hnow : 1 ≤ now) {x : V4I} (hx : wfI x.k) (wa : World) (hwa : wa = wr.alloc (.cells #[.int .i64 x.i, .int .i64 x.k, .int .i64 x.v] 107)) :
    ∃ A2 c2 v' w1 w2, wa.cell? ⟨c, 0, none⟩ = some (.map (some b)) ∧ wa.cell? ⟨c, 2, none⟩ = some (.int .i64 (now : Int)) ∧ wa.cell? ⟨wr.heap.size, 0, none⟩ = some (.int .i64 x.i) ∧ wa.cell? ⟨wr.heap.size, 1, none⟩ = some (.int .i64 x.k) ∧ wa.cell? ⟨wr.heap.size, 2, none⟩ = some (.int .i64 x.v) ∧
      (Instr.lookup 71 (.map (some b)) (.int .i64 x.k) false).run Try.prog wa.drew = .ok (.slice A2 (rowP P x.k).length c2) wa.drew ∧
      (Instr.lookup 71 (.map (some b)) (.int .i64 x.k) false).run Try.prog (wa.alloc (.cells #[.int .i64 x.v, .int .i64 (now : Int)] 113)).drew = .ok (.slice A2 (rowP P x.k).length c2) (wa.alloc (.cells #[.int .i64 x.v, .int .i64 (now : Int)] 113)).drew ∧
      (Builtin.append_ #[111, 111] 111 #[.slice A2 (rowP P x.k).length c2, .slice (some ⟨wa.heap.size, 0, none⟩) 1 1]).run Try.prog (wa.alloc (.cells #[.int .i64 x.v, .int .i64 (now : Int)] 113)).drew = .ok v' w1 ∧
      w1.cell? ⟨c, 0, none⟩ = some (.map (some b)) ∧ w1.cell? ⟨wr.heap.size, 1, none⟩ = some (.int .i64 x.k) ∧
      (Instr.mapUpdate 71 (.map (some b)) (.int .i64 x.k) v').run Try.prog w1 = .ok () w2 ∧
      StoreIs w2 B c b (n + 1) Ao co (upd m x.k (some v')) (P ++ [stampV (now : Int) x]) Q now ∧ Fr (FootS B wr) wr w2 := by
  obtain ⟨i0, hi, hz0, hz1, hz2⟩ := info_parts info_st
  have fa : Fr0 wr wa := hwa ▸ fr_alloc _ _ _
  have ha := h.fr0 fa
  have hxb : wa.heap[wr.heap.size]? = some (.cells #[.int .i64 x.i, .int .i64 x.k, .int .i64 x.v] 107 (0, 0)) := hwa ▸ World.alloc_heap_new wr _
  obtain ⟨A2, c2, hget, hrow⟩ := h.row hx
  have hrl := rowP_len P x.k
  obtain ⟨wl, hwl⟩ : ∃ wl, wl = (wa.alloc (.cells #[.int .i64 x.v, .int .i64 (now : Int)] 113)).drew := ⟨_, rfl⟩
  have fl : Fr0 wa wl := hwl ▸ ((fr_alloc _ _ _).drew)
  have hl1 := (ha.map.fr0 (fr_drew _ _)).look1 stK Try.underlying71 (zero_sts _) hx
  have hl2 := (ha.map.fr0 fl).look1 stK Try.underlying71 (zero_sts _) hx
  rw [hget] at hl1 hl2
  have hrowl := own_fr0 (own_fr0 hrow fa) fl
  have hnews : ∀ j u, (intsI (stE ⟨x.v, (now : Int)⟩))[j]? = some u → wl.cell? ((⟨wa.heap.size, 0, none⟩ : Addr).add j) = some u := by
    rw [hwl]
    exact cells_new wa (intsI (stE ⟨x.v, (now : Int)⟩)) 113
  obtain ⟨v', w1, hap, ho, hg, _, hloc⟩ := run_append_own_at (P := Try.prog) wl B 111 111 113 i0 (.agg #[.int .i64 0, .int .i64 0]) 2 16 Try.underlying111 hi hz0 hz1 hz2 rfl (by decide) _ _ _ hrowl ⟨wa.heap.size, 0, none⟩ 1 1 (intsI (stE ⟨x.v, (now : Int)⟩)) rfl hnews intsI_get (by unfold maxLen; omega) (by omega) (by have := fa.size; have := fl.size; omega)
  have hG := append_fr0 hrowl hg
  have hm1 : SMap w1 b n m := (ha.map.fr0 fl).fr hG (fun e => own_ne_map hrowl (ha.map.fr0 fl) e)
  obtain ⟨w2, hms, hm2, f2⟩ := hm1.store stK Try.underlying71 (by unfold maxLen; omega) hx v'
  have hw := h.with_row hx hget hB (fa.trans0 fl) hg (y := stampV (now : Int) x) rfl ⟨by simp [stampV]; omega, by simp [stampV]⟩ (by rw [List.length_append, tupCells_snoc]; exact ho) hloc hm2 f2
  refine ⟨A2, c2, v', w1, w2, ha.c0, ha.c2, by simp [World.cell?, hxb], by simp [World.cell?, hxb], by simp [World.cell?, hxb], hl1, hwl ▸ hl2, hwl ▸ hap, ?_, ?_, hms, hw.1, hw.2⟩
  · exact hG.cell (fl.cell ha.c0 (fun x => x)) (own_ne hrowl (fl.heap' ha.box) (by decide))
  · have k1 : wa.cell? ⟨wr.heap.size, 1, none⟩ = some (.int .i64 x.k) := by simp [World.cell?, hxb]
    exact hG.cell (fl.cell k1 (fun x => x)) (own_ne hrowl (fl.heap' hxb) (by decide))
end
end Go.Proofs.Ytekigojbkhjdbaa
