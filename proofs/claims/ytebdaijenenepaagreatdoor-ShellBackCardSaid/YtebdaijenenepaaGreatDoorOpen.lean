/- Contract: (*Service).Open at a new service. -/
import Derived.Test.YtebdaijenenepaaGreatDoorService
set_option maxRecDepth 100000
namespace Go.Proofs
open Go Go.RowKit

theorem free_gives (bo : Bool) (n : Int) (w : World) : Calls Tryz.prog 231 #[.agg #[.bool bo, .int .i64 n]] w fun e w' => e = .returned (.bool (!bo)) ∧ Below w.heap.size w w' := by
  go_enter Tryz.func231, Tryz.ntmps231
  go_wp2
  go_ret
  exact ⟨rfl, (Below.refl _ _).alloc (Nat.le_refl _) _⟩

theorem index_first (tg n : Nat) (cp : Nat) (hn : 1 ≤ n) (w : World) (h0 : w.cell? ⟨tg, 0, none⟩ = some (.bool false)) (h1 : w.cell? ⟨tg, 1, none⟩ = some (.int .i64 0)) :
    Calls Tryz.prog 230 #[.slice (some ⟨tg, 0, none⟩) n cp, .func (.func 231) #[] #[]] w fun e w' => e = .returned (.int .i64 0) ∧ Below w.heap.size w w' := by
  have hn0 : (0 : Int) < (n : Int) := by omega
  go_enter Tryz.func230, Tryz.ntmps230
  go_wp2_with (fail)
  go_loopw [5, 8] (fun _ i wr => i = .int .i64 0 ∧ wr = w) (fun _ _ _ => 0)
  case atStart => exact ⟨rfl, rfl⟩
  case round =>
    obtain ⟨rfl, rfl⟩ := hrel
    go_wp2_with (fail)
    refine (free_gives _ _ _).mono ?_
    rintro e w1 ⟨rfl, hb⟩
    go_wp2
    go_ret
    exact ⟨rfl, hb⟩

theorem handle_first (tb tg n cp : Nat) (w : World) (ht : w.cell? ⟨tb, 0, none⟩ = some (.slice (some ⟨tg, 0, none⟩) n cp)) (hn : 1 ≤ n) (hn2 : n ≤ 64) (h1 : w.cell? ⟨tg, 1, none⟩ = some (.int .i64 0)) :
    Calls Tryz.prog 232 #[.pointer (some ⟨tb, 0, none⟩), .int .i64 0] w fun e w' => e = .returned (.int .i64 1) ∧ Below w.heap.size w w' := by
  have hn0 : (0 : Int) < (n : Int) := by omega
  have hn1 : 0 < n := hn
  go_enter Tryz.func232, Tryz.ntmps232
  go_wp2_with (fail)
  refine Draw.wp_draw [0,1,0,4,12,28,60,0,128,384,896,0,3968,8064,16256,32764,65535,131071] [] [[(0, .calm, []), (1, .calm, []), (2, .calm, []), (3, .calm, []), (4, .calm, []), (5, .look, []), (6, .calm, []), (7, .calm, []), (8, .calm, []), (9, .calm, []), (10, .look, []), (11, .calm, []), (12, .calm, []), (13, .calm, []), (14, .look, []), (15, .calm, []), (16, .calm, []), (17, .calm, [])]] (by kernel_rfl) (by kernel_rfl) (by repeat (first | exact Draw.insP_body | refine Draw.insP_then ?_ | refine Draw.insP_block ?_)) ?_
  simp only [List.forall_mem_singleton]
  repeat (first
    | (refine Draw.wpD_calm rfl rfl (fun K hK => ?_); go_simp; (try go_bits); (try go_simp); refine hK _ _ ?_; clear hK K)
    | (refine Draw.wpD_look rfl rfl (fun K hK => ?_); go_simp; (try go_bits); (try go_simp); refine hK _ _ ?_; clear hK K))
  refine Draw.wpD_nil ?_
  go_wp2
  go_ret
  exact ⟨rfl, (Below.refl _ _).drew⟩

/-- A table's Open where none is open and none was ever closed. -/
theorem table_open (tb tg n : Nat) (w : World) (hn : 1 ≤ n) (hn2 : n ≤ 64) (ht : Blk w tb #[.slice (some ⟨tg, 0, none⟩) n n] 320) (cs : Array Value) (hg : Blk w tg cs 323) (h0 : cs[0]? = some (.bool false)) (h1 : cs[1]? = some (.int .i64 0)) (hne : tb ≠ tg) :
    Calls Tryz.prog 153 #[.pointer (some ⟨tb, 0, none⟩)] w fun e w' => e = .returned (.tuple #[.int .i64 1, .int .i64 0]) ∧ Blk w' tg (cs.setIfInBounds 0 (.bool true)) 323 ∧ Kept (· = tg) w.heap.size w w' := by
  have hn0 : (0 : Int) < (n : Int) := by omega
  have hn1 : 0 < n := hn
  have hgl := hg.lt
  have htl := ht.lt
  have c0 : w.cell? ⟨tb, 0, none⟩ = some (.slice (some ⟨tg, 0, none⟩) n n) := ht.cell 0
  go_enter Tryz.func153, Tryz.ntmps153
  go_wp2_with (fail)
  refine (index_first tg n n hn w ((hg.cell 0).trans h0) ((hg.cell 1).trans h1)).mono ?_
  rintro e w1 ⟨rfl, hb1⟩
  have ht1 := ht.below hb1 htl
  have hg1 := hg.below hb1 hgl
  have c1 : w1.cell? ⟨tb, 0, none⟩ = some (.slice (some ⟨tg, 0, none⟩) n n) := ht1.cell 0
  have d1 : w1.cell? ⟨tg, 0, none⟩ = some (.bool false) := (hg1.cell 0).trans h0
  have f1 : w1.frozen? ⟨tg, 0, none⟩ = false := hg1.free 0
  go_wp2_with (fail)
  have hg2 := hg1.set 0 (.bool true)
  have ht2 := ht1.set_other ⟨tg, 0, none⟩ (.bool true) hne
  refine (handle_first tb tg n n _ (ht2.cell 0) hn hn2 ((hg2.cell 1).trans (by rw [Array.getElem?_setIfInBounds_ne (by omega)]; exact h1))).mono ?_
  rintro e w2 ⟨rfl, hb2⟩
  go_wp2
  go_ret2
  refine ⟨rfl, hg2.below hb2 hg2.lt, ?_⟩
  exact ((Kept.of hb1).set 0 _).trans (Kept.of (hb2.mono (by have := hb1.size; simp; omega)))
end Go.Proofs
