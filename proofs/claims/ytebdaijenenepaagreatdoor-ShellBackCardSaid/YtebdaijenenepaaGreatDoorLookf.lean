/- Contract: (*Service).Open at a new service. -/
import Derived.Test.YtebdaijenenepaaGreatDoorOpen
set_option maxRecDepth 100000
namespace Go.Proofs
open Go Go.RowKit

theorem look_first (tb tg n : Nat) (w : World) (hn : 1 ≤ n) (hn2 : n ≤ 64) (ht : w.cell? ⟨tb, 0, none⟩ = some (.slice (some ⟨tg, 0, none⟩) n n)) (h0 : w.cell? ⟨tg, 0, none⟩ = some (.bool true)) (h1 : w.cell? ⟨tg, 1, none⟩ = some (.int .i64 0)) :
    Calls Tryz.prog 154 #[.pointer (some ⟨tb, 0, none⟩), .int .i64 1] w fun e w' => e = .returned (.tuple #[.int .i64 0, .int .i64 0]) ∧ Below w.heap.size w w' := by
  have hn0 : (0 : Int) < (n : Int) := by omega
  have hn1 : 0 < n := hn
  have hz : ((n : Int) == 0) = false := by rw [beq_eq_false_iff_ne]; omega
  have hz' : ¬ n = 0 := by omega
  go_enter Tryz.func154, Tryz.ntmps154
  go_wp2_with (fail)
  refine (handle_first tb tg n n _ ht hn hn2 h1).mono ?_
  rintro e w2 ⟨rfl, hb2⟩
  go_wp2
  go_ret2
  exact ⟨rfl, hb2⟩

end Go.Proofs
