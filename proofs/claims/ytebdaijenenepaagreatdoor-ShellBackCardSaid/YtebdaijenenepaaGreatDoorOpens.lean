/- Contract: (*Service).Open at a new service. -/
import Derived.Test.YtebdaijenenepaaGreatDoorLookf
set_option maxRecDepth 100000
namespace Go.Proofs
open Go Go.RowKit

/-- A client's cells. -/
def clientCells (lk sn rg jm : Nat) : Array Value := #[.int .i64 0, .pointer (some ⟨sn, 0, none⟩), .pointer (some ⟨lk, 0, none⟩), .pointer (some ⟨rg, 0, none⟩), .map (some jm), .int .i64 0]
set_option maxHeartbeats 4000000 in
theorem serv_open (c : Cfg) (hc : c.Ok) (W : World) (sv tb tg ab ag qb qg cg fm : Nat) (h : Serv0 c W sv tb tg ab ag qb qg cg fm) :
    Calls Tryz.prog 99 #[.pointer (some ⟨sv, 0, none⟩)] W fun e w' => e = .returned (.tuple #[.int .i64 1, .int .i64 0]) ∧ Kept (fun k => k = tg ∨ k = cg) W.heap.size W w' := by
  have hsl := h.s.lt
  have htl := h.t.lt
  have hgl := h.tp.lt
  have hcl := h.cl.lt
  have s1 : W.cell? ⟨sv, 8, none⟩ = some (.pointer (some ⟨tb, 0, none⟩)) := h.s.cell 8
  have hdis := h.dis
  simp only [List.nodup_cons, List.mem_cons, or_false, not_or, List.nodup_nil, and_true, not_false_eq_true, List.not_mem_nil] at hdis
  have e1 : sv ≠ tg ∧ tb ≠ tg ∧ cg ≠ tg ∧ sv ≠ cg := ⟨hdis.1.2.1, hdis.2.1.1, fun e => hdis.2.2.1.2.2.2.2.1 e.symm, hdis.1.2.2.2.2.2.2.1⟩
  clear hdis
  go_enter Tryz.func99, Tryz.ntmps99
  go_wp2_with (fail)
  have hp0 : (places0 c.clients)[0]? = some (.bool false) := by
    have := hc.c1
    have hsz : 0 < (places0 c.clients).size := by simp [places0, madeCells]; omega
    rw [Array.getElem?_eq_getElem hsz]
    simp [places0, madeCells]
  have hp1 : (places0 c.clients)[1]? = some (.int .i64 0) := by
    have := hc.c1
    have hsz : 1 < (places0 c.clients).size := by simp [places0, madeCells]; omega
    rw [Array.getElem?_eq_getElem hsz]
    simp [places0, madeCells]
  refine (table_open tb tg c.clients W hc.c1 (by have := hc.c2; omega) h.t _ h.tp hp0 hp1 e1.2.1).mono ?_
  rintro e w1 ⟨rfl, hg1, hk1⟩
  have hs1 := hk1.blk h.s hsl e1.1
  have ht1 := hk1.blk h.t htl e1.2.1
  have hc1 := hk1.blk h.cl hcl e1.2.2.1
  have s2 : w1.cell? ⟨sv, 8, none⟩ = some (.pointer (some ⟨tb, 0, none⟩)) := hs1.cell 8
  go_wp2_with (fail)
  refine (look_first tb tg c.clients w1 hc.c1 (by have := hc.c2; omega) (ht1.cell 0) ((hg1.cell 0).trans (Array.getElem?_setIfInBounds_self_of_lt (Array.getElem?_eq_some_iff.1 hp0).1)) ((hg1.cell 1).trans (by rw [Array.getElem?_setIfInBounds_ne (by omega)]; exact hp1))).mono ?_
  rintro e w2 ⟨rfl, hb2⟩
  have hs2 := hs1.below hb2 hs1.lt
  have hc2 := hc1.below hb2 hc1.lt
  go_wp2_with (fail)
  refine (locks_new w2).mono ?_
  rintro e w3 ⟨rfl, hl1, hl2, -, hb3⟩
  have hs3 := hs2.below hb3 hs2.lt
  have hc3 := hc2.below hb3 hc2.lt
  have hmm := @run_makeMap Tryz.prog
  obtain ⟨w4, hw4, hb4, hbx4⟩ : ∃ w4, (w3.alloc (.map #[] 0)).alloc (.cells #[.int .i64 0, .pointer none, .pointer (some ⟨w2.heap.size + 1, 0, none⟩), .pointer none, .map (some w3.heap.size), .int .i64 0] 216) = w4 ∧ Below w3.heap.size w3 w4 ∧
      Blk w4 (w3.heap.size + 1) #[.int .i64 0, .pointer none, .pointer (some ⟨w2.heap.size + 1, 0, none⟩), .pointer none, .map (some w3.heap.size), .int .i64 0] 216 :=
    ⟨_, rfl, ((Below.refl _ _).alloc (Nat.le_refl _) _).alloc (by simp) _, by have := Blk.last (w3.alloc (.map #[] 0)) #[.int .i64 0, .pointer none, .pointer (some ⟨w2.heap.size + 1, 0, none⟩), .pointer none, .map (some w3.heap.size), .int .i64 0] 216; simpa using this⟩
  have hs4 := hs3.below hb4 hs3.lt
  have hc4 := hc3.below hb4 hc3.lt
  have r4 : w4.cell? ⟨sv, 2, none⟩ = some (.int .i64 c.sessions) := hs4.cell 2
  go_wp2_with (fail)
  refine (sess_new c.sessions w4 hc.s1 (by have := hc.s2; omega)).mono ?_
  rintro e w5 ⟨sn, so, sb, sg, rfl, hn1, hn2, hn3, hn4, m1, m2, m3, m4, m5, m6, hb5⟩
  have hs5 := hs4.below hb5 hs4.lt
  have hc5 := hc4.below hb5 hc4.lt
  have hx5 := hbx4.below hb5 hbx4.lt
  have x5 : w5.cell? ⟨w3.heap.size + 1, 1, none⟩ = some (.pointer none) := hx5.cell 1
  have y5 : w5.frozen? ⟨w3.heap.size + 1, 1, none⟩ = false := hx5.free 1
  have hxne : sv ≠ w3.heap.size + 1 := by have := hs3.lt; omega
  have hs6 := hs5.set_other ⟨w3.heap.size + 1, 1, none⟩ (.pointer (some ⟨sn, 0, none⟩)) hxne
  have hc6 := hc5.set_other ⟨w3.heap.size + 1, 1, none⟩ (.pointer (some ⟨sn, 0, none⟩)) (by have := hc3.lt; show cg ≠ w3.heap.size + 1; omega)
  have hx6 := hx5.set 1 (.pointer (some ⟨sn, 0, none⟩))
  have r6 : (w5.setCell ⟨w3.heap.size + 1, 1, none⟩ (.pointer (some ⟨sn, 0, none⟩))).cell? ⟨sv, 5, none⟩ = some (.int .i64 c.ring) := hs6.cell 5
  go_wp2_with (fail)
  refine (ring_new c.ring _ hc.r1 hc.r2).mono ?_
  rintro e w7 ⟨rb, rg, rfl, hr1, hr2, m7, m8, m9, hb7⟩
  have hs7 := hs6.below hb7 hs6.lt
  have hc7 := hc6.below hb7 hc6.lt
  have hx7 := hx6.below hb7 hx6.lt
  have x7 : w7.cell? ⟨w3.heap.size + 1, 3, none⟩ = some (.pointer none) := hx7.cell 3
  have y7 : w7.frozen? ⟨w3.heap.size + 1, 3, none⟩ = false := hx7.free 3
  have hs8 := hs7.set_other ⟨w3.heap.size + 1, 3, none⟩ (.pointer (some ⟨rb, 0, none⟩)) hxne
  have hc8 := hc7.set_other ⟨w3.heap.size + 1, 3, none⟩ (.pointer (some ⟨rb, 0, none⟩)) (by have := hc3.lt; show cg ≠ w3.heap.size + 1; omega)
  have hx8 := hx7.set 3 (.pointer (some ⟨rb, 0, none⟩))
  have hk8 : Kept (fun k => k = tg ∨ k = cg) W.heap.size W (w7.setCell ⟨w3.heap.size + 1, 3, none⟩ (.pointer (some ⟨rb, 0, none⟩))) := by
    have z1 := hk1.size
    have z2 := hb2.size
    have z3 := hb3.size
    have z4 := hb4.size
    have z5 := hb5.size
    have z7 := hb7.size
    simp at z7
    exact (((((((hk1.mono (Nat.le_refl _) fun _ _ h => .inl h).trans (Kept.of (hb2.mono z1))).trans (Kept.of (hb3.mono (by omega)))).trans (Kept.of (hb4.mono (by omega)))).trans (Kept.of (hb5.mono (by omega)))).trans
      (Kept.of ((Below.refl W.heap.size w5).setCell (show W.heap.size ≤ w3.heap.size + 1 by omega) _))).trans (Kept.of (hb7.mono (by simp; omega)))).trans (Kept.of ((Below.refl W.heap.size w7).setCell (show W.heap.size ≤ w3.heap.size + 1 by omega) _))
  generalize hw8 : w7.setCell ⟨w3.heap.size + 1, 3, none⟩ (.pointer (some ⟨rb, 0, none⟩)) = w8 at *
  have r8 : w8.cell? ⟨sv, 11, none⟩ = some (.slice (some ⟨cg, 0, none⟩) c.clients c.clients) := hs8.cell 11
  have hn1c : 0 < c.clients := hc.c1
  have q8 : w8.cell? ⟨cg, 0, none⟩ = some (.pointer none) := (hc8.cell 0).trans (by rw [Array.getElem?_replicate, if_pos hn1c])
  have z8 : w8.frozen? ⟨cg, 0, none⟩ = false := hc8.free 0
  go_wp2
  go_ret2
  exact ⟨rfl, hk8.trans (((Kept.refl (· = cg) W.heap.size w8).set 0 _).mono (Nat.le_refl _) fun _ _ h => .inr h)⟩
end Go.Proofs
