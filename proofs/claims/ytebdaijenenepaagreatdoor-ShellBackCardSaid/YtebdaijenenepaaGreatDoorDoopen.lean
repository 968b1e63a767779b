/- Contracts: script.Do at 'open', over a new service; the teller of a number's word. -/
import Derived.Test.YtebdaijenenepaaGreatDoorOpens
set_option maxRecDepth 100000
namespace Go.Proofs
open Go Go.RowKit

theorem named1 (b n : Nat) (hn : n < 100) (s : ByteArray) (o : OutV) (ho : o.n = n) (W : World) (hb : W.cell? ⟨b, 0, none⟩ = some (.string s)) (hbl : b < W.heap.size) :
    Calls Tryz.prog 151 #[.agg o.cells, .pointer (some ⟨b, 0, none⟩)] W fun e w' => Below W.heap.size W w' ∧ ∃ B0 c, e = .returned (.slice (some ⟨B0, 0, none⟩) 2 c) ∧ 2 ≤ c ∧ B0 < w'.heap.size ∧ w'.cell? ⟨B0, 0, none⟩ = some (.string s) ∧ w'.cell? ⟨B0, 1, none⟩ = some (.string ⟨(Lib.decDigits n).toArray⟩) := by
  go_enter Tryz.func151, Tryz.ntmps151
  go_upto_region 1 with (fail)
  have hba := (Below.refl W.heap.size W).alloc (Nat.le_refl _) (.cells o.cells 106)
  have hO := Blk.last W o.cells 106
  have hoc : (W.alloc (.cells o.cells 106)).cell? ⟨W.heap.size, 1, none⟩ = some (.int .i64 n) := (hO.cell 1).trans (by show some (Value.int .i64 o.n) = _; rw [ho])
  have hb1 : (W.alloc (.cells o.cells 106)).cell? ⟨b, 0, none⟩ = some (.string s) := (hba.cell (p := ⟨b, 0, none⟩) hbl).trans hb
  generalize W.alloc (.cells o.cells 106) = w1 at *
  refine Draw.wp_draw [0,0,2,6,15,31] [3,4] [[(0, .look, []), (1, .calm, []), (2, .look, []), (3, .eff, [0]), (4, .eff, []), (5, .calm, [])]] (by kernel_rfl) (by kernel_rfl) (by repeat (first | exact Draw.insP_body | refine Draw.insP_then ?_ | refine Draw.insP_block ?_)) ?_
  simp only [List.forall_mem_singleton]
  repeat (first
    | (refine Draw.wpD_calm rfl rfl (fun K hK => ?_); go_simp; (try go_bits); (try go_simp); refine hK _ _ ?_; clear hK K)
    | (refine Draw.wpD_look rfl rfl (fun K hK => ?_); go_simp; (try go_bits); (try go_simp); refine hK _ _ ?_; clear hK K))
  refine Draw.wpD_effc rfl rfl (fun K hK => ?_)
  go_simp
  refine (Tryz.strconv_Itoa_small n hn _).mono ?_
  rintro e w2 ⟨rfl, rfl⟩
  refine hK _ _ (by repeat' (first | (refine List.forall_mem_cons.2 ⟨?_, ?_⟩) | (exact fun _ h => nomatch h) | (refine ⟨_, rfl, fun _ => ?_⟩; go_simp))) ?_
  clear hK K
  repeat (first
    | (refine Draw.wpD_calm rfl rfl (fun K hK => ?_); go_simp; (try go_bits); (try go_simp); refine hK _ _ ?_; clear hK K)
    | (refine Draw.wpD_look rfl rfl (fun K hK => ?_); go_simp; (try go_bits); (try go_simp); refine hK _ _ ?_; clear hK K))
  refine Draw.wpD_eff rfl rfl (fun K hK => ?_)
  go_simp
  refine hK _ _ ?_
  clear hK K
  repeat (first
    | (refine Draw.wpD_calm rfl rfl (fun K hK => ?_); go_simp; (try go_bits); (try go_simp); refine hK _ _ ?_; clear hK K)
    | (refine Draw.wpD_look rfl rfl (fun K hK => ?_); go_simp; (try go_bits); (try go_simp); refine hK _ _ ?_; clear hK K))
  refine Draw.wpD_nil ?_
  go_wp2
  go_ret
  have hB := Blk.last w1 #[.string s, .string ⟨(Lib.decDigits n).toArray⟩] 9
  exact ⟨(hba.alloc hba.size _).drew, w1.heap.size, 2, rfl, by omega, hB.lt, hB.cell 0, hB.cell 1⟩

theorem do_open (c : Cfg) (hc : c.Ok) (W : World) (sv tb tg ab ag qb qg cg fm : Nat) (h : Serv0 c W sv tb tg ab ag qb qg cg fm) (x : OpV) (hk : x.k = 1) :
    Calls Tryz.prog 48 #[.pointer (some ⟨sv, 0, none⟩), .agg x.cells] W fun e w' => e = .returned (.agg #[.int .i64 0, .int .i64 1, .slice none 0 0, .int .i64 0, .int .i64 0, .int .i64 0]) ∧ Kept (fun k => k = tg ∨ k = cg) W.heap.size W w' := by
  have hx : x.cells = #[.int .i64 1, .int .i64 x.h, .int .i64 x.s, .int .i64 x.at_, .int .i64 x.n, .int .i64 x.alg, .slice x.tp x.tl x.tc, .bool x.un, .slice x.ap x.al x.ac, .slice x.bp x.bl x.bc, .slice x.cp x.cl x.cc, .slice x.dp x.dl x.dc] := by rw [← hk]
  rw [hx]
  obtain ⟨w1, hw1, hb1, ho1⟩ : ∃ w1, ((W.alloc (.cells #[.int .i64 1, .int .i64 x.h, .int .i64 x.s, .int .i64 x.at_, .int .i64 x.n, .int .i64 x.alg, .slice x.tp x.tl x.tc, .bool x.un, .slice x.ap x.al x.ac, .slice x.bp x.bl x.bc, .slice x.cp x.cl x.cc, .slice x.dp x.dl x.dc] 102)).alloc (.cells Z106 106)) = w1 ∧ Below W.heap.size W w1 ∧ Blk w1 (W.heap.size + 1) Z106 106 :=
    ⟨_, rfl, ((Below.refl _ _).alloc (Nat.le_refl _) _).alloc (by simp) _, by have := Blk.last (W.alloc (.cells #[.int .i64 1, .int .i64 x.h, .int .i64 x.s, .int .i64 x.at_, .int .i64 x.n, .int .i64 x.alg, .slice x.tp x.tl x.tc, .bool x.un, .slice x.ap x.al x.ac, .slice x.bp x.bl x.bc, .slice x.cp x.cl x.cc, .slice x.dp x.dl x.dc] 102)) Z106 106; simpa using this⟩
  have k1 : w1.cell? ⟨W.heap.size, 0, none⟩ = some (.int .i64 1) := by
    rw [← hw1]
    have := ((Blk.last W #[.int .i64 1, .int .i64 x.h, .int .i64 x.s, .int .i64 x.at_, .int .i64 x.n, .int .i64 x.alg, .slice x.tp x.tl x.tc, .bool x.un, .slice x.ap x.al x.ac, .slice x.bp x.bl x.bc, .slice x.cp x.cl x.cc, .slice x.dp x.dl x.dc] 102).alloc (.cells Z106 106)).cell 0
    exact this
  have hs1 : Serv0 c w1 sv tb tg ab ag qb qg cg fm := h.same fun k hk => hb1.block k (by
    simp only [List.mem_cons, List.not_mem_nil, or_false] at hk
    rcases hk with rfl | rfl | rfl | rfl | rfl | rfl | rfl | rfl | rfl
    · exact h.s.lt
    · exact h.t.lt
    · exact h.tp.lt
    · exact h.a.lt
    · exact h.ap.lt
    · exact h.q.lt
    · exact h.qp.lt
    · exact h.cl.lt
    · exact lt_of_some h.fl)
  go_enter Tryz.func48, Tryz.ntmps48
  go_wp2_with (fail)
  refine (serv_open c hc w1 sv tb tg ab ag qb qg cg fm hs1).mono ?_
  rintro e w2 ⟨rfl, hk2⟩
  have htg := h.tp.lt
  have hcg := h.cl.lt
  have ho2 := hk2.blk ho1 ho1.lt (by omega)
  have q1 : w2.cell? ⟨W.heap.size + 1, 1, none⟩ = some (.int .i64 0) := ho2.cell 1
  have q0 : w2.cell? ⟨W.heap.size + 1, 0, none⟩ = some (.int .i64 0) := ho2.cell 0
  have q2 : w2.cell? ⟨W.heap.size + 1, 2, none⟩ = some (.slice none 0 0) := ho2.cell 2
  have q3 : w2.cell? ⟨W.heap.size + 1, 3, none⟩ = some (.int .i64 0) := ho2.cell 3
  have q4 : w2.cell? ⟨W.heap.size + 1, 4, none⟩ = some (.int .i64 0) := ho2.cell 4
  have q5 : w2.cell? ⟨W.heap.size + 1, 5, none⟩ = some (.int .i64 0) := ho2.cell 5
  have qf := fun j => ho2.free j
  go_wp2
  generalize hw9 : World.setCell _ _ _ = w9
  have hw8 : w9 = ((w2.setCell ⟨W.heap.size + 1, 1, none⟩ (.int .i64 1)).setCell ⟨W.heap.size + 1, 0, none⟩ (.int .i64 0)).setCells (W.heap.size + 1) 0 [.int .i64 0, .int .i64 1, .slice none 0 0, .int .i64 0, .int .i64 0, .int .i64 0] := hw9.symm
  have ho9 : Blk w9 (W.heap.size + 1) #[.int .i64 0, .int .i64 1, .slice none 0 0, .int .i64 0, .int .i64 0, .int .i64 0] 106 := hw8 ▸ ((ho2.set 1 _).set 0 _).all _ rfl
  have hk9 : Kept (· = W.heap.size + 1) w2.heap.size w2 w9 := hw8 ▸ (((Kept.refl _ _ w2).set 1 _).set 0 _).setCells _ 0
  clear hw9 hw8 q0 q1 q2 q3 q4 q5 qf
  have q0 : w9.cell? ⟨W.heap.size + 1, 0, none⟩ = some (.int .i64 0) := ho9.cell 0
  have q1 : w9.cell? ⟨W.heap.size + 1, 1, none⟩ = some (.int .i64 1) := ho9.cell 1
  have q2 : w9.cell? ⟨W.heap.size + 1, 2, none⟩ = some (.slice none 0 0) := ho9.cell 2
  have q3 : w9.cell? ⟨W.heap.size + 1, 3, none⟩ = some (.int .i64 0) := ho9.cell 3
  have q4 : w9.cell? ⟨W.heap.size + 1, 4, none⟩ = some (.int .i64 0) := ho9.cell 4
  have q5 : w9.cell? ⟨W.heap.size + 1, 5, none⟩ = some (.int .i64 0) := ho9.cell 5
  have hz2 := hk2.size
  have hz1 := hb1.size
  refine ⟨rfl, .agg #[.int .i64 0, .int .i64 1, .slice none 0 0, .int .i64 0, .int .i64 0, .int .i64 0], ?_, rfl, ((Kept.of hb1).trans (hk2.mono hz1 fun _ _ h => h)).trans (hk9.mono (by omega) fun k h1 h2 => by omega)⟩
  simp [results, Tryz.results48, go_sem, q0, q1, q2, q3, q4, q5]
end Go.Proofs
