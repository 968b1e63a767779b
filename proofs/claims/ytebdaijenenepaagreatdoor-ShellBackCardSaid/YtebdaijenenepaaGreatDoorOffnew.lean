/- Contract: offload.New. -/
import Derived.Test.YtebdaijenenepaaGreatDoorNew
set_option maxRecDepth 100000
namespace Go.Proofs
open Go Go.RowKit Go.MapKept

structure Cfg where
  clients : Nat
  window : Nat
  sessions : Nat
  flight : Nat
  bytes : Nat
  ring : Nat
  chunk : Nat
  batch : Nat

def Cfg.cells (c : Cfg) : Array Value := #[.int .i64 c.clients, .int .i64 c.window, .int .i64 c.sessions, .int .i64 c.flight, .int .i64 c.bytes, .int .i64 c.ring, .int .i64 c.chunk, .int .i64 c.batch]
def Cfg.lim (c : Cfg) (k : Nat) : Nat × Nat := if k = 0 then (c.sessions, 8) else if k = 1 then (c.flight, 16) else if k = 2 then (c.bytes, 65536) else (c.ring, 32)
def Cfg.good (c : Cfg) (k : Nat) : Prop := 1 ≤ (c.lim k).1 ∧ (c.lim k).1 ≤ (c.lim k).2
/-- A config that there may be. -/
structure Cfg.Ok (c : Cfg) : Prop where
  c1 : 1 ≤ c.clients
  c2 : c.clients ≤ 8
  w1 : 1 ≤ c.window
  w2 : c.window ≤ 4096
  s1 : 1 ≤ c.sessions
  s2 : c.sessions ≤ 8
  f1 : 1 ≤ c.flight
  f2 : c.flight ≤ 16
  b1 : 1 ≤ c.bytes
  b2 : c.bytes ≤ 65536
  r1 : 1 ≤ c.ring
  r2 : c.ring ≤ 32
  k1 : 1 ≤ c.chunk
  k2 : c.chunk ≤ 4096
  t1 : 1 ≤ c.batch
  t2 : c.batch ≤ 16

theorem Cfg.pairs_cell (c : Cfg) (k : Nat) (hk : k < 4) : (#[Value.int .i64 c.sessions, .int .i64 8, .int .i64 c.flight, .int .i64 16, .int .i64 c.bytes, .int .i64 65536, .int .i64 c.ring, .int .i64 32] : Array Value)[k * 2]? = some (.int .i64 ((c.lim k).1 : Nat)) ∧
    (#[Value.int .i64 c.sessions, .int .i64 8, .int .i64 c.flight, .int .i64 16, .int .i64 c.bytes, .int .i64 65536, .int .i64 c.ring, .int .i64 32] : Array Value)[k * 2 + 1]? = some (.int .i64 ((c.lim k).2 : Nat)) := by
  have : k = 0 ∨ k = 1 ∨ k = 2 ∨ k = 3 := by omega
  rcases this with rfl | rfl | rfl | rfl
  all_goals exact ⟨rfl, rfl⟩

/-- The service's own cells. -/
def servCells (c : Cfg) (tb ab qb cg fm : Nat) (last : Int) (st : Array Value) : Array Value :=
  #[.int .i64 c.clients, .int .i64 c.window, .int .i64 c.sessions, .int .i64 c.flight, .int .i64 c.bytes, .int .i64 c.ring, .int .i64 c.chunk, .int .i64 c.batch,
    .pointer (some ⟨tb, 0, none⟩), .pointer (some ⟨ab, 0, none⟩), .pointer (some ⟨qb, 0, none⟩), .slice (some ⟨cg, 0, none⟩) c.clients c.clients, .map (some fm), .int .i64 last] ++ st
def stats0 : Array Value := #[.int .i64 0, .int .i64 0, .int .i64 0, .int .i64 0, .int .i64 0, .complex .f64 0 0]

/-- A new service, as it lies. -/
structure Serv0 (c : Cfg) (w : World) (sv tb tg ab ag qb qg cg fm : Nat) : Prop where
  s : Blk w sv (servCells c tb ab qb cg fm 0 stats0) 204
  t : Blk w tb #[.slice (some ⟨tg, 0, none⟩) c.clients c.clients] 320
  tp : Blk w tg (places0 c.clients) 323
  a : Blk w ab #[.slice (some ⟨ag, 0, none⟩) (c.clients * c.window) (c.clients * c.window), .int .i64 c.window] 313
  ap : Blk w ag (Array.replicate (c.clients * c.window) (.int .u8 0)) 5
  q : Blk w qb #[.slice (some ⟨qg, 0, none⟩) c.clients c.clients, .int .i64 c.chunk, .int .i64 c.batch, .int .i64 0] 317
  qp : Blk w qg (Array.replicate c.clients (.slice none 0 0)) 336
  cl : Blk w cg (Array.replicate c.clients (.pointer none)) 209
  fl : w.heap[fm]? = some (.map #[] 0)
  dis : [sv, tb, tg, ab, ag, qb, qg, cg, fm].Nodup

theorem Serv0.drew {c : Cfg} {w : World} {sv tb tg ab ag qb qg cg fm : Nat} (h : Serv0 c w sv tb tg ab ag qb qg cg fm) : Serv0 c w.drew sv tb tg ab ag qb qg cg fm :=
  ⟨h.s, h.t, h.tp, h.a, h.ap, h.q, h.qp, h.cl, h.fl, h.dis⟩
theorem serv0_one {c : Cfg} {w : World} {tb tg ab ag qb qg : Nat} (t : Blk w tb #[.slice (some ⟨tg, 0, none⟩) c.clients c.clients] 320) (tp : Blk w tg (places0 c.clients) 323)
    (a : Blk w ab #[.slice (some ⟨ag, 0, none⟩) (c.clients * c.window) (c.clients * c.window), .int .i64 c.window] 313) (ap : Blk w ag (Array.replicate (c.clients * c.window) (.int .u8 0)) 5)
    (q : Blk w qb #[.slice (some ⟨qg, 0, none⟩) c.clients c.clients, .int .i64 c.chunk, .int .i64 c.batch, .int .i64 0] 317) (qp : Blk w qg (Array.replicate c.clients (.slice none 0 0)) 336) (dis : [tb, tg, ab, ag, qb, qg].Nodup) :
    Serv0 c (((w.alloc (.cells (Array.replicate c.clients (.pointer none)) 209)).alloc (.map #[] 0)).alloc (.cells (servCells c tb ab qb w.heap.size (w.heap.size + 1) 0 stats0) 204)) (w.heap.size + 1 + 1) tb tg ab ag qb qg w.heap.size (w.heap.size + 1) := by
  have e1 := t.lt
  have e2 := tp.lt
  have e3 := a.lt
  have e4 := ap.lt
  have e5 := q.lt
  have e6 := qp.lt
  refine ⟨?_, ((t.alloc _).alloc _).alloc _, ((tp.alloc _).alloc _).alloc _, ((a.alloc _).alloc _).alloc _, ((ap.alloc _).alloc _).alloc _, ((q.alloc _).alloc _).alloc _, ((qp.alloc _).alloc _).alloc _,
    ((Blk.last _ _ _).alloc _).alloc _, ?_, ?_⟩
  · have := Blk.last ((w.alloc (.cells (Array.replicate c.clients (.pointer none)) 209)).alloc (.map #[] 0)) (servCells c tb ab qb w.heap.size (w.heap.size + 1) 0 stats0) 204
    simpa using this
  · have h := Array.getElem?_push_size (xs := (w.alloc (.cells (Array.replicate c.clients (.pointer none)) 209)).heap) (x := Obj.map #[] 0)
    have hs : (w.alloc (.cells (Array.replicate c.clients (.pointer none)) 209)).heap.size = w.heap.size + 1 := by simp
    rw [hs] at h
    rw [Below.heap_alloc _ _ _ (by simp)]
    exact h
  · simp only [List.nodup_cons, List.mem_cons, List.not_mem_nil, or_false, not_or, List.nodup_nil, and_true, not_false_eq_true, List.not_mem_nil] at dis ⊢
    omega
theorem serv0_two {c : Cfg} {w : World} {tb tg ab ag qb qg : Nat} (t : Blk w tb #[.slice (some ⟨tg, 0, none⟩) c.clients c.clients] 320) (tp : Blk w tg (places0 c.clients) 323)
    (a : Blk w ab #[.slice (some ⟨ag, 0, none⟩) (c.clients * c.window) (c.clients * c.window), .int .i64 c.window] 313) (ap : Blk w ag (Array.replicate (c.clients * c.window) (.int .u8 0)) 5)
    (q : Blk w qb #[.slice (some ⟨qg, 0, none⟩) c.clients c.clients, .int .i64 c.chunk, .int .i64 c.batch, .int .i64 0] 317) (qp : Blk w qg (Array.replicate c.clients (.slice none 0 0)) 336) (dis : [tb, tg, ab, ag, qb, qg].Nodup) :
    Serv0 c (((w.alloc (.map #[] 0)).alloc (.cells (Array.replicate c.clients (.pointer none)) 209)).alloc (.cells (servCells c tb ab qb (w.heap.size + 1) w.heap.size 0 stats0) 204)) (w.heap.size + 1 + 1) tb tg ab ag qb qg (w.heap.size + 1) w.heap.size := by
  have e1 := t.lt
  have e2 := tp.lt
  have e3 := a.lt
  have e4 := ap.lt
  have e5 := q.lt
  have e6 := qp.lt
  refine ⟨?_, ((t.alloc _).alloc _).alloc _, ((tp.alloc _).alloc _).alloc _, ((a.alloc _).alloc _).alloc _, ((ap.alloc _).alloc _).alloc _, ((q.alloc _).alloc _).alloc _, ((qp.alloc _).alloc _).alloc _, ?_, ?_, ?_⟩
  · have := Blk.last ((w.alloc (.map #[] 0)).alloc (.cells (Array.replicate c.clients (.pointer none)) 209)) (servCells c tb ab qb (w.heap.size + 1) w.heap.size 0 stats0) 204
    simpa using this
  · have := (Blk.last (w.alloc (.map #[] 0)) (Array.replicate c.clients (.pointer none)) 209).alloc (.cells (servCells c tb ab qb (w.heap.size + 1) w.heap.size 0 stats0) 204)
    simpa using this
  · rw [Below.heap_alloc _ _ _ (by simp; omega), Below.heap_alloc _ _ _ (by simp)]
    exact Array.getElem?_push_size
  · simp only [List.nodup_cons, List.mem_cons, List.not_mem_nil, or_false, not_or, List.nodup_nil, and_true, not_false_eq_true, List.not_mem_nil] at dis ⊢
    omega

def ServPost (c : Cfg) (W : World) (e : Ending) (w' : World) : Prop :=
  ∃ sv tb tg ab ag qb qg cg fm, e = .returned (.tuple #[.pointer (some ⟨sv, 0, none⟩), .int .i64 0]) ∧ Serv0 c w' sv tb tg ab ag qb qg cg fm ∧ (∀ b ∈ [sv, tb, tg, ab, ag, qb, qg, cg, fm], W.heap.size ≤ b) ∧ Below W.heap.size W w'

theorem Tryz.info209 : (Tryz.prog.info? 209).map (fun i => (i.zero, i.size, i.bytes)) = some (some (.pointer none), 1, 8) := by kernel_rfl

theorem heap_le_of {w : World} {b : Nat} {o : Obj} (h : w.heap[b]? = some o) : b < w.heap.size := (Array.getElem?_eq_some_iff.1 h).1

set_option maxHeartbeats 4000000 in
theorem offload_new (c : Cfg) (hc : c.Ok) (W : World) :
    Calls Tryz.prog 82 #[.agg c.cells] W (ServPost c W) := by
  obtain ⟨i0, hi, hz0, hz1, hz2⟩ := info_parts Tryz.info209
  have hmk := fun w => run_make (P := Tryz.prog) w 198 209 i0 (.pointer none) Tryz.underlying198 hi hz0 .i64 .i64 (c.clients : Int) (c.clients : Int) (by omega) (by omega) (by rw [hz2]; have := hc.c2; omega) (by have := hc.c2; omega)
  rw [hz1, Nat.mul_one, made_one _ rfl, Int.toNat_natCast] at hmk
  have hmm := @run_makeMap Tryz.prog
  unfold Cfg.cells
  go_enter Tryz.func82, Tryz.ntmps82
  go_wp2
  obtain ⟨W1, hW1⟩ : ∃ W1, W1 = W.alloc (.cells c.cells 132) := ⟨_, rfl⟩
  obtain ⟨W2, hW2⟩ : ∃ W2, W2 = W1.alloc (.cells #[.int .i64 c.sessions, .int .i64 8, .int .i64 c.flight, .int .i64 16, .int .i64 c.bytes, .int .i64 65536, .int .i64 c.ring, .int .i64 32] 187) := ⟨_, rfl⟩
  have hs1 : W1.heap.size = W.heap.size + 1 := by rw [hW1]; simp
  have hB1 : Blk W2 W.heap.size c.cells 132 := by rw [hW2, hW1]; exact (Blk.last _ _ _).alloc _
  have hB2 : Blk W2 (W.heap.size + 1) #[.int .i64 c.sessions, .int .i64 8, .int .i64 c.flight, .int .i64 16, .int .i64 c.bytes, .int .i64 65536, .int .i64 c.ring, .int .i64 32] 187 := by
    rw [hW2, ← hs1]; exact Blk.last _ _ _
  have hs2 : W2.heap.size = W.heap.size + 2 := by rw [hW2]; simp [hs1]
  have hbel2 : Below W.heap.size W W2 := by rw [hW2, hW1]; exact ((Below.refl _ _).alloc (Nat.le_refl _) _).alloc (by simp) _
  have hfold : (W.alloc (Obj.cells c.cells 132)).alloc (.cells #[.int .i64 c.sessions, .int .i64 8, .int .i64 c.flight, .int .i64 16, .int .i64 c.bytes, .int .i64 65536, .int .i64 c.ring, .int .i64 32] 187) = W2 := by rw [hW2, hW1]
  unfold Cfg.cells at hfold
  rw [hfold]
  have HS2 := Lib.hid hs2
  clear hfold hW1 hW2 hs1 hs2
  go_loopw [26] (fun i wr => ∃ k : Nat, k ≤ 4 ∧ i = .int .i64 k ∧ Below W2.heap.size W2 wr) (fun i _ => 4 - (intOf i).toNat)
  case atStart => exact ⟨0, by omega, rfl, Below.refl _ _⟩
  case round =>
    obtain ⟨k, hk, rfl, hbel⟩ := hrel
    by_cases hlt : k < 4
    · have hl : c.good k := by
        have : k = 0 ∨ k = 1 ∨ k = 2 ∨ k = 3 := by omega
        rcases this with rfl | rfl | rfl | rfl
        · exact ⟨hc.s1, hc.s2⟩
        · exact ⟨hc.f1, hc.f2⟩
        · exact ⟨hc.b1, hc.b2⟩
        · exact ⟨hc.r1, hc.r2⟩
      obtain ⟨g1, g2⟩ := hl
      have hcc := c.pairs_cell k hlt
      have hb2 := hB2.below hbel hB2.lt
      have c0 : wr.cell? ⟨W.heap.size + 1, k * 2, none⟩ = some (.int .i64 ((c.lim k).1 : Nat)) := by rw [hb2.cell]; exact hcc.1
      have c1 : wr.cell? ⟨W.heap.size + 1, k * 2 + 1, none⟩ = some (.int .i64 ((c.lim k).2 : Nat)) := by rw [hb2.cell]; exact hcc.2
      clear hcc
      generalize (c.lim k).1 = x at *
      generalize (c.lim k).2 = y at *
      go_wp2
      refine ⟨⟨k + 1, by omega, by go_num, hbel.alloc hbel.size _⟩, by simp [intOf]; omega⟩
    · obtain rfl : k = 4 := by omega
      have hb1 := hB1.below hbel hB1.lt
      have hbelw := below_then hbel2 hbel
      have s0 := Lib.hid hbelw.size
      clear hB2 hbel2 hbel hlt hk
      have d0 : wr.cell? ⟨W.heap.size, 0, none⟩ = some (.int .i64 c.clients) := hb1.cell 0
      have d1 : wr.cell? ⟨W.heap.size, 1, none⟩ = some (.int .i64 c.window) := hb1.cell 1
      have d2 : wr.cell? ⟨W.heap.size, 2, none⟩ = some (.int .i64 c.sessions) := hb1.cell 2
      have d3 : wr.cell? ⟨W.heap.size, 3, none⟩ = some (.int .i64 c.flight) := hb1.cell 3
      have d4 : wr.cell? ⟨W.heap.size, 4, none⟩ = some (.int .i64 c.bytes) := hb1.cell 4
      have d5 : wr.cell? ⟨W.heap.size, 5, none⟩ = some (.int .i64 c.ring) := hb1.cell 5
      have d6 : wr.cell? ⟨W.heap.size, 6, none⟩ = some (.int .i64 c.chunk) := hb1.cell 6
      have d7 : wr.cell? ⟨W.heap.size, 7, none⟩ = some (.int .i64 c.batch) := hb1.cell 7
      go_wp2_with (fail)
      refine (arena_new c.clients c.window _ hc.c1 hc.c2 hc.w1 hc.w2).mono ?_
      rintro e w1 ⟨ab, ag, rfl, ha, hag, l1, l2, n1, hbe1⟩
      replace hb1 := hb1.below hbe1 hb1.lt
      replace hbelw := below_then hbelw hbe1
      clear d0 d1 d2 d3 d4 d5 d6 d7
      have d0 : w1.cell? ⟨W.heap.size, 0, none⟩ = some (.int .i64 c.clients) := hb1.cell 0
      have d1 : w1.cell? ⟨W.heap.size, 1, none⟩ = some (.int .i64 c.window) := hb1.cell 1
      have d2 : w1.cell? ⟨W.heap.size, 2, none⟩ = some (.int .i64 c.sessions) := hb1.cell 2
      have d3 : w1.cell? ⟨W.heap.size, 3, none⟩ = some (.int .i64 c.flight) := hb1.cell 3
      have d4 : w1.cell? ⟨W.heap.size, 4, none⟩ = some (.int .i64 c.bytes) := hb1.cell 4
      have d5 : w1.cell? ⟨W.heap.size, 5, none⟩ = some (.int .i64 c.ring) := hb1.cell 5
      have d6 : w1.cell? ⟨W.heap.size, 6, none⟩ = some (.int .i64 c.chunk) := hb1.cell 6
      have d7 : w1.cell? ⟨W.heap.size, 7, none⟩ = some (.int .i64 c.batch) := hb1.cell 7
      go_wp2_with (fail)
      refine (sched_new c.clients c.chunk c.batch _ hc.c1 hc.c2 hc.k1 hc.k2 hc.t1 hc.t2).mono ?_
      rintro e w2 ⟨qb, qg, rfl, hq, hqg, l3, l4, n2, hbe2⟩
      have l5 := ha.lt
      have l6 := hag.lt
      replace hb1 := hb1.below hbe2 hb1.lt
      replace ha := ha.below hbe2 ha.lt
      replace hag := hag.below hbe2 hag.lt
      replace hbelw := below_then hbelw hbe2
      clear d0 d1 d2 d3 d4 d5 d6 d7
      have d0 : w2.cell? ⟨W.heap.size, 0, none⟩ = some (.int .i64 c.clients) := hb1.cell 0
      have d1 : w2.cell? ⟨W.heap.size, 1, none⟩ = some (.int .i64 c.window) := hb1.cell 1
      have d2 : w2.cell? ⟨W.heap.size, 2, none⟩ = some (.int .i64 c.sessions) := hb1.cell 2
      have d3 : w2.cell? ⟨W.heap.size, 3, none⟩ = some (.int .i64 c.flight) := hb1.cell 3
      have d4 : w2.cell? ⟨W.heap.size, 4, none⟩ = some (.int .i64 c.bytes) := hb1.cell 4
      have d5 : w2.cell? ⟨W.heap.size, 5, none⟩ = some (.int .i64 c.ring) := hb1.cell 5
      have d6 : w2.cell? ⟨W.heap.size, 6, none⟩ = some (.int .i64 c.chunk) := hb1.cell 6
      have d7 : w2.cell? ⟨W.heap.size, 7, none⟩ = some (.int .i64 c.batch) := hb1.cell 7
      go_wp2_with (fail)
      refine (table_new c.clients _ hc.c1 (by have := hc.c2; omega)).mono ?_
      rintro e w3 ⟨tb, tg, rfl, ht, htg, l7, l8, n3, hbe3⟩
      have l9 := hq.lt
      have l10 := hqg.lt
      replace hb1 := hb1.below hbe3 hb1.lt
      replace ha := ha.below hbe3 ha.lt
      replace hag := hag.below hbe3 hag.lt
      replace hq := hq.below hbe3 hq.lt
      replace hqg := hqg.below hbe3 hqg.lt
      replace hbelw := below_then hbelw hbe3
      clear d0 d1 d2 d3 d4 d5 d6 d7
      have d0 : w3.cell? ⟨W.heap.size, 0, none⟩ = some (.int .i64 c.clients) := hb1.cell 0
      have d1 : w3.cell? ⟨W.heap.size, 1, none⟩ = some (.int .i64 c.window) := hb1.cell 1
      have d2 : w3.cell? ⟨W.heap.size, 2, none⟩ = some (.int .i64 c.sessions) := hb1.cell 2
      have d3 : w3.cell? ⟨W.heap.size, 3, none⟩ = some (.int .i64 c.flight) := hb1.cell 3
      have d4 : w3.cell? ⟨W.heap.size, 4, none⟩ = some (.int .i64 c.bytes) := hb1.cell 4
      have d5 : w3.cell? ⟨W.heap.size, 5, none⟩ = some (.int .i64 c.ring) := hb1.cell 5
      have d6 : w3.cell? ⟨W.heap.size, 6, none⟩ = some (.int .i64 c.chunk) := hb1.cell 6
      have d7 : w3.cell? ⟨W.heap.size, 7, none⟩ = some (.int .i64 c.batch) := hb1.cell 7
      have l11 := ht.lt
      have l12 := htg.lt
      have l13 := hb1.lt
      have q1 := ha.lt
      have q2 := hag.lt
      have q3 := hq.lt
      have q4 := hqg.lt
      have hdis : [tb, tg, ab, ag, qb, qg].Nodup := by
        simp only [List.nodup_cons, List.mem_cons, List.not_mem_nil, or_false, not_or, List.nodup_nil, and_true, not_false_eq_true, List.not_mem_nil]
        have := hbe1.size
        have := hbe2.size
        have := hbe3.size
        omega
      have hlo : ∀ b ∈ [tb, tg, ab, ag, qb, qg], W.heap.size ≤ b := by
        have s1 := hbe1.size
        have s2 := hbe2.size
        have s3 := hbe3.size
        have s4 := s0.out
        have HS3 := HS2.out
        simp only [List.mem_cons, List.not_mem_nil, or_false]
        rintro b (rfl | rfl | rfl | rfl | rfl | rfl) <;> omega
      have HDIS := Lib.hid hdis
      have HLO := Lib.hid hlo
      clear hdis hlo
      go_wp2
      refine Draw.wp_draw [0,0,0,0,0,16,48,0,255,511,1023,2047] [6,7,9] [[(0, .look, []), (1, .calm, []), (2, .calm, []), (3, .calm, []), (4, .calm, []), (5, .look, []), (6, .eff, [0]), (7, .eff, [0,5]), (8, .calm, []), (9, .eff, []), (10, .calm, []), (11, .calm, [])], [(0, .look, []), (1, .calm, []), (2, .calm, []), (3, .calm, []), (4, .calm, []), (5, .look, []), (7, .eff, [0,5]), (6, .eff, [0]), (8, .calm, []), (9, .eff, []), (10, .calm, []), (11, .calm, [])]] (by kernel_rfl) (by kernel_rfl) (by repeat (first | exact Draw.insP_body | refine Draw.insP_then ?_ | refine Draw.insP_block ?_)) ?_
      refine List.forall_mem_cons.2 ⟨?_, List.forall_mem_cons.2 ⟨?_, fun _ h => nomatch h⟩⟩
      · repeat (first
          | (refine Draw.wpD_calm rfl rfl (fun K hK => ?_); go_simp; (try go_bits); (try go_simp); refine hK _ _ ?_; clear hK K)
          | (refine Draw.wpD_look rfl rfl (fun K hK => ?_); go_simp; (try go_bits); (try go_simp); refine hK _ _ ?_; clear hK K))
        refine Draw.wpD_effc rfl rfl (fun K hK => ?_)
        go_simp
        refine hK _ _ (by repeat' (first | (refine List.forall_mem_cons.2 ⟨?_, ?_⟩) | (exact fun _ h => nomatch h) | (refine ⟨_, rfl, fun _ => ?_⟩; go_simp))) ?_
        clear hK K
        refine Draw.wpD_effc rfl rfl (fun K hK => ?_)
        go_simp
        refine hK _ _ (by repeat' (first | (refine List.forall_mem_cons.2 ⟨?_, ?_⟩) | (exact fun _ h => nomatch h) | (refine ⟨_, rfl, fun _ => ?_⟩; go_simp))) ?_
        clear hK K
        repeat (first
          | (refine Draw.wpD_calm rfl rfl (fun K hK => ?_); go_simp; (try go_bits); (try go_simp); refine hK _ _ ?_; clear hK K)
          | (refine Draw.wpD_look rfl rfl (fun K hK => ?_); go_simp; (try go_bits); (try go_simp); refine hK _ _ ?_; clear hK K))
        refine Draw.wpD_eff rfl rfl (fun K hK => ?_)
        go_simp
        refine hK _ _ ?_
        clear hK K
        repeat (first
          | (refine Draw.wpD_calm rfl rfl (fun K hK => ?_); go_simp; (try go_bits); (try go_simp); refine hK _ _ ?_; clear hK K)
          | (refine Draw.wpD_look rfl rfl (fun K hK => ?_); go_simp; (try go_bits); (try go_simp); refine hK _ _ ?_; clear hK K))
        refine Draw.wpD_nil ?_
        go_wp2
        go_ret2
        refine ⟨w3.heap.size + 1 + 1, tb, tg, ab, ag, qb, qg, w3.heap.size, w3.heap.size + 1, rfl, Serv0.drew (serv0_one ht htg ha hag hq hqg HDIS.out), ?_, ?_⟩
        · intro b hb
          have s4 := hbelw.size
          simp only [List.mem_cons, List.not_mem_nil, or_false] at hb
          have hl := HLO.out
          simp only [List.mem_cons, List.not_mem_nil, or_false, forall_eq_or_imp, forall_eq] at hl
          omega
        · exact (((hbelw.alloc hbelw.size _).alloc (by have := hbelw.size; simp; omega) _).alloc (by have := hbelw.size; simp; omega) _).drew
      · repeat (first
          | (refine Draw.wpD_calm rfl rfl (fun K hK => ?_); go_simp; (try go_bits); (try go_simp); refine hK _ _ ?_; clear hK K)
          | (refine Draw.wpD_look rfl rfl (fun K hK => ?_); go_simp; (try go_bits); (try go_simp); refine hK _ _ ?_; clear hK K))
        refine Draw.wpD_effc rfl rfl (fun K hK => ?_)
        go_simp
        refine hK _ _ (by repeat' (first | (refine List.forall_mem_cons.2 ⟨?_, ?_⟩) | (exact fun _ h => nomatch h) | (refine ⟨_, rfl, fun _ => ?_⟩; go_simp))) ?_
        clear hK K
        refine Draw.wpD_effc rfl rfl (fun K hK => ?_)
        go_simp
        refine hK _ _ (by repeat' (first | (refine List.forall_mem_cons.2 ⟨?_, ?_⟩) | (exact fun _ h => nomatch h) | (refine ⟨_, rfl, fun _ => ?_⟩; go_simp))) ?_
        clear hK K
        repeat (first
          | (refine Draw.wpD_calm rfl rfl (fun K hK => ?_); go_simp; (try go_bits); (try go_simp); refine hK _ _ ?_; clear hK K)
          | (refine Draw.wpD_look rfl rfl (fun K hK => ?_); go_simp; (try go_bits); (try go_simp); refine hK _ _ ?_; clear hK K))
        refine Draw.wpD_eff rfl rfl (fun K hK => ?_)
        go_simp
        refine hK _ _ ?_
        clear hK K
        repeat (first
          | (refine Draw.wpD_calm rfl rfl (fun K hK => ?_); go_simp; (try go_bits); (try go_simp); refine hK _ _ ?_; clear hK K)
          | (refine Draw.wpD_look rfl rfl (fun K hK => ?_); go_simp; (try go_bits); (try go_simp); refine hK _ _ ?_; clear hK K))
        refine Draw.wpD_nil ?_
        go_wp2
        go_ret2
        refine ⟨w3.heap.size + 1 + 1, tb, tg, ab, ag, qb, qg, w3.heap.size + 1, w3.heap.size, rfl, Serv0.drew (serv0_two ht htg ha hag hq hqg HDIS.out), ?_, ?_⟩
        · intro b hb
          have s4 := hbelw.size
          simp only [List.mem_cons, List.not_mem_nil, or_false] at hb
          have hl := HLO.out
          simp only [List.mem_cons, List.not_mem_nil, or_false, forall_eq_or_imp, forall_eq] at hl
          omega
        · exact (((hbelw.alloc hbelw.size _).alloc (by have := hbelw.size; simp; omega) _).alloc (by have := hbelw.size; simp; omega) _).drew
end Go.Proofs
