/- Contracts: the constructors arena.New, sched.New, sess.NewTable, sess.New, ring.New, locks.New. -/
import Derived.Test.YtebdaijenenepaaGreatDoorMaps
import Derived.Test.YtebdaijenenepaaGreatDoorDraw
import Derived.WalkLawsBesides
set_option maxRecDepth 100000
namespace Go.Proofs
open Go Go.RowKit Go.MapKept

def Blk (w : World) (b : Nat) (cs : Array Value) (T : TypeId) : Prop := w.heap[b]? = some (.cells cs T (0, 0))
theorem Blk.lt {w : World} {b : Nat} {cs : Array Value} {T : TypeId} (h : Blk w b cs T) : b < w.heap.size := (Array.getElem?_eq_some_iff.1 h).1
theorem Blk.below {w w' : World} {b : Nat} {cs : Array Value} {T : TypeId} (h : Blk w b cs T) {B : Nat} (hb : Below B w w') (hB : b < B) : Blk w' b cs T := by
  unfold Blk at *; rw [hb.block b hB]; exact h
theorem Blk.last (w : World) (cs : Array Value) (T : TypeId) : Blk (w.alloc (.cells cs T)) w.heap.size cs T := Array.getElem?_push_size
theorem Blk.alloc {w : World} {b : Nat} {cs : Array Value} {T : TypeId} (h : Blk w b cs T) (o : Obj) : Blk (w.alloc o) b cs T := by
  unfold Blk at *; rw [Below.heap_alloc w o b (Array.getElem?_eq_some_iff.1 h).1]; exact h
theorem Blk.cell {w : World} {b : Nat} {cs : Array Value} {T : TypeId} (h : Blk w b cs T) (j : Nat) : w.cell? ⟨b, j, none⟩ = cs[j]? := Lib.cell_of_heap h j
theorem Blk.free {w : World} {b : Nat} {cs : Array Value} {T : TypeId} (h : Blk w b cs T) (j : Nat) : w.frozen? ⟨b, j, none⟩ = false := Lib.frozen_of_heap h j

theorem made_one (z : Value) (hz : z.cells = #[z]) (n : Nat) : madeCells z.cells n = Array.replicate n z := by
  rw [hz]
  apply Array.ext (by simp [madeCells])
  intro i h1 h2
  simp [madeCells, Nat.mod_one]

theorem Tryz.info323 : (Tryz.prog.info? 323).map (fun i => (i.zero, i.size, i.bytes)) = some (some (.agg #[.bool false, .int .i64 0]), 2, 16) := by kernel_rfl
theorem Tryz.info336 : (Tryz.prog.info? 336).map (fun i => (i.zero, i.size, i.bytes)) = some (some (.slice none 0 0), 1, 24) := by kernel_rfl

def ArenaPost (W : World) (c wd : Nat) (e : Ending) (w' : World) : Prop :=
  ∃ b g, e = .returned (.tuple #[.pointer (some ⟨b, 0, none⟩), .int .i64 0]) ∧ Blk w' b #[.slice (some ⟨g, 0, none⟩) (c * wd) (c * wd), .int .i64 wd] 313 ∧
    Blk w' g (Array.replicate (c * wd) (.int .u8 0)) 5 ∧ W.heap.size ≤ b ∧ W.heap.size ≤ g ∧ b ≠ g ∧ Below W.heap.size W w'

set_option maxHeartbeats 1000000 in
theorem arena_new (c wd : Nat) (W : World) (h1 : 1 ≤ c) (h2 : c ≤ 8) (h3 : 1 ≤ wd) (h4 : wd ≤ 4096) :
    Calls Tryz.prog 148 #[.int .i64 c, .int .i64 wd] W (ArenaPost W c wd) := by
  obtain ⟨i0, hi, hz0, hz1, hz2⟩ := info_parts Tryz.info5
  have hb : c * wd ≤ 32768 := Nat.mul_le_mul h2 h4
  have hmk := fun w => run_make (P := Tryz.prog) w 22 5 i0 (.int .u8 0) Tryz.underlying22 hi hz0 .i64 .i64 ((c : Int) * (wd : Int)) ((c : Int) * (wd : Int)) (by rw [← Int.natCast_mul]; omega) (by omega) (by rw [hz2, ← Int.natCast_mul]; omega) (by rw [← Int.natCast_mul]; omega)
  have hN : ((c : Int) * (wd : Int)).toNat = c * wd := by rw [← Int.natCast_mul]; rfl
  rw [hN, hz1, Nat.mul_one, made_one _ rfl] at hmk
  have hlo : (0 : Int) ≤ (c : Int) * (wd : Int) := by rw [← Int.natCast_mul]; omega
  have hhi : (c : Int) * (wd : Int) ≤ 32768 := by rw [← Int.natCast_mul]; omega
  clear hN
  go_enter Tryz.func148, Tryz.ntmps148
  go_wp2
  go_ret2
  refine ⟨_, _, rfl, ?_, (Blk.last _ _ _).alloc _, by omega, Nat.le_refl _, by omega, ((Below.refl _ _).alloc (Nat.le_refl _) _).alloc (by simp) _⟩
  have := Blk.last (W.alloc (.cells (Array.replicate (c * wd) (.int .u8 0)) 5)) #[.slice (some ⟨W.heap.size, 0, none⟩) (c * wd) (c * wd), .int .i64 wd] 313
  simpa using this

theorem arena_bad (c wd : Nat) (W : World) (h : ¬ (1 ≤ c ∧ c ≤ 8 ∧ 1 ≤ wd ∧ wd ≤ 4096)) :
    Calls Tryz.prog 148 #[.int .i64 c, .int .i64 wd] W fun e w' => e = .returned (.tuple #[.pointer none, .int .i64 1]) ∧ W = w' := by
  go_enter Tryz.func148, Tryz.ntmps148
  go_wp2
  all_goals first
    | (exfalso; omega)
    | (go_ret2; exact ⟨rfl, rfl⟩)

def QueuePost (W : World) (c k m : Nat) (e : Ending) (w' : World) : Prop :=
  ∃ b g, e = .returned (.tuple #[.pointer (some ⟨b, 0, none⟩), .int .i64 0]) ∧ Blk w' b #[.slice (some ⟨g, 0, none⟩) c c, .int .i64 k, .int .i64 m, .int .i64 0] 317 ∧
    Blk w' g (Array.replicate c (.slice none 0 0)) 336 ∧ W.heap.size ≤ b ∧ W.heap.size ≤ g ∧ b ≠ g ∧ Below W.heap.size W w'

theorem in_yes (n m : Int) (w : World) (h1 : 1 ≤ n) (h2 : n ≤ m) : Calls Tryz.prog 229 #[.int .i64 n, .int .i64 m] w fun e w' => e = .returned (.bool true) ∧ w = w' := by
  go_enter Tryz.func229, Tryz.ntmps229
  go_wp2
  go_ret
  exact ⟨ret_bool (by first | (simp; done) | (simp; omega)), rfl⟩
theorem in_no (n m : Int) (w : World) (h : ¬ (1 ≤ n ∧ n ≤ m)) : Calls Tryz.prog 229 #[.int .i64 n, .int .i64 m] w fun e w' => e = .returned (.bool false) ∧ w = w' := by
  by_cases h1 : 1 ≤ n
  · have h2 : m < n := by omega
    clear h
    go_enter Tryz.func229, Tryz.ntmps229
    go_wp2
    go_ret
    exact ⟨ret_bool (by first | (simp; done) | (simp; omega)), rfl⟩
  · have h2 : n < 1 := by omega
    clear h h1
    go_enter Tryz.func229, Tryz.ntmps229
    go_wp2
    all_goals (go_ret; exact ⟨ret_bool (by simp; try omega), rfl⟩)

set_option maxHeartbeats 1000000 in
theorem sched_new (c k m : Nat) (W : World) (h1 : 1 ≤ c) (h2 : c ≤ 8) (h3 : 1 ≤ k) (h4 : k ≤ 4096) (h5 : 1 ≤ m) (h6 : m ≤ 16) :
    Calls Tryz.prog 149 #[.int .i64 c, .int .i64 k, .int .i64 m] W (QueuePost W c k m) := by
  obtain ⟨i0, hi, hz0, hz1, hz2⟩ := info_parts Tryz.info336
  have hmk := fun w => run_make (P := Tryz.prog) w 315 336 i0 (.slice none 0 0) Tryz.underlying315 hi hz0 .i64 .i64 (c : Int) (c : Int) (by omega) (by omega) (by rw [hz2]; omega) (by omega)
  rw [hz1, Nat.mul_one, made_one _ rfl, Int.toNat_natCast] at hmk
  go_enter Tryz.func149, Tryz.ntmps149
  go_wp2_with (go_at_call 229; refine (in_yes _ _ _ (by omega) (by omega)).mono ?_; rintro e w ⟨rfl, rfl⟩)
  go_ret2
  refine ⟨_, _, rfl, ?_, (Blk.last _ _ _).alloc _, by omega, Nat.le_refl _, by omega, ((Below.refl _ _).alloc (Nat.le_refl _) _).alloc (by simp) _⟩
  have := Blk.last (W.alloc (.cells (Array.replicate c (.slice none 0 0)) 336)) #[.slice (some ⟨W.heap.size, 0, none⟩) c c, .int .i64 k, .int .i64 m, .int .i64 0] 317
  simpa using this

theorem sched_bad (c k m : Nat) (W : World) (h : ¬ (1 ≤ c ∧ c ≤ 8 ∧ 1 ≤ k ∧ k ≤ 4096 ∧ 1 ≤ m ∧ m ≤ 16)) :
    Calls Tryz.prog 149 #[.int .i64 c, .int .i64 k, .int .i64 m] W fun e w' => e = .returned (.tuple #[.pointer none, .int .i64 1]) ∧ W = w' := by
  by_cases hc : 1 ≤ c ∧ c ≤ 8
  · by_cases hk : 1 ≤ k ∧ k ≤ 4096
    · have hm : ¬ (1 ≤ m ∧ m ≤ 16) := by omega
      clear h
      go_enter Tryz.func149, Tryz.ntmps149
      go_wp2_with (fail)
      refine (in_yes _ _ _ (by omega) (by omega)).mono ?_
      rintro e w ⟨rfl, rfl⟩
      go_wp2_with (fail)
      refine (in_yes _ _ _ (by omega) (by omega)).mono ?_
      rintro e w ⟨rfl, rfl⟩
      go_wp2_with (fail)
      refine (in_no _ _ _ (by omega)).mono ?_
      rintro e w ⟨rfl, rfl⟩
      go_wp2
      go_ret2
      exact ⟨rfl, rfl⟩
    · clear h
      go_enter Tryz.func149, Tryz.ntmps149
      go_wp2_with (fail)
      refine (in_yes _ _ _ (by omega) (by omega)).mono ?_
      rintro e w ⟨rfl, rfl⟩
      go_wp2_with (fail)
      refine (in_no _ _ _ (by omega)).mono ?_
      rintro e w ⟨rfl, rfl⟩
      go_wp2
      go_ret2
      exact ⟨rfl, rfl⟩
  · clear h
    go_enter Tryz.func149, Tryz.ntmps149
    go_wp2_with (fail)
    refine (in_no _ _ _ (by omega)).mono ?_
    rintro e w ⟨rfl, rfl⟩
    go_wp2
    go_ret2
    exact ⟨rfl, rfl⟩

/-- Cells of n places of a table, none open, none ever closed. -/
def places0 (n : Nat) : Array Value := madeCells #[.bool false, .int .i64 0] (n * 2)
def TablePost (W : World) (n : Nat) (e : Ending) (w' : World) : Prop :=
  ∃ b g, e = .returned (.tuple #[.pointer (some ⟨b, 0, none⟩), .int .i64 0]) ∧ Blk w' b #[.slice (some ⟨g, 0, none⟩) n n] 320 ∧
    Blk w' g (places0 n) 323 ∧ W.heap.size ≤ b ∧ W.heap.size ≤ g ∧ b ≠ g ∧ Below W.heap.size W w'

set_option maxHeartbeats 1000000 in
theorem table_new (n : Nat) (W : World) (h1 : 1 ≤ n) (h2 : n ≤ 64) : Calls Tryz.prog 150 #[.int .i64 n] W (TablePost W n) := by
  obtain ⟨i0, hi, hz0, hz1, hz2⟩ := info_parts Tryz.info323
  have hmk := fun w => run_make (P := Tryz.prog) w 318 323 i0 (.agg #[.bool false, .int .i64 0]) Tryz.underlying318 hi hz0 .i64 .i64 (n : Int) (n : Int) (by omega) (by omega) (by rw [hz2]; omega) (by omega)
  rw [hz1, Int.toNat_natCast, show madeCells (Value.agg #[.bool false, .int .i64 0]).cells (n * 2) = places0 n from rfl] at hmk
  go_enter Tryz.func150, Tryz.ntmps150
  go_wp2
  go_ret2
  refine ⟨_, _, rfl, ?_, (Blk.last _ _ _).alloc _, by omega, Nat.le_refl _, by omega, ((Below.refl _ _).alloc (Nat.le_refl _) _).alloc (by simp) _⟩
  have := Blk.last (W.alloc (.cells (places0 n) 323)) #[.slice (some ⟨W.heap.size, 0, none⟩) n n] 320
  simpa using this

def RingPost (W : World) (n : Nat) (e : Ending) (w' : World) : Prop :=
  ∃ b g, e = .returned (.tuple #[.pointer (some ⟨b, 0, none⟩), .int .i64 0]) ∧ Blk w' b #[.slice (some ⟨g, 0, none⟩) n n, .int .i64 0, .int .i64 0, .int .i64 0] 333 ∧
    Blk w' g (madeCells #[.int .i64 0, .int .i64 0, .int .i64 0] (n * 3)) 104 ∧ W.heap.size ≤ b ∧ W.heap.size ≤ g ∧ b ≠ g ∧ Below W.heap.size W w'
theorem Tryz.info104 : (Tryz.prog.info? 104).map (fun i => (i.zero, i.size, i.bytes)) = some (some (.agg #[.int .i64 0, .int .i64 0, .int .i64 0]), 3, 24) := by kernel_rfl
set_option maxHeartbeats 1000000 in
theorem ring_new (n : Nat) (W : World) (h1 : 1 ≤ n) (h2 : n ≤ 32) : Calls Tryz.prog 157 #[.int .i64 n] W (RingPost W n) := by
  obtain ⟨i0, hi, hz0, hz1, hz2⟩ := info_parts Tryz.info104
  have hmk := fun w => run_make (P := Tryz.prog) w 331 104 i0 (.agg #[.int .i64 0, .int .i64 0, .int .i64 0]) Tryz.underlying331 hi hz0 .i64 .i64 (n : Int) (n : Int) (by omega) (by omega) (by rw [hz2]; omega) (by omega)
  rw [hz1, Int.toNat_natCast, show (Value.agg #[.int .i64 0, .int .i64 0, .int .i64 0]).cells = #[.int .i64 0, .int .i64 0, .int .i64 0] from rfl] at hmk
  go_enter Tryz.func157, Tryz.ntmps157
  go_wp2
  go_ret2
  refine ⟨_, _, rfl, ?_, (Blk.last _ _ _).alloc _, by omega, Nat.le_refl _, by omega, ((Below.refl _ _).alloc (Nat.le_refl _) _).alloc (by simp) _⟩
  have := Blk.last (W.alloc (.cells (madeCells #[.int .i64 0, .int .i64 0, .int .i64 0] (n * 3)) 104)) #[.slice (some ⟨W.heap.size, 0, none⟩) n n, .int .i64 0, .int .i64 0, .int .i64 0] 333
  simpa using this

theorem locks_new (W : World) : Calls Tryz.prog 155 #[] W fun e w' => e = .returned (.pointer (some ⟨W.heap.size + 1, 0, none⟩)) ∧ w'.heap[W.heap.size]? = some (.map #[] 0) ∧
    Blk w' (W.heap.size + 1) #[.map (some W.heap.size)] 327 ∧ w'.heap.size = W.heap.size + 2 ∧ Below W.heap.size W w' := by
  have hmm := @run_makeMap Tryz.prog
  go_enter Tryz.func155, Tryz.ntmps155
  go_wp2
  go_ret
  refine ⟨rfl, ?_, ?_, by simp, ((Below.refl _ _).alloc (Nat.le_refl _) _).alloc (by simp) _⟩
  · rw [Below.heap_alloc _ _ _ (by simp)]; exact Array.getElem?_push_size
  · have := Blk.last (W.alloc (.map #[] 0)) #[.map (some W.heap.size)] 327
    simpa using this

theorem Tryz.info224 : (Tryz.prog.info? 224).map (fun i => (i.zero, i.size, i.bytes)) = some (some (.agg #[.int .i64 0, .slice none 0 0]), 2, 32) := by kernel_rfl
def SessPost (W : World) (n : Nat) (e : Ending) (w' : World) : Prop :=
  ∃ s o b g, e = .returned (.tuple #[.pointer (some ⟨s, 0, none⟩), .int .i64 0]) ∧ Blk w' s #[.pointer (some ⟨b, 0, none⟩), .slice (some ⟨o, 0, none⟩) n n] 330 ∧
    Blk w' o (madeCells #[.int .i64 0, .slice none 0 0] (n * 2)) 224 ∧ Blk w' b #[.slice (some ⟨g, 0, none⟩) n n] 320 ∧ Blk w' g (places0 n) 323 ∧
    W.heap.size ≤ b ∧ W.heap.size ≤ g ∧ b ≠ g ∧ b < o ∧ g < o ∧ o < s ∧ Below W.heap.size W w'
set_option maxHeartbeats 1000000 in
theorem sess_new (n : Nat) (W : World) (h1 : 1 ≤ n) (h2 : n ≤ 64) : Calls Tryz.prog 156 #[.int .i64 n] W (SessPost W n) := by
  obtain ⟨i0, hi, hz0, hz1, hz2⟩ := info_parts Tryz.info224
  have hmk := fun w => run_make (P := Tryz.prog) w 328 224 i0 (.agg #[.int .i64 0, .slice none 0 0]) Tryz.underlying328 hi hz0 .i64 .i64 (n : Int) (n : Int) (by omega) (by omega) (by rw [hz2]; omega) (by omega)
  rw [hz1, Int.toNat_natCast, show (Value.agg #[.int .i64 0, .slice none 0 0]).cells = #[.int .i64 0, .slice none 0 0] from rfl] at hmk
  go_enter Tryz.func156, Tryz.ntmps156
  go_wp2_with (fail)
  refine (table_new n W h1 h2).mono ?_
  rintro e w1 ⟨b, g, rfl, hb, hg, l1, l2, hne, hbel⟩
  go_wp2
  go_ret2
  refine ⟨w1.heap.size + 1, w1.heap.size, b, g, rfl, ?_, (Blk.last _ _ _).alloc _, (hb.alloc _).alloc _, (hg.alloc _).alloc _, l1, l2, hne, hb.lt, hg.lt, by omega, (hbel.alloc hbel.size _).alloc (by have := hbel.size; simp; omega) _⟩
  have := Blk.last (w1.alloc (.cells (madeCells #[.int .i64 0, .slice none 0 0] (n * 2)) 224)) #[.pointer (some ⟨b, 0, none⟩), .slice (some ⟨w1.heap.size, 0, none⟩) n n] 330
  simpa using this
end Go.Proofs
