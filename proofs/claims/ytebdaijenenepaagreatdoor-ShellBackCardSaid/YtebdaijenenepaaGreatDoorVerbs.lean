/- Contract: what a line does (shell.verbs): the map as it is made. -/
import Derived.Test.YtebdaijenenepaaGreatDoorMaps
import Derived.WalkLawsBesides
import Derived.KernelRfl
set_option maxRecDepth 100000
namespace Go.Proofs
open Go Go.RowKit Go.MapKept

def CellIs (w : World) (b : Nat) (v : Value) (t : TypeId) : Prop := w.heap[b]? = some (.cells #[v] t (0, 0))
abbrev fnv (f : Nat) : Value := .func (.func f) #[] #[]
abbrev nm (b : Nat) : Value := .func (.func 151) #[] #[.pointer (some ⟨b, 0, none⟩)]
abbrev sb (b : Nat) : Value := .func (.func 152) #[] #[.pointer (some ⟨b, 0, none⟩)]
theorem CellIs.below {w w' : World} {b : Nat} {v : Value} {t : TypeId} (h : CellIs w b v t) {B : Nat} (hb : Below B w w') (hB : b < B) : CellIs w' b v t := by
  unfold CellIs at *; rw [hb.block b hB]; exact h
theorem CellIs.lt {w : World} {b : Nat} {v : Value} {t : TypeId} (h : CellIs w b v t) : b < w.heap.size := (Array.getElem?_eq_some_iff.1 h).1

theorem named_any (s : ByteArray) (W : World) : Calls Tryz.prog 84 #[.string s] W fun e w' => e = .returned (nm W.heap.size) ∧ CellIs w' W.heap.size (.string s) 9 ∧ w'.heap.size = W.heap.size + 1 ∧ Below W.heap.size W w' := by
  have hmf : ∀ (fn : Fn) (first cap : Array Value) (w : World), (Instr.makeFunc fn first cap).run Tryz.prog w = .ok (.func fn first cap) w := fun _ _ _ _ => rfl
  go_enter Tryz.func84, Tryz.ntmps84
  go_wp2
  go_ret
  refine ⟨rfl, ?_, ?_, (Below.refl _ _).alloc (Nat.le_refl _) _⟩
  · show (W.heap.push _)[W.heap.size]? = _
    exact Array.getElem?_push_size
  · simp
theorem submits_any (x : Bool) (W : World) : Calls Tryz.prog 94 #[.bool x] W fun e w' => e = .returned (sb W.heap.size) ∧ CellIs w' W.heap.size (.bool x) 4 ∧ w'.heap.size = W.heap.size + 1 ∧ Below W.heap.size W w' := by
  have hmf : ∀ (fn : Fn) (first cap : Array Value) (w : World), (Instr.makeFunc fn first cap).run Tryz.prog w = .ok (.func fn first cap) w := fun _ _ _ _ => rfl
  go_enter Tryz.func94, Tryz.ntmps94
  go_wp2
  go_ret
  refine ⟨rfl, ?_, ?_, (Below.refl _ _).alloc (Nat.le_refl _) _⟩
  · show (W.heap.push _)[W.heap.size]? = _
    exact Array.getElem?_push_size
  · simp

def vE (b : Nat → Nat) : Array MapEntry := #[{ key := .string (⟨#[111, 112, 101, 110]⟩ : ByteArray), val := .agg #[.int .i64 0, fnv 83, nm (b 0)], born := 0 }, { key := .string (⟨#[99, 108, 111, 115, 101]⟩ : ByteArray), val := .agg #[.int .i64 1, fnv 85, fnv 86], born := 1 }, { key := .string (⟨#[115, 101, 115, 115, 105, 111, 110]⟩ : ByteArray), val := .agg #[.int .i64 3, fnv 87, nm (b 1)], born := 2 }, { key := .string (⟨#[101, 110, 100]⟩ : ByteArray), val := .agg #[.int .i64 2, fnv 90, fnv 86], born := 3 }, { key := .string (⟨#[119, 114, 105, 116, 101]⟩ : ByteArray), val := .agg #[.int .i64 3, fnv 91, fnv 86], born := 4 }, { key := .string (⟨#[114, 101, 97, 100]⟩ : ByteArray), val := .agg #[.int .i64 3, fnv 92, fnv 93], born := 5 }, { key := .string (⟨#[115, 101, 97, 108]⟩ : ByteArray), val := .agg #[.int .i64 8, sb (b 2), nm (b 3)], born := 6 }, { key := .string (⟨#[117, 110, 115, 101, 97, 108]⟩ : ByteArray), val := .agg #[.int .i64 8, sb (b 4), nm (b 5)], born := 7 }, { key := .string (⟨#[99, 97, 110, 99, 101, 108]⟩ : ByteArray), val := .agg #[.int .i64 2, fnv 95, fnv 86], born := 8 }, { key := .string (⟨#[116, 105, 99, 107]⟩ : ByteArray), val := .agg #[.int .i64 1, fnv 96, nm (b 6)], born := 9 }, { key := .string (⟨#[114, 101, 97, 112]⟩ : ByteArray), val := .agg #[.int .i64 1, fnv 97, fnv 98], born := 10 }]

theorem verbsPlain : Mp.Plain Tryz.prog 97 9 95 .string := ⟨by kernel_rfl, by kernel_rfl⟩

/-- What the closures of the table capture. -/
structure VC (B : Nat) (b : Nat → Nat) (w : World) : Prop where
  c0 : CellIs w (b 0) (.string (⟨#[99, 108, 105, 101, 110, 116]⟩ : ByteArray)) 9
  c1 : CellIs w (b 1) (.string (⟨#[115, 101, 115, 115, 105, 111, 110]⟩ : ByteArray)) 9
  c2 : CellIs w (b 2) (.bool false) 4
  c3 : CellIs w (b 3) (.string (⟨#[114, 101, 113, 117, 101, 115, 116]⟩ : ByteArray)) 9
  c4 : CellIs w (b 4) (.bool true) 4
  c5 : CellIs w (b 5) (.string (⟨#[114, 101, 113, 117, 101, 115, 116]⟩ : ByteArray)) 9
  c6 : CellIs w (b 6) (.string (⟨#[100, 111, 110, 101]⟩ : ByteArray)) 9
  lo : ∀ j, j < 7 → B < b j
theorem VC.lt {B : Nat} {b : Nat → Nat} {w : World} (h : VC B b w) : ∀ j, j < 7 → b j < w.heap.size := by
  intro j hj
  rcases (by omega : j = 0 ∨ j = 1 ∨ j = 2 ∨ j = 3 ∨ j = 4 ∨ j = 5 ∨ j = 6) with rfl | rfl | rfl | rfl | rfl | rfl | rfl
  · exact h.c0.lt
  · exact h.c1.lt
  · exact h.c2.lt
  · exact h.c3.lt
  · exact h.c4.lt
  · exact h.c5.lt
  · exact h.c6.lt
theorem VC.same {B : Nat} {b : Nat → Nat} {w w' : World} (h : VC B b w) (hs : ∀ k, B < k → k < w.heap.size → w'.heap[k]? = w.heap[k]?) : VC B b w' := by
  have e := fun j hj => hs (b j) (h.lo j hj) (h.lt j hj)
  exact ⟨(e 0 (by omega)).trans h.c0, (e 1 (by omega)).trans h.c1, (e 2 (by omega)).trans h.c2, (e 3 (by omega)).trans h.c3, (e 4 (by omega)).trans h.c4, (e 5 (by omega)).trans h.c5, (e 6 (by omega)).trans h.c6, h.lo⟩

theorem lt_of_some {w : World} {k : Nat} {o : Obj} (h : w.heap[k]? = some o) : k < w.heap.size := (Array.getElem?_eq_some_iff.1 h).1

set_option maxHeartbeats 4000000 in
theorem verbs_any (W : World) : Calls Tryz.prog 46 #[] W fun e w' => ∃ b : Nat → Nat, e = .returned (.map (some W.heap.size)) ∧ w'.heap[W.heap.size]? = some (.map (vE b) 11) ∧
    VC W.heap.size b w' ∧ Below W.heap.size W w' := by
  have hmm := @run_makeMap Tryz.prog
  go_enter Tryz.func46, Tryz.ntmps46
  go_wp2_with (fail)
  obtain ⟨w0, hw0, hm0, hB0⟩ : ∃ w0, w0 = W.alloc (.map #[] 0) ∧ w0.heap[W.heap.size]? = some (.map #[] 0) ∧ Below W.heap.size W w0 := ⟨_, rfl, Array.getElem?_push_size, (Below.refl _ _).alloc (Nat.le_refl _) _⟩
  rw [← hw0]
  clear hw0
  refine (named_any _ _).mono ?_
  rintro e w1 ⟨rfl, hN0_1, -, hb1⟩
  have hm1 : w1.heap[W.heap.size]? = _ := (hb1.block W.heap.size (lt_of_some hm0)).trans hm0
  have hB1 := below_then hB0 hb1
  have hb0_1 : W.heap.size < w0.heap.size := lt_of_some hm0
  clear hm0 hB0 hb1
  go_wp2_with (fail)
  rw [Mp.run_update_new (k := .string (⟨#[111, 112, 101, 110]⟩ : ByteArray)) verbsPlain hm1 trivial _ (by kernel_rfl)]
  obtain ⟨w2, hw2, hm2, ho2, -, hb2⟩ := Mp.mapAt_facts hm1 _ _
  rw [← hw2]
  simp only [Result.andThen]
  rw [Oper.upon_skip]
  have hN0_2 : CellIs w2 _ _ _ := (ho2 _ (Nat.ne_of_gt hb0_1)).trans hN0_1
  have hb0_2 := hb0_1
  have hB2 := hB1.trans (hb2 _ (Nat.le_refl _))
  clear hw2 hm1 hB1 ho2 hb2 hN0_1 hb0_1
  go_wp2_with (fail)
  rw [Mp.run_update_new (k := .string (⟨#[99, 108, 111, 115, 101]⟩ : ByteArray)) verbsPlain hm2 trivial _ (by kernel_rfl)]
  obtain ⟨w3, hw3, hm3, ho3, -, hb3⟩ := Mp.mapAt_facts hm2 _ _
  rw [← hw3]
  simp only [Result.andThen]
  rw [Oper.upon_skip]
  have hN0_3 : CellIs w3 _ _ _ := (ho3 _ (Nat.ne_of_gt hb0_2)).trans hN0_2
  have hb0_3 := hb0_2
  have hB3 := hB2.trans (hb3 _ (Nat.le_refl _))
  clear hw3 hm2 hB2 ho3 hb3 hN0_2 hb0_2
  go_wp2_with (fail)
  refine (named_any _ _).mono ?_
  rintro e w4 ⟨rfl, hN1_4, -, hb4⟩
  have hm4 : w4.heap[W.heap.size]? = _ := (hb4.block W.heap.size (lt_of_some hm3)).trans hm3
  have hN0_4 := hN0_3.below hb4 hN0_3.lt
  have hB4 := below_then hB3 hb4
  have hb1_4 : W.heap.size < w3.heap.size := lt_of_some hm3
  have hb0_4 := hb0_3
  clear hm3 hB3 hb4 hN0_3 hb0_3
  go_wp2_with (fail)
  rw [Mp.run_update_new (k := .string (⟨#[115, 101, 115, 115, 105, 111, 110]⟩ : ByteArray)) verbsPlain hm4 trivial _ (by kernel_rfl)]
  obtain ⟨w5, hw5, hm5, ho5, -, hb5⟩ := Mp.mapAt_facts hm4 _ _
  rw [← hw5]
  simp only [Result.andThen]
  rw [Oper.upon_skip]
  have hN0_5 : CellIs w5 _ _ _ := (ho5 _ (Nat.ne_of_gt hb0_4)).trans hN0_4
  have hb0_5 := hb0_4
  have hN1_5 : CellIs w5 _ _ _ := (ho5 _ (Nat.ne_of_gt hb1_4)).trans hN1_4
  have hb1_5 := hb1_4
  have hB5 := hB4.trans (hb5 _ (Nat.le_refl _))
  clear hw5 hm4 hB4 ho5 hb5 hN0_4 hN1_4 hb0_4 hb1_4
  go_wp2_with (fail)
  rw [Mp.run_update_new (k := .string (⟨#[101, 110, 100]⟩ : ByteArray)) verbsPlain hm5 trivial _ (by kernel_rfl)]
  obtain ⟨w6, hw6, hm6, ho6, -, hb6⟩ := Mp.mapAt_facts hm5 _ _
  rw [← hw6]
  simp only [Result.andThen]
  rw [Oper.upon_skip]
  have hN0_6 : CellIs w6 _ _ _ := (ho6 _ (Nat.ne_of_gt hb0_5)).trans hN0_5
  have hb0_6 := hb0_5
  have hN1_6 : CellIs w6 _ _ _ := (ho6 _ (Nat.ne_of_gt hb1_5)).trans hN1_5
  have hb1_6 := hb1_5
  have hB6 := hB5.trans (hb6 _ (Nat.le_refl _))
  clear hw6 hm5 hB5 ho6 hb6 hN0_5 hN1_5 hb0_5 hb1_5
  go_wp2_with (fail)
  rw [Mp.run_update_new (k := .string (⟨#[119, 114, 105, 116, 101]⟩ : ByteArray)) verbsPlain hm6 trivial _ (by kernel_rfl)]
  obtain ⟨w7, hw7, hm7, ho7, -, hb7⟩ := Mp.mapAt_facts hm6 _ _
  rw [← hw7]
  simp only [Result.andThen]
  rw [Oper.upon_skip]
  have hN0_7 : CellIs w7 _ _ _ := (ho7 _ (Nat.ne_of_gt hb0_6)).trans hN0_6
  have hb0_7 := hb0_6
  have hN1_7 : CellIs w7 _ _ _ := (ho7 _ (Nat.ne_of_gt hb1_6)).trans hN1_6
  have hb1_7 := hb1_6
  have hB7 := hB6.trans (hb7 _ (Nat.le_refl _))
  clear hw7 hm6 hB6 ho7 hb7 hN0_6 hN1_6 hb0_6 hb1_6
  go_wp2_with (fail)
  rw [Mp.run_update_new (k := .string (⟨#[114, 101, 97, 100]⟩ : ByteArray)) verbsPlain hm7 trivial _ (by kernel_rfl)]
  obtain ⟨w8, hw8, hm8, ho8, -, hb8⟩ := Mp.mapAt_facts hm7 _ _
  rw [← hw8]
  simp only [Result.andThen]
  rw [Oper.upon_skip]
  have hN0_8 : CellIs w8 _ _ _ := (ho8 _ (Nat.ne_of_gt hb0_7)).trans hN0_7
  have hb0_8 := hb0_7
  have hN1_8 : CellIs w8 _ _ _ := (ho8 _ (Nat.ne_of_gt hb1_7)).trans hN1_7
  have hb1_8 := hb1_7
  have hB8 := hB7.trans (hb8 _ (Nat.le_refl _))
  clear hw8 hm7 hB7 ho8 hb8 hN0_7 hN1_7 hb0_7 hb1_7
  go_wp2_with (fail)
  refine (submits_any _ _).mono ?_
  rintro e w9 ⟨rfl, hN2_9, -, hb9⟩
  have hm9 : w9.heap[W.heap.size]? = _ := (hb9.block W.heap.size (lt_of_some hm8)).trans hm8
  have hN0_9 := hN0_8.below hb9 hN0_8.lt
  have hN1_9 := hN1_8.below hb9 hN1_8.lt
  have hB9 := below_then hB8 hb9
  have hb2_9 : W.heap.size < w8.heap.size := lt_of_some hm8
  have hb0_9 := hb0_8
  have hb1_9 := hb1_8
  clear hm8 hB8 hb9 hN0_8 hN1_8 hb0_8 hb1_8
  go_wp2_with (fail)
  refine (named_any _ _).mono ?_
  rintro e w10 ⟨rfl, hN3_10, -, hb10⟩
  have hm10 : w10.heap[W.heap.size]? = _ := (hb10.block W.heap.size (lt_of_some hm9)).trans hm9
  have hN0_10 := hN0_9.below hb10 hN0_9.lt
  have hN1_10 := hN1_9.below hb10 hN1_9.lt
  have hN2_10 := hN2_9.below hb10 hN2_9.lt
  have hB10 := below_then hB9 hb10
  have hb3_10 : W.heap.size < w9.heap.size := lt_of_some hm9
  have hb0_10 := hb0_9
  have hb1_10 := hb1_9
  have hb2_10 := hb2_9
  clear hm9 hB9 hb10 hN0_9 hN1_9 hN2_9 hb0_9 hb1_9 hb2_9
  go_wp2_with (fail)
  rw [Mp.run_update_new (k := .string (⟨#[115, 101, 97, 108]⟩ : ByteArray)) verbsPlain hm10 trivial _ (by kernel_rfl)]
  obtain ⟨w11, hw11, hm11, ho11, -, hb11⟩ := Mp.mapAt_facts hm10 _ _
  rw [← hw11]
  simp only [Result.andThen]
  rw [Oper.upon_skip]
  have hN0_11 : CellIs w11 _ _ _ := (ho11 _ (Nat.ne_of_gt hb0_10)).trans hN0_10
  have hb0_11 := hb0_10
  have hN1_11 : CellIs w11 _ _ _ := (ho11 _ (Nat.ne_of_gt hb1_10)).trans hN1_10
  have hb1_11 := hb1_10
  have hN2_11 : CellIs w11 _ _ _ := (ho11 _ (Nat.ne_of_gt hb2_10)).trans hN2_10
  have hb2_11 := hb2_10
  have hN3_11 : CellIs w11 _ _ _ := (ho11 _ (Nat.ne_of_gt hb3_10)).trans hN3_10
  have hb3_11 := hb3_10
  have hB11 := hB10.trans (hb11 _ (Nat.le_refl _))
  clear hw11 hm10 hB10 ho11 hb11 hN0_10 hN1_10 hN2_10 hN3_10 hb0_10 hb1_10 hb2_10 hb3_10
  go_wp2_with (fail)
  refine (submits_any _ _).mono ?_
  rintro e w12 ⟨rfl, hN4_12, -, hb12⟩
  have hm12 : w12.heap[W.heap.size]? = _ := (hb12.block W.heap.size (lt_of_some hm11)).trans hm11
  have hN0_12 := hN0_11.below hb12 hN0_11.lt
  have hN1_12 := hN1_11.below hb12 hN1_11.lt
  have hN2_12 := hN2_11.below hb12 hN2_11.lt
  have hN3_12 := hN3_11.below hb12 hN3_11.lt
  have hB12 := below_then hB11 hb12
  have hb4_12 : W.heap.size < w11.heap.size := lt_of_some hm11
  have hb0_12 := hb0_11
  have hb1_12 := hb1_11
  have hb2_12 := hb2_11
  have hb3_12 := hb3_11
  clear hm11 hB11 hb12 hN0_11 hN1_11 hN2_11 hN3_11 hb0_11 hb1_11 hb2_11 hb3_11
  go_wp2_with (fail)
  refine (named_any _ _).mono ?_
  rintro e w13 ⟨rfl, hN5_13, -, hb13⟩
  have hm13 : w13.heap[W.heap.size]? = _ := (hb13.block W.heap.size (lt_of_some hm12)).trans hm12
  have hN0_13 := hN0_12.below hb13 hN0_12.lt
  have hN1_13 := hN1_12.below hb13 hN1_12.lt
  have hN2_13 := hN2_12.below hb13 hN2_12.lt
  have hN3_13 := hN3_12.below hb13 hN3_12.lt
  have hN4_13 := hN4_12.below hb13 hN4_12.lt
  have hB13 := below_then hB12 hb13
  have hb5_13 : W.heap.size < w12.heap.size := lt_of_some hm12
  have hb0_13 := hb0_12
  have hb1_13 := hb1_12
  have hb2_13 := hb2_12
  have hb3_13 := hb3_12
  have hb4_13 := hb4_12
  clear hm12 hB12 hb13 hN0_12 hN1_12 hN2_12 hN3_12 hN4_12 hb0_12 hb1_12 hb2_12 hb3_12 hb4_12
  go_wp2_with (fail)
  rw [Mp.run_update_new (k := .string (⟨#[117, 110, 115, 101, 97, 108]⟩ : ByteArray)) verbsPlain hm13 trivial _ (by kernel_rfl)]
  obtain ⟨w14, hw14, hm14, ho14, -, hb14⟩ := Mp.mapAt_facts hm13 _ _
  rw [← hw14]
  simp only [Result.andThen]
  rw [Oper.upon_skip]
  have hN0_14 : CellIs w14 _ _ _ := (ho14 _ (Nat.ne_of_gt hb0_13)).trans hN0_13
  have hb0_14 := hb0_13
  have hN1_14 : CellIs w14 _ _ _ := (ho14 _ (Nat.ne_of_gt hb1_13)).trans hN1_13
  have hb1_14 := hb1_13
  have hN2_14 : CellIs w14 _ _ _ := (ho14 _ (Nat.ne_of_gt hb2_13)).trans hN2_13
  have hb2_14 := hb2_13
  have hN3_14 : CellIs w14 _ _ _ := (ho14 _ (Nat.ne_of_gt hb3_13)).trans hN3_13
  have hb3_14 := hb3_13
  have hN4_14 : CellIs w14 _ _ _ := (ho14 _ (Nat.ne_of_gt hb4_13)).trans hN4_13
  have hb4_14 := hb4_13
  have hN5_14 : CellIs w14 _ _ _ := (ho14 _ (Nat.ne_of_gt hb5_13)).trans hN5_13
  have hb5_14 := hb5_13
  have hB14 := hB13.trans (hb14 _ (Nat.le_refl _))
  clear hw14 hm13 hB13 ho14 hb14 hN0_13 hN1_13 hN2_13 hN3_13 hN4_13 hN5_13 hb0_13 hb1_13 hb2_13 hb3_13 hb4_13 hb5_13
  go_wp2_with (fail)
  rw [Mp.run_update_new (k := .string (⟨#[99, 97, 110, 99, 101, 108]⟩ : ByteArray)) verbsPlain hm14 trivial _ (by kernel_rfl)]
  obtain ⟨w15, hw15, hm15, ho15, -, hb15⟩ := Mp.mapAt_facts hm14 _ _
  rw [← hw15]
  simp only [Result.andThen]
  rw [Oper.upon_skip]
  have hN0_15 : CellIs w15 _ _ _ := (ho15 _ (Nat.ne_of_gt hb0_14)).trans hN0_14
  have hb0_15 := hb0_14
  have hN1_15 : CellIs w15 _ _ _ := (ho15 _ (Nat.ne_of_gt hb1_14)).trans hN1_14
  have hb1_15 := hb1_14
  have hN2_15 : CellIs w15 _ _ _ := (ho15 _ (Nat.ne_of_gt hb2_14)).trans hN2_14
  have hb2_15 := hb2_14
  have hN3_15 : CellIs w15 _ _ _ := (ho15 _ (Nat.ne_of_gt hb3_14)).trans hN3_14
  have hb3_15 := hb3_14
  have hN4_15 : CellIs w15 _ _ _ := (ho15 _ (Nat.ne_of_gt hb4_14)).trans hN4_14
  have hb4_15 := hb4_14
  have hN5_15 : CellIs w15 _ _ _ := (ho15 _ (Nat.ne_of_gt hb5_14)).trans hN5_14
  have hb5_15 := hb5_14
  have hB15 := hB14.trans (hb15 _ (Nat.le_refl _))
  clear hw15 hm14 hB14 ho15 hb15 hN0_14 hN1_14 hN2_14 hN3_14 hN4_14 hN5_14 hb0_14 hb1_14 hb2_14 hb3_14 hb4_14 hb5_14
  go_wp2_with (fail)
  refine (named_any _ _).mono ?_
  rintro e w16 ⟨rfl, hN6_16, -, hb16⟩
  have hm16 : w16.heap[W.heap.size]? = _ := (hb16.block W.heap.size (lt_of_some hm15)).trans hm15
  have hN0_16 := hN0_15.below hb16 hN0_15.lt
  have hN1_16 := hN1_15.below hb16 hN1_15.lt
  have hN2_16 := hN2_15.below hb16 hN2_15.lt
  have hN3_16 := hN3_15.below hb16 hN3_15.lt
  have hN4_16 := hN4_15.below hb16 hN4_15.lt
  have hN5_16 := hN5_15.below hb16 hN5_15.lt
  have hB16 := below_then hB15 hb16
  have hb6_16 : W.heap.size < w15.heap.size := lt_of_some hm15
  have hb0_16 := hb0_15
  have hb1_16 := hb1_15
  have hb2_16 := hb2_15
  have hb3_16 := hb3_15
  have hb4_16 := hb4_15
  have hb5_16 := hb5_15
  clear hm15 hB15 hb16 hN0_15 hN1_15 hN2_15 hN3_15 hN4_15 hN5_15 hb0_15 hb1_15 hb2_15 hb3_15 hb4_15 hb5_15
  go_wp2_with (fail)
  rw [Mp.run_update_new (k := .string (⟨#[116, 105, 99, 107]⟩ : ByteArray)) verbsPlain hm16 trivial _ (by kernel_rfl)]
  obtain ⟨w17, hw17, hm17, ho17, -, hb17⟩ := Mp.mapAt_facts hm16 _ _
  rw [← hw17]
  simp only [Result.andThen]
  rw [Oper.upon_skip]
  have hN0_17 : CellIs w17 _ _ _ := (ho17 _ (Nat.ne_of_gt hb0_16)).trans hN0_16
  have hb0_17 := hb0_16
  have hN1_17 : CellIs w17 _ _ _ := (ho17 _ (Nat.ne_of_gt hb1_16)).trans hN1_16
  have hb1_17 := hb1_16
  have hN2_17 : CellIs w17 _ _ _ := (ho17 _ (Nat.ne_of_gt hb2_16)).trans hN2_16
  have hb2_17 := hb2_16
  have hN3_17 : CellIs w17 _ _ _ := (ho17 _ (Nat.ne_of_gt hb3_16)).trans hN3_16
  have hb3_17 := hb3_16
  have hN4_17 : CellIs w17 _ _ _ := (ho17 _ (Nat.ne_of_gt hb4_16)).trans hN4_16
  have hb4_17 := hb4_16
  have hN5_17 : CellIs w17 _ _ _ := (ho17 _ (Nat.ne_of_gt hb5_16)).trans hN5_16
  have hb5_17 := hb5_16
  have hN6_17 : CellIs w17 _ _ _ := (ho17 _ (Nat.ne_of_gt hb6_16)).trans hN6_16
  have hb6_17 := hb6_16
  have hB17 := hB16.trans (hb17 _ (Nat.le_refl _))
  clear hw17 hm16 hB16 ho17 hb17 hN0_16 hN1_16 hN2_16 hN3_16 hN4_16 hN5_16 hN6_16 hb0_16 hb1_16 hb2_16 hb3_16 hb4_16 hb5_16 hb6_16
  go_wp2_with (fail)
  rw [Mp.run_update_new (k := .string (⟨#[114, 101, 97, 112]⟩ : ByteArray)) verbsPlain hm17 trivial _ (by kernel_rfl)]
  obtain ⟨w18, hw18, hm18, ho18, -, hb18⟩ := Mp.mapAt_facts hm17 _ _
  rw [← hw18]
  simp only [Result.andThen]
  rw [Oper.upon_skip]
  have hN0_18 : CellIs w18 _ _ _ := (ho18 _ (Nat.ne_of_gt hb0_17)).trans hN0_17
  have hb0_18 := hb0_17
  have hN1_18 : CellIs w18 _ _ _ := (ho18 _ (Nat.ne_of_gt hb1_17)).trans hN1_17
  have hb1_18 := hb1_17
  have hN2_18 : CellIs w18 _ _ _ := (ho18 _ (Nat.ne_of_gt hb2_17)).trans hN2_17
  have hb2_18 := hb2_17
  have hN3_18 : CellIs w18 _ _ _ := (ho18 _ (Nat.ne_of_gt hb3_17)).trans hN3_17
  have hb3_18 := hb3_17
  have hN4_18 : CellIs w18 _ _ _ := (ho18 _ (Nat.ne_of_gt hb4_17)).trans hN4_17
  have hb4_18 := hb4_17
  have hN5_18 : CellIs w18 _ _ _ := (ho18 _ (Nat.ne_of_gt hb5_17)).trans hN5_17
  have hb5_18 := hb5_17
  have hN6_18 : CellIs w18 _ _ _ := (ho18 _ (Nat.ne_of_gt hb6_17)).trans hN6_17
  have hb6_18 := hb6_17
  have hB18 := hB17.trans (hb18 _ (Nat.le_refl _))
  clear hw18 hm17 hB17 ho18 hb18 hN0_17 hN1_17 hN2_17 hN3_17 hN4_17 hN5_17 hN6_17 hb0_17 hb1_17 hb2_17 hb3_17 hb4_17 hb5_17 hb6_17
  go_wp2
  go_ret
  refine ⟨fun | 0 => w0.heap.size | 1 => w3.heap.size | 2 => w8.heap.size | 3 => w9.heap.size | 4 => w11.heap.size | 5 => w12.heap.size | 6 => w15.heap.size | _ => 0, rfl, (by rw [hm18]; rfl), ⟨hN0_18, hN1_18, hN2_18, hN3_18, hN4_18, hN5_18, hN6_18, fun j hj => ?_⟩, hB18⟩
  rcases (by omega : j = 0 ∨ j = 1 ∨ j = 2 ∨ j = 3 ∨ j = 4 ∨ j = 5 ∨ j = 6) with rfl | rfl | rfl | rfl | rfl | rfl | rfl
  all_goals assumption
end Go.Proofs
