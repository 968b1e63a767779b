/- Contracts: shell.New, told, the deferred closure of Line, Line over whatever 'does' does. -/
import Derived.Test.YtebdaijenenepaaGreatDoorNumberNo
import Derived.Defers
import Derived.Recover
import Derived.Laws.OwnMore
import Derived.KernelRfl
set_option maxRecDepth 100000
namespace Go.Proofs
open Go Go.RowKit

/-- All that lies below B is as it was, but the blocks of S. -/
structure Kept (S : Nat → Prop) (B : Nat) (w w' : World) : Prop where
  os : w'.os = w.os
  tape : w'.tape = w.tape
  output : w'.output = w.output
  size : w.heap.size ≤ w'.heap.size
  block : ∀ k, k < B → ¬ S k → w'.heap[k]? = w.heap[k]?
theorem Kept.of {S : Nat → Prop} {B : Nat} {w w' : World} (h : Below B w w') : Kept S B w w' := ⟨h.os, h.tape, h.output, h.size, fun k hk _ => h.block k hk⟩
theorem Kept.trans {S : Nat → Prop} {B : Nat} {a b c : World} (h : Kept S B a b) (k : Kept S B b c) : Kept S B a c :=
  ⟨k.os.trans h.os, k.tape.trans h.tape, k.output.trans h.output, Nat.le_trans h.size k.size, fun i hi hs => (k.block i hi hs).trans (h.block i hi hs)⟩
theorem Kept.mono {S S' : Nat → Prop} {B B' : Nat} {w w' : World} (h : Kept S B w w') (hB : B' ≤ B) (hS : ∀ k, k < B' → S k → S' k) : Kept S' B' w w' :=
  ⟨h.os, h.tape, h.output, h.size, fun k hk hs => h.block k (Nat.lt_of_lt_of_le hk hB) fun h' => hs (hS k hk h')⟩
theorem Kept.below {S : Nat → Prop} {B : Nat} {w w' : World} (h : Kept S B w w') (hS : ∀ k, k < B → ¬ S k) : Below B w w' := ⟨h.os, h.tape, h.output, h.size, fun k hk => h.block k hk (hS k hk)⟩

def toldS (n : Nat) : ByteArray := ⟨([101, 114, 114, 111, 114, 32] ++ Lib.decDigits n ++ [10]).toArray⟩
theorem ret_str2 {a b : ByteArray} (h : a.data.toList = b.data.toList) : Ending.returned (.string a) = .returned (.string b) := by
  congr 2; exact ByteArray.ext (Array.toList_inj.1 h)
theorem told_small (n : Nat) (h : n < 100) (W : World) : Calls Tryz.prog 28 #[.int .i64 n] W fun e w' => e = .returned (.string (toldS n)) ∧ W = w' := by
  have hd : (Lib.decDigits n).length ≤ 2 := by
    by_cases h1 : n < 10
    · rw [Lib.decDigits_one h1]; simp
    · rw [Lib.decDigits_two h1 h]; simp
  go_enter Tryz.func28, Tryz.ntmps28
  go_wp2_with (fail)
  refine (Tryz.strconv_Itoa_small n h W).mono ?_
  rintro e w' ⟨rfl, rfl⟩
  go_wp2
  all_goals first | (exfalso; omega) | skip
  go_ret
  refine ⟨ret_str2 ?_, rfl⟩
  simp [toldS]

theorem shell_new (W : World) : Calls Tryz.prog 14 #[] W fun e w' => e = .returned (.pointer (some ⟨W.heap.size, 0, none⟩)) ∧ w' = W.alloc (.cells #[.pointer none] 61) := by
  go_enter Tryz.func14, Tryz.ntmps14
  go_wp2
  go_ret
  exact ⟨rfl, rfl⟩

theorem isSep (w : World) : PredAt Tryz.prog 33 #[] encR (fun r => decide (r = 32) || decide (r = 9) || decide (r = 13)) w := fun W r _ => by
  unfold FnGives
  by_cases h1 : r = 32
  · subst h1
    go_enter Tryz.func33, Tryz.ntmps33
    go_wp2
    go_ret
    exact ⟨by simp, 0, rfl⟩
  · have z1 : ((r : Int) == 32) = false := by rw [beq_eq_false_iff_ne]; omega
    by_cases h2 : r = 9
    · subst h2
      go_enter Tryz.func33, Tryz.ntmps33
      go_wp2
      go_ret
      exact ⟨by simp, 0, rfl⟩
    · have z2 : ((r : Int) == 9) = false := by rw [beq_eq_false_iff_ne]; omega
      go_enter Tryz.func33, Tryz.ntmps33
      go_wp2
      go_ret
      refine ⟨?_, 0, rfl⟩
      have z3 : ((r : Int) == 13) = decide (r = 13) := by
        by_cases h3 : r = 13
        · subst h3; rfl
        · have : ((r : Int) == 13) = false := by rw [beq_eq_false_iff_ne]; omega
          simp [this, h3]
      simp [h1, h2, z3]

/-- A rest of a deferred function's body that does not recover. -/
theorem wpS_of_body {P : Program} {fn : Func} {c : Code} {a : Act} {cs cs' : List Frame} {w : World} {c₀ : Frame} {u' : FrameMode} {R : Ending → FrameMode → World → Prop} (hcs : cs' = { c₀ with mode := u' } :: cs)
    (h : c.wp P (bodyPost P fn fun e w' => R e u' w') a w) : c.wpS P (bodyPostS P fn c₀ cs R) a cs' w := by
  refine wpS_of_wp (wp_mono h fun e a w hq => ?_)
  cases e with
  | normal => obtain ⟨hd, v, h1, h2⟩ := hq; exact ⟨hd, u', hcs, v, h1, h2⟩
  | ret => obtain ⟨hd, v, h1, h2⟩ := hq; exact ⟨hd, u', hcs, v, h1, h2⟩
  | panic ch => obtain ⟨hd, h2⟩ := hq; exact ⟨hd, u', hcs, h2⟩
  | outgrown => exact ⟨u', hq⟩
  | exit i => exact hq.elim
  | goto l => exact hq.elim

theorem catch_panicking (p : Addr) (x : Value) (n : Nat) (hn : n < 100) (older : List PanicEntry) (w : World) (hlt : p.block < w.heap.size) (hc : w.cell? p = some x) (hz : w.frozen? p = false) :
    CallsD Tryz.prog 30 #[.pointer (some p)] (.panicking (wrongV n :: older)) w fun e u' w' =>
      e = .returned (.tuple #[]) ∧ u' = .panicking ({ wrongV n with recovered := true } :: older) ∧ w' = (w.alloc (.cells #[.int .i64 n] 65)).setCell p (.string (toldS n)) := by
  refine callsD_of_wpS Tryz.func30 rfl fun c₀ cs hu => ?_
  apply wpS_seq
  apply wpS_region
  simp [wpOpsS, go_sem, recoverD, hu, Tryz.ntmps30, Exit.thenS, wrongV]
  refine wpS_of_body rfl ?_
  simp only [Array.replicate, List.replicate]
  go_simp
  have hta : ∀ w : World, (Instr.typeAssert (.iface 65 (.agg #[.int .i64 n])) 20 65 true).run Tryz.prog w = .ok (.tuple #[.agg #[.int .i64 n], .bool true]) w := fun w => by kernel_rfl
  have hcell : (w.alloc (.cells #[.int .i64 n] 65)).cell? p = some x := ((Below.refl w.heap.size w).alloc (Nat.le_refl _) _).cell hlt ▸ hc
  have hfrz : (w.alloc (.cells #[.int .i64 n] 65)).frozen? p = false := ((Below.refl w.heap.size w).alloc (Nat.le_refl _) _).frozen hlt ▸ hz
  go_wp2_with (fail)
  refine (told_small n hn _).mono ?_
  rintro e w1 ⟨rfl, rfl⟩
  go_wp2
  go_end0
  exact ⟨rfl, rfl⟩
theorem catch_idle (p : Addr) (w : World) :
    CallsD Tryz.prog 30 #[.pointer (some p)] .returning w fun e u' w' => e = .returned (.tuple #[]) ∧ u' = .returning ∧ w' = w := by
  refine callsD_of_wpS Tryz.func30 rfl fun c₀ cs hu => ?_
  apply wpS_seq
  apply wpS_region
  simp [wpOpsS, go_sem, recoverD, hu, Tryz.ntmps30, Exit.thenS]
  refine wpS_of_body (u' := .returning) (by rw [← hu]) ?_
  simp only [Array.replicate, List.replicate]
  go_simp
  go_wp2
  go_end0
  exact ⟨rfl, rfl⟩
theorem below_then2 {B C : Nat} {a b c : World} (h : Below B a b) (k : Below C b c) (hB : B ≤ C) : Below B a c := h.trans (k.mono hB)
def sepP (r : Nat) : Bool := decide (r = 32) || decide (r = 9) || decide (r = 13)
/-- The words of a line. -/
def wordsOf (s : ByteArray) : List ByteArray := Lib.goFieldsP sepP ⟨(Lib.cut s.data.toList [35]).1.toArray⟩
theorem cut_fst_le (s sep : List UInt8) : (Lib.cut s sep).1.length ≤ s.length := by
  unfold Lib.cut
  split
  · simp; omega
  · simp

/-- What 'does' does. -/
def DoesPost (R : ByteArray → World → Prop) (e : Ending) (w' : World) : Prop :=
  (∃ out, e = .returned (.string out) ∧ R out w') ∨ (∃ k : Nat, k < 100 ∧ e = .panicked [wrongV k] ∧ R (toldS k) w')
def LinePost (W : World) (R : ByteArray → World → Prop) (e : Ending) (w' : World) : Prop :=
  ∃ out w1, e = .returned (.string out) ∧ R out w1 ∧ Kept (· = W.heap.size) w1.heap.size w1 w'

theorem kept_setCell (w : World) (b o : Nat) (v : Value) : Kept (· = b) w.heap.size w (w.setCell ⟨b, o, none⟩ v) :=
  ⟨rfl, rfl, rfl, by simp, fun k _ hs => Below.heap_setCell _ _ _ _ (fun e => hs e)⟩

set_option maxHeartbeats 1000000 in
theorem line_does (sp : Addr) (s : ByteArray) (W : World) (m : Int) (h1 : 1 ≤ W.heap.size) (hm : W.cell? ⟨0, 0, none⟩ = some (.int .i64 m)) (hs : s.size < 4294967281)
    (hnl : decide (0 ≤ Lib.indexByte s.data.toList 10) = false) (hne : wordsOf s ≠ []) (R : ByteArray → World → Prop)
    (hd : ∀ A w1, W.heap.size < A → A < w1.heap.size → (∀ (j : Nat) x, (wordsOf s)[j]? = some x → w1.cell? ⟨A, j, none⟩ = some (.string x)) → Below W.heap.size W w1 →
      Calls Tryz.prog 34 #[.pointer (some sp), .slice (some ⟨A, 0, none⟩) (wordsOf s).length (wordsOf s).length] w1 fun e w' => DoesPost R e w' ∧ w'.heap[W.heap.size]? = w1.heap[W.heap.size]?) :
    Calls Tryz.prog 16 #[.pointer (some sp), .string s] W (LinePost W R) := by
  have hmf : ∀ (fn : Fn) (first cap : Array Value) (w : World), (Instr.makeFunc fn first cap).run Tryz.prog w = .ok (.func fn first cap) w := fun _ _ _ _ => rfl
  obtain ⟨W1, hW1, hB1, hbl1, hs1⟩ : ∃ W1, W.alloc (.cells #[.string (⟨#[]⟩ : ByteArray)] 9) = W1 ∧ Below W.heap.size W W1 ∧ W1.heap[W.heap.size]? = some (.cells #[.string (⟨#[]⟩ : ByteArray)] 9 (0, 0)) ∧ W1.heap.size = W.heap.size + 1 :=
    ⟨_, rfl, (Below.refl _ _).alloc (Nat.le_refl _) _, Array.getElem?_push_size, by simp⟩
  have hm1 : W1.cell? ⟨0, 0, none⟩ = some (.int .i64 m) := (hB1.cell (p := ⟨0, 0, none⟩) h1).trans hm
  have hl0 : (((wordsOf s).length : Int) == 0) = false := by
    cases hw : wordsOf s with
    | nil => exact absurd hw hne
    | cons x l => rw [beq_eq_false_iff_ne]; simp; omega
  go_enter_defers Tryz.func16, Tryz.ntmps16
  go_wp2_with (fail)
  refine (Tryz.strings_Contains_one s 10 W1).mono ?_
  rintro e w' ⟨rfl, rfl⟩
  go_wp2_with (fail)
  refine (Tryz.strings_Cut s (⟨#[35]⟩ : ByteArray) m _ hs hm1).mono ?_
  rintro e w2 ⟨rfl, n2, hw2⟩
  have hB2 : Below W.heap.size W w2 := hw2 ▸ below_drewN' hB1 n2
  have hbl2 : w2.heap[W.heap.size]? = some (.cells #[.string (⟨#[]⟩ : ByteArray)] 9 (0, 0)) := hw2 ▸ hbl1
  have hs2 : w2.heap.size = W.heap.size + 1 := hw2 ▸ hs1
  clear hw2 hm1 hs1 hbl1 hB1 hW1
  have hsz : (ByteArray.mk (Lib.cut s.data.toList [35]).1.toArray).size ≤ 4294967296 := by
    have := cut_fst_le s.data.toList [35]
    have e : (ByteArray.mk (Lib.cut s.data.toList [35]).1.toArray).size = (Lib.cut s.data.toList [35]).1.length := by simp [ByteArray.size]
    have e2 : s.data.toList.length = s.size := by simp
    omega
  go_wp2_with (fail)
  have hF : Calls Tryz.prog 32 #[.string ⟨(Lib.cut s.data.toList [35]).1.toArray⟩, .func (.func 33) #[] #[]] w2 fun e w' => ∃ A, e = .returned (.slice (some ⟨A, 0, none⟩) (wordsOf s).length (wordsOf s).length) ∧ w2.heap.size ≤ A ∧
      w'.ownsRow w2.heap.size 9 1 (.slice (some ⟨A, 0, none⟩) (wordsOf s).length (wordsOf s).length) (wordsOf s).length ((wordsOf s).map Value.string) ∧ Below w2.heap.size w2 w' :=
    Tryz.strings_FieldsFunc 33 #[] (enters_of Tryz.func33 (by kernel_rfl) rfl) sepP _ w2 hsz (isSep w2)
  refine hF.mono ?_
  rintro e w3 ⟨A, rfl, hA, hown, hB3⟩
  clear hF
  generalize wordsOf s = wd at *
  have hcells : ∀ (j : Nat) x, wd[j]? = some x → w3.cell? ⟨A, j, none⟩ = some (.string x) := fun j x hj => by
    rw [hown.cellAt j (by have := (List.getElem?_eq_some_iff.1 hj).1; omega), List.getElem?_map, hj]; rfl
  have hlt := (hown.lt A rfl).2
  have hbl3 : w3.heap[W.heap.size]? = some (.cells #[.string (⟨#[]⟩ : ByteArray)] 9 (0, 0)) := (hB3.block _ (by omega)).trans hbl2
  have hB13 : Below W.heap.size W w3 := below_then2 hB2 hB3 (by omega)
  have hz3 : w3.frozen? ⟨W.heap.size, 0, none⟩ = false := Lib.frozen_of_heap hbl3 0
  have hc3 : w3.cell? ⟨W.heap.size, 0, none⟩ = some (.string (⟨#[]⟩ : ByteArray)) := Lib.cell_of_heap hbl3 0
  have hs3 := hB3.size
  go_wp2_with (fail)
  refine (hd A w3 (by omega) hlt hcells hB13).mono ?_
  rintro e w4 ⟨hp, hk4⟩
  have hbl4 := hk4.trans hbl3
  have hz4 : w4.frozen? ⟨W.heap.size, 0, none⟩ = false := Lib.frozen_of_heap hbl4 0
  have hc4 : w4.cell? ⟨W.heap.size, 0, none⟩ = some (.string (⟨#[]⟩ : ByteArray)) := Lib.cell_of_heap hbl4 0
  have hlt4 : W.heap.size < w4.heap.size := (Array.getElem?_eq_some_iff.1 hbl4).1
  clear hz3 hc3 hk4
  rcases hp with ⟨out, rfl, hR⟩ | ⟨k, hk, rfl, hR⟩
  · go_wp2
    refine leaves_cons (f := 30) (args := #[.pointer (some ⟨W.heap.size, 0, none⟩)]) (by simp) (by simp [go_sem]) ?_
    refine (catch_idle ⟨W.heap.size, 0, none⟩ _).mono ?_
    rintro e u' w'' ⟨rfl, rfl, rfl⟩
    have hcc : (w4.setCell ⟨W.heap.size, 0, none⟩ (.string out)).cell? ⟨W.heap.size, 0, none⟩ = some (.string out) := World.cell?_setCell_same' _ _ _ (by rw [hc4]; rfl)
    simp [Leaves, settle, results, Tryz.results16, go_sem, hcc]
    exact ⟨out, w4, rfl, hR, kept_setCell _ _ _ _⟩
  · refine leaves_cons (f := 30) (args := #[.pointer (some ⟨W.heap.size, 0, none⟩)]) (by simp) (by simp [go_sem]) ?_
    refine (catch_panicking ⟨W.heap.size, 0, none⟩ _ k hk [] _ hlt4 hc4 hz4).mono ?_
    rintro e u' w'' ⟨rfl, rfl, rfl⟩
    have hca : (w4.alloc (.cells #[.int .i64 k] 65)).cell? ⟨W.heap.size, 0, none⟩ = some (.string (⟨#[]⟩ : ByteArray)) := ((Below.refl w4.heap.size w4).alloc (Nat.le_refl _) _).cell (p := ⟨W.heap.size, 0, none⟩) hlt4 ▸ hc4
    have hcc : ((w4.alloc (.cells #[.int .i64 k] 65)).setCell ⟨W.heap.size, 0, none⟩ (.string (toldS k))).cell? ⟨W.heap.size, 0, none⟩ = some (.string (toldS k)) := World.cell?_setCell_same' _ _ _ (by rw [hca]; rfl)
    simp [Leaves, settle, results, Tryz.results16, go_sem, hcc]
    exact ⟨toldS k, w4, rfl, hR, (Kept.of ((Below.refl w4.heap.size w4).alloc (Nat.le_refl _) _)).trans ((kept_setCell _ _ _ _).mono (by simp) fun _ _ h => h)⟩
end Go.Proofs
