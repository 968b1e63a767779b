/- Contract: awake answers true, and leaves all that was as it was. -/
import Derived.Test.YtebdaijenenepaaGreatDoorDoopen
set_option maxRecDepth 100000
namespace Go.Proofs
open Go Go.RowKit

abbrev op0 (k : Int) : OpV := ⟨k, 0, 0, 0, 0, 0, none, 0, 0, false, none, 0, 0, none, 0, 0, none, 0, 0, none, 0, 0⟩
theorem parse_open (A : Nat) (W : World) : Calls Tryz.prog 83 (#[tailV A 0] ++ #[]) W fun e w' => Below W.heap.size W w' ∧ e = .returned (.agg (op0 1).cells) := by
  go_enter Tryz.func83, Tryz.ntmps83
  go_wp2
  refine ⟨rfl, .agg (op0 1).cells, ?_, (Below.refl _ _).alloc (Nat.le_refl _) _, rfl⟩
  simp [results, Tryz.results83, go_sem]

theorem told3 : toldS 3 = (⟨#[101, 114, 114, 111, 114, 32, 51, 10]⟩ : ByteArray) := by decide +kernel
theorem words_open : wordsOf (⟨#[111, 112, 101, 110]⟩ : ByteArray) = [(⟨#[111, 112, 101, 110]⟩ : ByteArray)] := by decide +kernel
theorem words_service : wordsOf (⟨#[115, 101, 114, 118, 105, 99, 101, 32, 49, 32, 54, 52, 32, 49, 32, 49, 32, 54, 52, 32, 49, 32, 49, 54, 32, 49, 32, 35, 32, 120]⟩ : ByteArray) = [(⟨#[115, 101, 114, 118, 105, 99, 101]⟩ : ByteArray), (⟨#[49]⟩ : ByteArray), (⟨#[54, 52]⟩ : ByteArray), (⟨#[49]⟩ : ByteArray), (⟨#[49]⟩ : ByteArray), (⟨#[54, 52]⟩ : ByteArray), (⟨#[49]⟩ : ByteArray), (⟨#[49, 54]⟩ : ByteArray), (⟨#[49]⟩ : ByteArray)] := by decide +kernel

theorem hit_open (b : Nat → Nat) : Instr.findNow .string (.string (⟨#[111, 112, 101, 110]⟩ : ByteArray)) (vE b).toList 0 = some (some (0, .agg #[.int .i64 0, .func (.func 83) #[] #[], .func (.func 151) #[] #[.pointer (some ⟨b 0, 0, none⟩)]])) := by kernel_rfl

/-- 'open' without a service. -/
theorem line_open_none (sp : Nat) (W : World) (m : Int) (h1 : 1 ≤ W.heap.size) (hm : W.cell? ⟨0, 0, none⟩ = some (.int .i64 m)) (hsp : W.heap[sp]? = some (.cells #[.pointer none] 61 (0, 0))) :
    Calls Tryz.prog 16 #[.pointer (some ⟨sp, 0, none⟩), .string (⟨#[111, 112, 101, 110]⟩ : ByteArray)] W fun e w' => e = .returned (.string (⟨#[101, 114, 114, 111, 114, 32, 51, 10]⟩ : ByteArray)) ∧ Below W.heap.size W w' := by
  have hsl := lt_of_some hsp
  refine (line_does ⟨sp, 0, none⟩ (⟨#[111, 112, 101, 110]⟩ : ByteArray) W m h1 hm (by decide) (by decide +kernel) (by rw [words_open]; simp) (fun out w' => out = (⟨#[101, 114, 114, 111, 114, 32, 51, 10]⟩ : ByteArray) ∧ Below W.heap.size W w') ?_).mono ?_
  · rw [words_open]
    intro A w1 hA hA1 hws hb
    refine (does_op sp (.pointer none) A [(⟨#[111, 112, 101, 110]⟩ : ByteArray)] (⟨#[111, 112, 101, 110]⟩ : ByteArray) w1 hA1 (Nat.lt_of_lt_of_le hsl hb.size) hws rfl (by decide +kernel) ?_ 0 0 (by omega) 83 151 (enters_of Tryz.func83 (by kernel_rfl) rfl) (enters_of Tryz.func151 (by kernel_rfl) rfl) (fun _ => #[]) (fun b => #[.pointer (some ⟨b 0, 0, none⟩)]) hit_open
      (fun out w' => out = (⟨#[101, 114, 114, 111, 114, 32, 51, 10]⟩ : ByteArray) ∧ Below W.heap.size W w') (fun _ => False) (fun _ _ _ => True) (fun _ _ _ => False) (fun _ _ _ _ _ _ _ => trivial) (fun _ _ _ _ h _ _ => h) ?_ (fun _ => True) (.inl ⟨rfl, fun w' hw => And.intro told3 (below_then2 hb hw hb.size)⟩) (fun _ h => h.elim) (fun h => h) (fun _ _ _ _ _ _ h => h.elim)).mono ?_
    · exact (hb.cell (p := ⟨sp, 0, none⟩) hsl).trans (Lib.cell_of_heap hsp 0)
    · intro b w2 _ _
      exact (parse_open A w2).mono fun e w' ⟨h1, h2⟩ => ⟨h1, .inr ⟨_, h2, trivial⟩⟩
    · rintro e w' ⟨hp, hk⟩
      exact ⟨hp, hk.block _ (Nat.lt_of_lt_of_le (Nat.lt_trans hA hA1) (Nat.le_refl _)) (fun h => h)⟩
  · rintro e w' ⟨out, w1, rfl, ⟨rfl, hb⟩, hk⟩
    refine ⟨rfl, hb.trans ((hk.mono (S' := (· = W.heap.size)) hb.size fun _ _ h => h).below fun k hk h => ?_)⟩
    omega

theorem Serv0.lt {c : Cfg} {w : World} {sv tb tg ab ag qb qg cg fm : Nat} (h : Serv0 c w sv tb tg ab ag qb qg cg fm) : ∀ k ∈ [sv, tb, tg, ab, ag, qb, qg, cg, fm], k < w.heap.size := by
  intro k hk
  simp only [List.mem_cons, List.not_mem_nil, or_false] at hk
  rcases hk with rfl | rfl | rfl | rfl | rfl | rfl | rfl | rfl | rfl
  · exact h.s.lt
  · exact h.t.lt
  · exact h.tp.lt
  · exact h.a.lt
  · exact h.ap.lt
  · exact h.q.lt
  · exact h.qp.lt
  · exact h.cl.lt
  · exact lt_of_some h.fl

theorem line_service (sp : Nat) (svc : Value) (W : World) (m : Int) (hT : Lib.Utf8Tabs 7 8 W) (h9 : 9 ≤ W.heap.size) (hm : W.cell? ⟨0, 0, none⟩ = some (.int .i64 m)) (hsp : W.heap[sp]? = some (.cells #[svc] 61 (0, 0)))
    (s : ByteArray) (ws : List ByteArray) (c : Cfg) (hc : c.Ok) (hs : s.size < 4294967281) (hnl : decide (0 ≤ Lib.indexByte s.data.toList 10) = false) (hw : wordsOf s = (⟨#[115, 101, 114, 118, 105, 99, 101]⟩ : ByteArray) :: ws) (hl : ws.length = 8)
    (hn : ∀ (j : Nat) x, ws[j]? = some x → numI x.data.toList = some (c.val j : Int)) :
    Calls Tryz.prog 16 #[.pointer (some ⟨sp, 0, none⟩), .string s] W fun e w' => e = .returned (.string (⟨#[111, 107, 10]⟩ : ByteArray)) ∧
      ∃ sv tb tg ab ag qb qg cg fm, Serv0 c w' sv tb tg ab ag qb qg cg fm ∧ (∀ b ∈ [sv, tb, tg, ab, ag, qb, qg, cg, fm], W.heap.size < b) ∧ w'.heap[sp]? = some (.cells #[.pointer (some ⟨sv, 0, none⟩)] 61 (0, 0)) ∧ Kept (· = sp) W.heap.size W w' := by
  have hsl := lt_of_some hsp
  have h9' : 1 ≤ W.heap.size := by omega
  refine (line_does ⟨sp, 0, none⟩ s W m h9' hm hs hnl (by rw [hw]; simp) (fun out w' => out = (⟨#[111, 107, 10]⟩ : ByteArray) ∧ ∃ sv tb tg ab ag qb qg cg fm, Serv0 c w' sv tb tg ab ag qb qg cg fm ∧ (∀ b ∈ [sv, tb, tg, ab, ag, qb, qg, cg, fm], W.heap.size < b) ∧ w'.heap[sp]? = some (.cells #[.pointer (some ⟨sv, 0, none⟩)] 61 (0, 0)) ∧ Kept (· = sp) W.heap.size W w') ?_).mono ?_
  · rw [hw]
    intro A w1 hA hA1 hws hb
    have e9 : ((⟨#[115, 101, 114, 118, 105, 99, 101]⟩ : ByteArray) :: ws).length = 9 := by simp [hl]
    rw [e9]
    refine (does_service sp A svc ws c hc w1 (tabs_below hT hb h9) (Nat.le_trans h9 hb.size) hA1 ((hb.block sp hsl).trans hsp) hl hws hn).mono ?_
    rintro e w' ⟨rfl, sv, tb, tg, ab, ag, qb, qg, cg, fm, hs0, hlo, hsp', hk⟩
    have hsz := hb.size
    refine ⟨.inl ⟨_, rfl, rfl, sv, tb, tg, ab, ag, qb, qg, cg, fm, hs0, fun b hb' => Nat.lt_of_lt_of_le (Nat.lt_trans hA hA1) (hlo b hb'), hsp', (Kept.of hb).trans (hk.mono hsz fun _ _ h => h)⟩, hk.block _ (Nat.lt_trans hA hA1) (by omega)⟩
  · rintro e w' ⟨out, w1, rfl, ⟨rfl, sv, tb, tg, ab, ag, qb, qg, cg, fm, hs0, hlo, hsp', hk1⟩, hk⟩
    have hblk : ∀ k, k < w1.heap.size → k ≠ W.heap.size → w'.heap[k]? = w1.heap[k]? := fun k h h' => hk.block k h h'
    refine ⟨rfl, sv, tb, tg, ab, ag, qb, qg, cg, fm, hs0.same fun k hk' => hblk k (hs0.lt k hk') (Nat.ne_of_gt (hlo k hk')), hlo, (hblk sp (lt_of_some hsp') (by omega)).trans hsp', hk1.trans ((hk.mono hk1.size fun k h h' => ?_))⟩
    omega
theorem joined_client : joined [(⟨#[99, 108, 105, 101, 110, 116]⟩ : ByteArray), ⟨(Lib.decDigits 1).toArray⟩] = (⟨#[99, 108, 105, 101, 110, 116, 32, 49, 10]⟩ : ByteArray) := by decide +kernel
theorem Kept.lift {S : Nat → Prop} {a b : World} {B : Nat} (h : Kept S B a b) {B' : Nat} (hB : B' ≤ B) : Kept S B' a b := h.mono hB fun _ _ h => h

/-- 'open' at a new service. -/
theorem line_open (sp : Nat) (c : Cfg) (hc : c.Ok) (W : World) (m : Int) (h1 : 1 ≤ W.heap.size) (hm : W.cell? ⟨0, 0, none⟩ = some (.int .i64 m)) (sv tb tg ab ag qb qg cg fm : Nat) (hsp : W.heap[sp]? = some (.cells #[.pointer (some ⟨sv, 0, none⟩)] 61 (0, 0)))
    (h : Serv0 c W sv tb tg ab ag qb qg cg fm) (n1 : sp ≠ tg) (n2 : sp ≠ cg) :
    Calls Tryz.prog 16 #[.pointer (some ⟨sp, 0, none⟩), .string (⟨#[111, 112, 101, 110]⟩ : ByteArray)] W fun e w' => e = .returned (.string (⟨#[99, 108, 105, 101, 110, 116, 32, 49, 10]⟩ : ByteArray)) ∧ Kept (fun k => k = tg ∨ k = cg) W.heap.size W w' := by
  have hsl := lt_of_some hsp
  have htl := h.tp.lt
  have hcl := h.cl.lt
  refine (line_does ⟨sp, 0, none⟩ (⟨#[111, 112, 101, 110]⟩ : ByteArray) W m h1 hm (by decide) (by decide +kernel) (by rw [words_open]; simp) (fun out w' => out = (⟨#[99, 108, 105, 101, 110, 116, 32, 49, 10]⟩ : ByteArray) ∧ Kept (fun k => k = tg ∨ k = cg) W.heap.size W w') ?_).mono ?_
  · rw [words_open]
    intro A w1 hA hA1 hws hb
    have hsz := hb.size
    refine (does_op sp (.pointer (some ⟨sv, 0, none⟩)) A [(⟨#[111, 112, 101, 110]⟩ : ByteArray)] (⟨#[111, 112, 101, 110]⟩ : ByteArray) w1 hA1 (Nat.lt_of_lt_of_le hsl hb.size) hws rfl (by decide +kernel) ?_ 0 0 (by omega) 83 151 (enters_of Tryz.func83 (by kernel_rfl) rfl) (enters_of Tryz.func151 (by kernel_rfl) rfl) (fun _ => #[]) (fun b => #[.pointer (some ⟨b 0, 0, none⟩)]) hit_open
      (fun out w' => out = (⟨#[99, 108, 105, 101, 110, 116, 32, 49, 10]⟩ : ByteArray) ∧ Kept (fun k => k = tg ∨ k = cg) W.heap.size W w') (fun k => k = tg ∨ k = cg) (fun x _ _ => x.k = 1) (fun o _ _ => o.e = 0 ∧ o.n = 1) (fun _ _ _ _ h _ _ => h) (fun _ _ _ _ h _ _ => h) ?_ (fun out => out = (⟨#[99, 108, 105, 101, 110, 116, 32, 49, 10]⟩ : ByteArray)) (.inr ⟨_, rfl, ?_⟩) ?_ ?_ ?_).mono ?_
    · exact (hb.cell (p := ⟨sp, 0, none⟩) hsl).trans (Lib.cell_of_heap hsp 0)
    · intro b w2 _ _
      exact (parse_open A w2).mono fun e w' ⟨h1, h2⟩ => ⟨h1, .inr ⟨_, h2, rfl⟩⟩
    · intro x B w2 hB hx hb2
      have hbb := hb.trans (hb2.mono hsz)
      refine (do_open c hc w2 sv tb tg ab ag qb qg cg fm (h.same fun k hk => hbb.block k (h.lt k hk)) x hx).mono ?_
      rintro e w3 ⟨rfl, hk3⟩
      refine ⟨hk3, ⟨0, 1, none, 0, 0, 0, 0, 0⟩, w2.heap.size, rfl, Nat.le_refl _, ⟨rfl, rfl⟩, by decide, fun out w4 hout hk4 => ⟨hout, ?_⟩⟩
      have h2 := hb2.size
      have h3 := hk3.size
      exact ((Kept.of hbb).trans (hk3.lift (by omega))).trans (hk4.mono (by omega) fun k _ h => by omega)
    · rintro k (rfl | rfl) <;> omega
    · omega
    · rintro o B b w2 - - ⟨-, ho⟩ hV
      refine (named1 (b 0) 1 (by omega) (⟨#[99, 108, 105, 101, 110, 116]⟩ : ByteArray) o ho w2 (Lib.cell_of_heap hV.c0 0) hV.c0.lt).mono ?_
      rintro e w3 ⟨hb3, B0, c, rfl, hc2, hB0, q0, q1⟩
      refine ⟨hb3, B0, 0, [(⟨#[99, 108, 105, 101, 110, 116]⟩ : ByteArray), ⟨(Lib.decDigits 1).toArray⟩], c, rfl, hB0, ?_, hc2, by decide, by decide +kernel, joined_client⟩
      rintro (_ | _ | j) x hx
      · obtain rfl := Option.some.inj hx
        exact q0
      · obtain rfl := Option.some.inj hx
        exact q1
      · exact absurd hx (by simp)
    · rintro e w' ⟨hp, hk⟩
      exact ⟨hp, hk.block _ (Nat.lt_trans hA hA1) (by omega)⟩
  · rintro e w' ⟨out, w1, rfl, ⟨rfl, hb⟩, hk⟩
    refine ⟨rfl, hb.trans (hk.mono hb.size fun k hk h => ?_)⟩
    omega

/-- The words of a service's line, as numbers. -/
def cfg1 : Cfg := ⟨1, 64, 1, 1, 64, 1, 16, 1⟩
theorem cfg1_ok : cfg1.Ok := ⟨by decide, by decide, by decide, by decide, by decide, by decide, by decide, by decide, by decide, by decide, by decide, by decide, by decide, by decide, by decide, by decide⟩
theorem cfg1_words (j : Nat) (x : ByteArray) (h : [(⟨#[49]⟩ : ByteArray), (⟨#[54, 52]⟩ : ByteArray), (⟨#[49]⟩ : ByteArray), (⟨#[49]⟩ : ByteArray), (⟨#[54, 52]⟩ : ByteArray), (⟨#[49]⟩ : ByteArray), (⟨#[49, 54]⟩ : ByteArray), (⟨#[49]⟩ : ByteArray)][j]? = some x) : numI x.data.toList = some (cfg1.val j : Int) := by
  rcases j with _ | _ | _ | _ | _ | _ | _ | _ | j
  case succ.succ.succ.succ.succ.succ.succ.succ => exact absurd h (by simp)
  all_goals
    obtain rfl := Option.some.inj h
    decide +kernel

theorem awake_true (W : World) (m : Int) (hT : Lib.Utf8Tabs 7 8 W) (h9 : 9 ≤ W.heap.size) (hm : W.cell? ⟨0, 0, none⟩ = some (.int .i64 m)) :
    Calls Tryz.prog 12 #[] W fun e w' => e = .returned (.bool true) ∧ Below W.heap.size W w' := by
  have h0 : 0 < W.heap.size := by omega
  go_enter Tryz.func12, Tryz.ntmps12
  go_wp2_with (fail)
  refine (shell_new W).mono ?_
  rintro e w1 ⟨rfl, hw1⟩
  have hb1 : Below W.heap.size W w1 := hw1 ▸ (Below.refl _ _).alloc (Nat.le_refl _) _
  have hsp1 : w1.heap[W.heap.size]? = some (.cells #[.pointer none] 61 (0, 0)) := hw1 ▸ Array.getElem?_push_size
  have hz1 : w1.heap.size = W.heap.size + 1 := hw1 ▸ (by simp)
  have HZ1 := Lib.hid hz1
  clear hw1 hz1
  go_wp2_with (fail)
  refine (line_open_none W.heap.size w1 m (by have := HZ1.out; omega) ((hb1.cell (p := ⟨0, 0, none⟩) h0).trans hm) hsp1).mono ?_
  rintro e w2 ⟨rfl, hb2⟩
  have hb12 := below_then hb1 hb2
  have hz2 := hb2.size
  have hsp2 := (hb2.block W.heap.size (by have := HZ1.out; omega)).trans hsp1
  go_wp2_with (fail)
  refine (line_service W.heap.size (.pointer none) w2 m (tabs_below hT hb12 h9) (by have := HZ1.out; omega) ((hb12.cell (p := ⟨0, 0, none⟩) h0).trans hm) hsp2 (⟨#[115, 101, 114, 118, 105, 99, 101, 32, 49, 32, 54, 52, 32, 49, 32, 49, 32, 54, 52, 32, 49, 32, 49, 54, 32, 49, 32, 35, 32, 120]⟩ : ByteArray) _ cfg1 cfg1_ok (by decide) (by decide +kernel) words_service rfl cfg1_words).mono ?_
  rintro e w3 ⟨rfl, sv, tb, tg, ab, ag, qb, qg, cg, fm, hs0, hlo, hsp3, hk3⟩
  go_wp2_with (fail)
  have hz3 := hk3.size
  have n1 := hlo tg (by simp)
  have n2 := hlo cg (by simp)
  refine (line_open W.heap.size cfg1 cfg1_ok w3 m (by have := HZ1.out; omega) ((hk3.cell (p := ⟨0, 0, none⟩) (by have := HZ1.out; show 0 < w2.heap.size; omega) (by show ¬ 0 = W.heap.size; omega)).trans ((hb12.cell (p := ⟨0, 0, none⟩) h0).trans hm)) sv tb tg ab ag qb qg cg fm hsp3 hs0 (by have := HZ1.out; omega) (by have := HZ1.out; omega)).mono ?_
  rintro e w4 ⟨rfl, hk4⟩
  go_wp2
  go_ret
  refine ⟨rfl, hb12.trans (((hk3.mono (B' := W.heap.size) (S' := fun _ => False) (by have := HZ1.out; omega) fun k h h' => ?_).trans (hk4.mono (by have := HZ1.out; omega) fun k h h' => ?_)).below fun _ _ h => h)⟩
  · have := HZ1.out; omega
  · have := HZ1.out; omega
end Go.Proofs
