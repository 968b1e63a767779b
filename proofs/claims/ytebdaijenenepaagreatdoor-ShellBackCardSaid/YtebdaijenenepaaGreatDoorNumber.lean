/- Contracts: shell.need, fine and number. -/
import Derived.Test.YtebdaijenenepaaGreatDoorNum
import Derived.WalkLawsBesides
import Derived.Lib.AtoiErrMem
set_option maxRecDepth 100000
namespace Go.Proofs
open Go Go.RowKit

def wrongV (e : Int) : PanicEntry := { v := .iface 65 (.agg #[.int .i64 e]), recovered := false }

theorem need_ok (e : Int) (w : World) : Calls Tryz.prog 47 #[.bool true, .int .i64 e] w fun x w' => x = .returned (.tuple #[]) ∧ w = w' := by
  go_enter Tryz.func47, Tryz.ntmps47
  go_wp2
  go_end0
  exact ⟨rfl, rfl⟩
theorem need_no (e : Int) (w : World) : Calls Tryz.prog 47 #[.bool false, .int .i64 e] w fun x w' => x = .panicked [wrongV e] ∧ w = w' := by
  go_enter Tryz.func47, Tryz.ntmps47
  go_wp2
  exact ⟨rfl, rfl, rfl⟩
theorem fine_ok (w : World) : Calls Tryz.prog 49 #[.int .i64 0] w fun x w' => x = .returned (.tuple #[]) ∧ w = w' := by
  go_enter Tryz.func49, Tryz.ntmps49
  go_wp2_with (go_at_call 47; refine (need_ok _ _).mono ?_; rintro e w1 ⟨rfl, rfl⟩)
  go_end0
  exact ⟨rfl, rfl⟩
theorem fine_no (e : Int) (h : e ≠ 0) (w : World) : Calls Tryz.prog 49 #[.int .i64 e] w fun x w' => x = .panicked [wrongV e] ∧ w = w' := by
  have h0 : (e == 0) = false := by simpa using h
  go_enter Tryz.func49, Tryz.ntmps49
  go_wp2_with (go_at_call 47; refine (need_no _ _).mono ?_; rintro e w1 ⟨rfl, rfl⟩)
  exact ⟨rfl, rfl, rfl⟩

def numOk (l : List UInt8) : Bool := !l.isEmpty && decide (l.length ≤ 9) && l.all isDig && (l == [48] || l.head? != some 48)
def numI (l : List UInt8) : Option Int := if numOk l then Lib.atoi l else none

theorem isDig_val {c : UInt8} (h : isDig c = true) : Lib.digitVal c = some (c.toNat - 48) := by
  simp [isDig] at h
  unfold Lib.digitVal
  exact if_pos h
theorem decFrom_bound (l : List UInt8) : ∀ (acc : Nat), l.all isDig = true → ∃ n, Lib.decFrom acc l = some n ∧ n < (acc + 1) * 10 ^ l.length := by
  induction l with
  | nil => intro acc _; exact ⟨acc, rfl, by simp⟩
  | cons c l ih =>
    intro acc h
    simp only [List.all_cons, Bool.and_eq_true] at h
    obtain ⟨n, hn, hb⟩ := ih (acc * 10 + (c.toNat - 48)) h.2
    refine ⟨n, ?_, ?_⟩
    · simp only [Lib.decFrom, isDig_val h.1]; exact hn
    · have h1 := h.1
      simp [isDig] at h1
      have : (acc * 10 + (c.toNat - 48) + 1) * 10 ^ l.length ≤ ((acc + 1) * 10) * 10 ^ l.length := Nat.mul_le_mul_right _ (by omega)
      rw [List.length_cons, Nat.pow_succ, Nat.mul_comm (10 ^ l.length) 10, ← Nat.mul_assoc]
      omega
theorem num_atoi {l : List UInt8} (h : numOk l = true) : ∃ n : Nat, Lib.atoi l = some (n : Int) ∧ n < 1000000000 := by
  simp only [numOk, Bool.and_eq_true, Bool.not_eq_true', decide_eq_true_eq] at h
  obtain ⟨⟨⟨h1, h2⟩, h3⟩, _⟩ := h
  cases l with
  | nil => simp at h1
  | cons c l =>
    obtain ⟨n, hn, hb⟩ := decFrom_bound (c :: l) 0 h3
    have hc : isDig c = true := by simp only [List.all_cons, Bool.and_eq_true] at h3; exact h3.1
    simp [isDig] at hc
    have e1 : (c == 45) = false := by rw [beq_eq_false_iff_ne]; intro e; subst e; simp at hc
    have e2 : (c == 43) = false := by rw [beq_eq_false_iff_ne]; intro e; subst e; simp at hc
    refine ⟨n, ?_, ?_⟩
    · simp only [Lib.atoi, e1, e2, Lib.decNat, List.isEmpty_cons, Bool.false_eq_true, if_false, hn, Option.map_some]
    · have : 10 ^ (c :: l).length ≤ 10 ^ 9 := Nat.pow_le_pow_right (by decide) h2
      omega
theorem cutL_all {l : List UInt8} (h : l.all isDig = true) : cutL l = [] := by
  induction l with
  | nil => rfl
  | cons c l ih => simp only [List.all_cons, Bool.and_eq_true] at h; rw [cutL, if_pos h.1, ih h.2]
theorem cutL_ne {l : List UInt8} (h : l.all isDig = false) : ∃ c r, cutL l = c :: r ∧ isDig c = false := by
  induction l with
  | nil => simp at h
  | cons c l ih =>
    by_cases hc : isDig c = true
    · simp only [List.all_cons, hc, Bool.true_and] at h
      rw [cutL, if_pos hc]; exact ih h
    · exact ⟨c, l, by rw [cutL, if_neg hc], by simpa using hc⟩
theorem cutL_append_ne (a : List UInt8) (c : UInt8) (h : isDig c = false) : cutL (a ++ [c]) ≠ [] := by
  induction a with
  | nil => simp [cutL, h]
  | cons x a ih => simp only [List.cons_append, cutL]; split
                   · exact ih
                   · simp
theorem cutR_ne {c : UInt8} {r : List UInt8} (h : isDig c = false) : cutR (c :: r) ≠ [] := by
  unfold cutR
  intro e
  have := List.reverse_eq_nil_iff.1 e
  rw [List.reverse_cons] at this
  exact cutL_append_ne _ _ h this

theorem below_bytes (w : World) (t : ByteArray) : Below w.heap.size w (Lib.bytesWorld w 5 t) := by
  exact Lib.bytesWorld_below _ _ _

def NumPost (l : List UInt8) (W : World) (e : Ending) (w' : World) : Prop :=
  (∃ n : Int, numI l = some n ∧ e = .returned (.int .i64 n) ∧ Below W.heap.size W w') ∨ (numI l = none ∧ e = .panicked [wrongV 1] ∧ Below W.heap.size W w')

set_option maxHeartbeats 2000000 in
theorem number_ok (s : ByteArray) (W : World) (hT : Lib.Utf8Tabs 7 8 W) (h9 : 9 ≤ W.heap.size) (hok : numOk s.data.toList = true) :
    Calls Tryz.prog 81 #[.string s] W (NumPost s.data.toList W) := by
  have hsl : s.data.toList.length = s.size := by simp
  obtain ⟨n, hn, hnb⟩ := num_atoi hok
  have hi : numI s.data.toList = some (n : Int) := by unfold numI; rw [if_pos hok, hn]
  have HI := Lib.hid hi
  have HN := Lib.hid hn
  have hok' := hok
  simp only [numOk, Bool.and_eq_true, Bool.not_eq_true', decide_eq_true_eq] at hok'
  obtain ⟨⟨⟨h1, h2⟩, h3⟩, h4⟩ := hok'
  have e1 : s.toList.isEmpty = false := by rw [ByteArray.toList_eq]; exact h1
  have e2 : (s.size : Int) ≤ 9 := by omega
  have e2' : s.size ≤ 9 := by omega
  have hcl := cutL_all h3
  have HCL := Lib.hid hcl
  have H4 := Lib.hid h4
  clear hi hn hok h1 h2 h3 h4 hcl hsl
  have hsl1 : (⟨#[48, 49, 50, 51, 52, 53, 54, 55, 56, 57, 97, 98, 99, 100, 101, 102]⟩ : ByteArray).extract 0 10 = digs := by decide
  by_cases e3 : (s.toList == [48]) = true
  · go_enter Tryz.func81, Tryz.ntmps81
    go_wp2
    refine Draw.wp_draw [0,1,3,7,15,31,63,127,255,255,1023,255,4095,8191,16383,32767,65535,131071,262143,524287,1048575,2097151,4194303,8388607,16777215] [10,12,24] [[(0, .calm, []), (1, .calm, []), (2, .calm, []), (3, .calm, []), (4, .calm, []), (5, .calm, []), (6, .calm, []), (7, .calm, []), (8, .calm, []), (9, .calm, []), (11, .calm, []), (10, .eff, []), (12, .eff, []), (13, .calm, []), (14, .calm, []), (15, .calm, []), (16, .calm, []), (17, .calm, []), (18, .calm, []), (19, .calm, []), (20, .calm, []), (21, .calm, []), (22, .calm, []), (23, .calm, []), (24, .eff, [])]] (by kernel_rfl) (by kernel_rfl) (by repeat (first | exact Draw.insP_body | refine Draw.insP_then ?_ | refine Draw.insP_block ?_)) ?_
    simp only [List.forall_mem_singleton]
    repeat (first
      | (refine Draw.wpD_calm rfl rfl (fun K hK => ?_); go_simp; (try go_bits); (try go_simp); refine hK _ _ ?_; clear hK K)
      | (refine Draw.wpD_look rfl rfl (fun K hK => ?_); go_simp; (try go_bits); (try go_simp); refine hK _ _ ?_; clear hK K)
      | (refine Draw.wpD_calmg rfl rfl (fun K hK => ?_); go_simp; (try go_bits); (try go_simp); refine hK _ _ ?_; clear hK K)
      | (refine Draw.wpD_lookg rfl rfl (fun K hK => ?_); go_simp; (try go_bits); (try go_simp); refine hK _ _ ?_; clear hK K)
      | (refine Draw.wpD_skip rfl rfl (fun K hK => ?_); go_simp; refine hK _ _ ?_; clear hK K))
    refine Draw.wpD_effg rfl rfl (fun K hK => ?_)
    go_simp
    refine (cutLeft_any _ _ (by omega)).mono ?_
    rintro e w1 ⟨rfl, hb1⟩
    refine hK _ _ ?_
    clear hK K
    rw [HCL.out]
    refine Draw.wpD_effg rfl rfl (fun K hK => ?_)
    go_simp
    refine (cutRight_any _ _ (by decide) (tabs_below hT (below_of_drew hb1) h9) (Nat.le_trans h9 hb1.size)).mono ?_
    rintro e w2 ⟨rfl, hb2⟩
    refine hK _ _ ?_
    clear hK K
    have hr : (⟨(cutR (⟨#[]⟩ : ByteArray).data.toList).toArray⟩ : ByteArray) = ⟨#[]⟩ := rfl
    rw [hr]
    clear hr
    repeat (first
      | (refine Draw.wpD_calm rfl rfl (fun K hK => ?_); go_simp; (try go_bits); (try go_simp); refine hK _ _ ?_; clear hK K)
      | (refine Draw.wpD_look rfl rfl (fun K hK => ?_); go_simp; (try go_bits); (try go_simp); refine hK _ _ ?_; clear hK K)
      | (refine Draw.wpD_calmg rfl rfl (fun K hK => ?_); go_simp; (try go_bits); (try go_simp); refine hK _ _ ?_; clear hK K)
      | (refine Draw.wpD_lookg rfl rfl (fun K hK => ?_); go_simp; (try go_bits); (try go_simp); refine hK _ _ ?_; clear hK K)
      | (refine Draw.wpD_skip rfl rfl (fun K hK => ?_); go_simp; refine hK _ _ ?_; clear hK K))
    refine Draw.wpD_eff rfl rfl (fun K hK => ?_)
    go_simp
    refine (need_ok _ _).mono ?_
    rintro e w3 ⟨rfl, rfl⟩
    refine hK _ _ ?_
    clear hK K
    refine Draw.wpD_nil ?_
    go_wp2_with (go_at_call 147; refine (Tryz.strconv_Atoi _ n (by omega) HN.out _).mono ?_; rintro e w4 ⟨rfl, t, rfl⟩)
    go_ret
    exact .inl ⟨n, HI.out, rfl, below_then (below_then (below_of_drew hb1) hb2) (below_bytes _ _)⟩
  · have e3' : (s.toList == [48]) = false := by simpa using e3
    have hne48 : (s.data.toList == [48]) = false := by rw [ByteArray.toList_eq] at e3'; exact e3'
    have hpos : 0 < s.size := by
      rcases Nat.eq_zero_or_pos s.size with h | h
      · rw [ByteArray.toList_eq] at e1
        have : s.data.toList.length = s.size := by simp
        rw [h] at this
        rw [List.length_eq_zero_iff.1 this] at e1
        cases e1
      · exact h
    have hfirst : ((s[0].toNat : Int) != 48) = true := by
      have h4 := H4.out
      rw [hne48, Bool.false_or] at h4
      rw [bne_iff_ne] at h4 ⊢
      intro he
      apply h4
      have hlt : 0 < s.data.toList.length := by simpa using hpos
      rw [List.head?_eq_getElem?, List.getElem?_eq_getElem hlt]
      have : s[0].toNat = 48 := by omega
      have h48 : s[0] = 48 := UInt8.toNat.inj this
      exact congrArg some h48
    clear e3 hne48
    go_enter Tryz.func81, Tryz.ntmps81
    go_wp2
    refine Draw.wp_draw [0,1,3,7,15,31,63,127,255,255,1023,255,4095,8191,16383,32767,65535,131071,262143,524287,1048575,2097151,4194303,8388607,16777215] [10,12,24] [[(0, .calm, []), (1, .calm, []), (2, .calm, []), (3, .calm, []), (4, .calm, []), (5, .calm, []), (6, .calm, []), (7, .calm, []), (8, .calm, []), (9, .calm, []), (11, .calm, []), (10, .eff, []), (12, .eff, []), (13, .calm, []), (14, .calm, []), (15, .calm, []), (16, .calm, []), (17, .calm, []), (18, .calm, []), (19, .calm, []), (20, .calm, []), (21, .calm, []), (22, .calm, []), (23, .calm, []), (24, .eff, [])]] (by kernel_rfl) (by kernel_rfl) (by repeat (first | exact Draw.insP_body | refine Draw.insP_then ?_ | refine Draw.insP_block ?_)) ?_
    simp only [List.forall_mem_singleton]
    repeat (first
      | (refine Draw.wpD_calm rfl rfl (fun K hK => ?_); go_simp; (try go_bits); (try go_simp); refine hK _ _ ?_; clear hK K)
      | (refine Draw.wpD_look rfl rfl (fun K hK => ?_); go_simp; (try go_bits); (try go_simp); refine hK _ _ ?_; clear hK K)
      | (refine Draw.wpD_calmg rfl rfl (fun K hK => ?_); go_simp; (try go_bits); (try go_simp); refine hK _ _ ?_; clear hK K)
      | (refine Draw.wpD_lookg rfl rfl (fun K hK => ?_); go_simp; (try go_bits); (try go_simp); refine hK _ _ ?_; clear hK K)
      | (refine Draw.wpD_skip rfl rfl (fun K hK => ?_); go_simp; refine hK _ _ ?_; clear hK K))
    refine Draw.wpD_effg rfl rfl (fun K hK => ?_)
    go_simp
    refine (cutLeft_any _ _ (by omega)).mono ?_
    rintro e w1 ⟨rfl, hb1⟩
    refine hK _ _ ?_
    clear hK K
    rw [HCL.out]
    refine Draw.wpD_effg rfl rfl (fun K hK => ?_)
    go_simp
    refine (cutRight_any _ _ (by decide) (tabs_below hT (below_of_drew hb1) h9) (Nat.le_trans h9 hb1.size)).mono ?_
    rintro e w2 ⟨rfl, hb2⟩
    refine hK _ _ ?_
    clear hK K
    have hr : (⟨(cutR (⟨#[]⟩ : ByteArray).data.toList).toArray⟩ : ByteArray) = ⟨#[]⟩ := rfl
    rw [hr]
    clear hr
    repeat (first
      | (refine Draw.wpD_calm rfl rfl (fun K hK => ?_); go_simp; (try go_bits); (try go_simp); refine hK _ _ ?_; clear hK K)
      | (refine Draw.wpD_look rfl rfl (fun K hK => ?_); go_simp; (try go_bits); (try go_simp); refine hK _ _ ?_; clear hK K)
      | (refine Draw.wpD_calmg rfl rfl (fun K hK => ?_); go_simp; (try go_bits); (try go_simp); refine hK _ _ ?_; clear hK K)
      | (refine Draw.wpD_lookg rfl rfl (fun K hK => ?_); go_simp; (try go_bits); (try go_simp); refine hK _ _ ?_; clear hK K)
      | (refine Draw.wpD_skip rfl rfl (fun K hK => ?_); go_simp; refine hK _ _ ?_; clear hK K))
    refine Draw.wpD_eff rfl rfl (fun K hK => ?_)
    go_simp
    refine (need_ok _ _).mono ?_
    rintro e w3 ⟨rfl, rfl⟩
    refine hK _ _ ?_
    clear hK K
    refine Draw.wpD_nil ?_
    go_wp2_with (go_at_call 147; refine (Tryz.strconv_Atoi _ n (by omega) HN.out _).mono ?_; rintro e w4 ⟨rfl, t, rfl⟩)
    go_ret
    exact .inl ⟨n, HI.out, rfl, below_then (below_then (below_of_drew hb1) hb2) (below_bytes _ _)⟩
end Go.Proofs
