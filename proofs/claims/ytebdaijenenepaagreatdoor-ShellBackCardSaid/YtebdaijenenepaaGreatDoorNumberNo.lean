/- Contract: what is no number gives up with error 1 (shell.number). -/
import Derived.Test.YtebdaijenenepaaGreatDoorNumber
set_option maxRecDepth 100000
namespace Go.Proofs
open Go Go.RowKit

theorem cutL_len (l : List UInt8) : (cutL l).length ≤ l.length := by
  induction l with
  | nil => simp [cutL]
  | cons c l ih => rw [cutL]; split <;> simp <;> omega
theorem mk_toList (l : List UInt8) : (⟨l.toArray⟩ : ByteArray).toList = l := by rw [ByteArray.toList_eq]

set_option maxHeartbeats 2000000 in
theorem number_no (s : ByteArray) (W : World) (hT : Lib.Utf8Tabs 7 8 W) (h9 : 9 ≤ W.heap.size) (hno : numOk s.data.toList = false) :
    Calls Tryz.prog 81 #[.string s] W (NumPost s.data.toList W) := by
  have hsl : s.data.toList.length = s.size := by simp
  have hi : numI s.data.toList = none := by unfold numI; rw [hno]; rfl
  have HI := Lib.hid hi
  have hsl1 : (⟨#[48, 49, 50, 51, 52, 53, 54, 55, 56, 57, 97, 98, 99, 100, 101, 102]⟩ : ByteArray).extract 0 10 = digs := by decide
  have HNO := Lib.hid hno
  clear hi hno
  by_cases e1 : s.toList.isEmpty = true
  · clear hsl1 hsl
    go_enter Tryz.func81, Tryz.ntmps81
    go_wp2
    refine Draw.wp_draw [0,1,3,7,15,31,63,127,255,255,1023,255,4095,8191,16383,32767,65535,131071,262143,524287,1048575,2097151,4194303,8388607,16777215] [10,12,24] [[(0, .calm, []), (1, .calm, []), (2, .calm, []), (3, .calm, []), (4, .calm, []), (5, .calm, []), (6, .calm, []), (7, .calm, []), (8, .calm, []), (9, .calm, []), (11, .calm, []), (10, .eff, []), (12, .eff, []), (13, .calm, []), (14, .calm, []), (15, .calm, []), (16, .calm, []), (17, .calm, []), (18, .calm, []), (19, .calm, []), (20, .calm, []), (21, .calm, []), (22, .calm, []), (23, .calm, []), (24, .eff, [])]] (by kernel_rfl) (by kernel_rfl) (by repeat (first | exact Draw.insP_body | refine Draw.insP_then ?_ | refine Draw.insP_block ?_)) ?_
    simp only [List.forall_mem_singleton]
    repeat (first
      | (refine Draw.wpD_calm rfl rfl (fun K hK => ?_); go_simp; (try go_bits); (try go_simp); refine hK _ _ ?_; clear hK K)
      | (refine Draw.wpD_look rfl rfl (fun K hK => ?_); go_simp; (try go_bits); (try go_simp); refine hK _ _ ?_; clear hK K)
      | (refine Draw.wpD_calmg rfl rfl (fun K hK => ?_); go_simp; (try go_bits); (try go_simp); refine hK _ _ ?_; clear hK K)
      | (refine Draw.wpD_lookg rfl rfl (fun K hK => ?_); go_simp; (try go_bits); (try go_simp); refine hK _ _ ?_; clear hK K)
      | (refine Draw.wpD_skip rfl rfl (fun K hK => ?_); go_simp; refine hK _ _ ?_; clear hK K))
    refine Draw.wpD_eff rfl rfl (fun K hK => ?_)
    go_simp
    refine (need_no _ _).mono ?_
    rintro e w3 ⟨rfl, rfl⟩
    exact ⟨rfl, .inr ⟨HI.out, rfl, (Below.refl _ _).drew⟩⟩
  · have e1' : s.toList.isEmpty = false := by simpa using e1
    clear e1
    by_cases e2 : s.size ≤ 9
    · have e2' : (s.size : Int) ≤ 9 := by omega
      by_cases hall : s.data.toList.all isDig = true
      · -- a nought ahead of others
        have hcl := cutL_all hall
        have HCL := Lib.hid hcl
        have hlead : (s.toList == [48]) = false ∧ s.data.toList.head? = some 48 := by
          have h := HNO.out
          have a1 : s.data.toList.isEmpty = false := by rw [← ByteArray.toList_eq]; exact e1'
          have a2 : decide (s.data.toList.length ≤ 9) = true := by simp; omega
          simp only [numOk, a1, a2, hall, Bool.not_false, Bool.and_self, Bool.true_and, Bool.or_eq_false_iff] at h
          refine ⟨by rw [ByteArray.toList_eq]; exact h.1, ?_⟩
          have := h.2
          rwa [bne_eq_false_iff_eq] at this
        obtain ⟨e3', hhead⟩ := hlead
        have hpos : 0 < s.size := by
          rcases Nat.eq_zero_or_pos s.size with h | h
          · rw [h] at hsl
            rw [List.length_eq_zero_iff.1 hsl] at hhead
            cases hhead
          · exact h
        have hfirst : ((s[0].toNat : Int) != 48) = false := by
          have hlt : 0 < s.data.toList.length := by omega
          rw [List.head?_eq_getElem?, List.getElem?_eq_getElem hlt] at hhead
          have h48 : s[0] = 48 := Option.some.inj hhead
          rw [h48]; rfl
        clear hall hcl hhead hsl
        go_enter Tryz.func81, Tryz.ntmps81
        go_wp2
        refine Draw.wp_draw [0,1,3,7,15,31,63,127,255,255,1023,255,4095,8191,16383,32767,65535,131071,262143,524287,1048575,2097151,4194303,8388607,16777215] [10,12,24] [[(0, .calm, []), (1, .calm, []), (2, .calm, []), (3, .calm, []), (4, .calm, []), (5, .calm, []), (6, .calm, []), (7, .calm, []), (8, .calm, []), (9, .calm, []), (11, .calm, []), (10, .eff, []), (12, .eff, []), (13, .calm, []), (14, .calm, []), (15, .calm, []), (16, .calm, []), (17, .calm, []), (18, .calm, []), (19, .calm, []), (20, .calm, []), (21, .calm, []), (22, .calm, []), (23, .calm, []), (24, .eff, [])]] (by kernel_rfl) (by kernel_rfl) (by repeat (first | exact Draw.insP_body | refine Draw.insP_then ?_ | refine Draw.insP_block ?_)) ?_
        simp only [List.forall_mem_singleton]
        repeat (first
          | (refine Draw.wpD_calm rfl rfl (fun K hK => ?_); go_simp; (try go_bits); (try go_simp); refine hK _ _ ?_; clear hK K)
          | (refine Draw.wpD_look rfl rfl (fun K hK => ?_); go_simp; (try go_bits); (try go_simp); refine hK _ _ ?_; clear hK K)
          | (refine Draw.wpD_calmg rfl rfl (fun K hK => ?_); go_simp; (try go_bits); (try go_simp); refine hK _ _ ?_; clear hK K)
          | (refine Draw.wpD_lookg rfl rfl (fun K hK => ?_); go_simp; (try go_bits); (try go_simp); refine hK _ _ ?_; clear hK K)
          | (refine Draw.wpD_skip rfl rfl (fun K hK => ?_); go_simp; refine hK _ _ ?_; clear hK K))
        refine Draw.wpD_effg rfl rfl (fun K hK => ?_)
        go_simp
        refine (cutLeft_any _ _ (by omega)).mono ?_
        rintro e w1 ⟨rfl, hb1⟩
        refine hK _ _ ?_
        clear hK K
        rw [HCL.out]
        refine Draw.wpD_effg rfl rfl (fun K hK => ?_)
        go_simp
        refine (cutRight_any _ _ (by decide) (tabs_below hT (below_of_drew hb1) h9) (Nat.le_trans h9 hb1.size)).mono ?_
        rintro e w2 ⟨rfl, hb2⟩
        refine hK _ _ ?_
        clear hK K
        have hr : (⟨(cutR (⟨#[]⟩ : ByteArray).data.toList).toArray⟩ : ByteArray) = ⟨#[]⟩ := rfl
        rw [hr]
        clear hr
        repeat (first
          | (refine Draw.wpD_calm rfl rfl (fun K hK => ?_); go_simp; (try go_bits); (try go_simp); refine hK _ _ ?_; clear hK K)
          | (refine Draw.wpD_look rfl rfl (fun K hK => ?_); go_simp; (try go_bits); (try go_simp); refine hK _ _ ?_; clear hK K)
          | (refine Draw.wpD_calmg rfl rfl (fun K hK => ?_); go_simp; (try go_bits); (try go_simp); refine hK _ _ ?_; clear hK K)
          | (refine Draw.wpD_lookg rfl rfl (fun K hK => ?_); go_simp; (try go_bits); (try go_simp); refine hK _ _ ?_; clear hK K)
          | (refine Draw.wpD_skip rfl rfl (fun K hK => ?_); go_simp; refine hK _ _ ?_; clear hK K))
        refine Draw.wpD_eff rfl rfl (fun K hK => ?_)
        go_simp
        refine (need_no _ _).mono ?_
        rintro e w3 ⟨rfl, rfl⟩
        exact ⟨rfl, .inr ⟨HI.out, rfl, below_then (below_of_drew hb1) hb2⟩⟩
      · have hall' : s.data.toList.all isDig = false := by simpa using hall
        obtain ⟨c, r, hcr, hcd⟩ := cutL_ne hall'
        have hne := cutR_ne (r := r) hcd
        have hlen := cutL_len s.data.toList
        rw [hcr] at hlen
        have hrl : (⟨(c :: r).toArray⟩ : ByteArray).size ≤ 140737488355 := by
          have : (⟨(c :: r).toArray⟩ : ByteArray).size = (c :: r).length := by simp [ByteArray.size]
          omega
        have hem : (cutR (c :: r)).isEmpty = false := by rw [List.isEmpty_eq_false_iff]; exact hne
        have HCR := Lib.hid hcr
        have HRL := Lib.hid hrl
        clear hall hall' hne hlen hsl hcr hcd hrl
        go_enter Tryz.func81, Tryz.ntmps81
        go_wp2
        refine Draw.wp_draw [0,1,3,7,15,31,63,127,255,255,1023,255,4095,8191,16383,32767,65535,131071,262143,524287,1048575,2097151,4194303,8388607,16777215] [10,12,24] [[(0, .calm, []), (1, .calm, []), (2, .calm, []), (3, .calm, []), (4, .calm, []), (5, .calm, []), (6, .calm, []), (7, .calm, []), (8, .calm, []), (9, .calm, []), (11, .calm, []), (10, .eff, []), (12, .eff, []), (13, .calm, []), (14, .calm, []), (15, .calm, []), (16, .calm, []), (17, .calm, []), (18, .calm, []), (19, .calm, []), (20, .calm, []), (21, .calm, []), (22, .calm, []), (23, .calm, []), (24, .eff, [])]] (by kernel_rfl) (by kernel_rfl) (by repeat (first | exact Draw.insP_body | refine Draw.insP_then ?_ | refine Draw.insP_block ?_)) ?_
        simp only [List.forall_mem_singleton]
        repeat (first
          | (refine Draw.wpD_calm rfl rfl (fun K hK => ?_); go_simp; (try go_bits); (try go_simp); refine hK _ _ ?_; clear hK K)
          | (refine Draw.wpD_look rfl rfl (fun K hK => ?_); go_simp; (try go_bits); (try go_simp); refine hK _ _ ?_; clear hK K)
          | (refine Draw.wpD_calmg rfl rfl (fun K hK => ?_); go_simp; (try go_bits); (try go_simp); refine hK _ _ ?_; clear hK K)
          | (refine Draw.wpD_lookg rfl rfl (fun K hK => ?_); go_simp; (try go_bits); (try go_simp); refine hK _ _ ?_; clear hK K)
          | (refine Draw.wpD_skip rfl rfl (fun K hK => ?_); go_simp; refine hK _ _ ?_; clear hK K))
        refine Draw.wpD_effg rfl rfl (fun K hK => ?_)
        go_simp
        refine (cutLeft_any _ _ (by omega)).mono ?_
        rintro e w1 ⟨rfl, hb1⟩
        refine hK _ _ ?_
        clear hK K
        rw [HCR.out]
        refine Draw.wpD_effg rfl rfl (fun K hK => ?_)
        go_simp
        refine (cutRight_any _ _ (HRL.out) (tabs_below hT (below_of_drew hb1) h9) (Nat.le_trans h9 hb1.size)).mono ?_
        rintro e w2 ⟨rfl, hb2⟩
        refine hK _ _ ?_
        clear hK K
        repeat (first
          | (refine Draw.wpD_calm rfl rfl (fun K hK => ?_); go_simp; (try go_bits); (try go_simp); refine hK _ _ ?_; clear hK K)
          | (refine Draw.wpD_look rfl rfl (fun K hK => ?_); go_simp; (try go_bits); (try go_simp); refine hK _ _ ?_; clear hK K)
          | (refine Draw.wpD_calmg rfl rfl (fun K hK => ?_); go_simp; (try go_bits); (try go_simp); refine hK _ _ ?_; clear hK K)
          | (refine Draw.wpD_lookg rfl rfl (fun K hK => ?_); go_simp; (try go_bits); (try go_simp); refine hK _ _ ?_; clear hK K)
          | (refine Draw.wpD_skip rfl rfl (fun K hK => ?_); go_simp; refine hK _ _ ?_; clear hK K))
        refine Draw.wpD_eff rfl rfl (fun K hK => ?_)
        go_simp
        refine (need_no _ _).mono ?_
        rintro e w3 ⟨rfl, rfl⟩
        exact ⟨rfl, .inr ⟨HI.out, rfl, below_then (below_of_drew hb1) hb2⟩⟩
    · have e2' : decide ((s.size : Int) ≤ 9) = false := by simp; omega
      clear hsl1 hsl
      go_enter Tryz.func81, Tryz.ntmps81
      go_wp2
      refine Draw.wp_draw [0,1,3,7,15,31,63,127,255,255,1023,255,4095,8191,16383,32767,65535,131071,262143,524287,1048575,2097151,4194303,8388607,16777215] [10,12,24] [[(0, .calm, []), (1, .calm, []), (2, .calm, []), (3, .calm, []), (4, .calm, []), (5, .calm, []), (6, .calm, []), (7, .calm, []), (8, .calm, []), (9, .calm, []), (11, .calm, []), (10, .eff, []), (12, .eff, []), (13, .calm, []), (14, .calm, []), (15, .calm, []), (16, .calm, []), (17, .calm, []), (18, .calm, []), (19, .calm, []), (20, .calm, []), (21, .calm, []), (22, .calm, []), (23, .calm, []), (24, .eff, [])]] (by kernel_rfl) (by kernel_rfl) (by repeat (first | exact Draw.insP_body | refine Draw.insP_then ?_ | refine Draw.insP_block ?_)) ?_
      simp only [List.forall_mem_singleton]
      repeat (first
        | (refine Draw.wpD_calm rfl rfl (fun K hK => ?_); go_simp; (try go_bits); (try go_simp); refine hK _ _ ?_; clear hK K)
        | (refine Draw.wpD_look rfl rfl (fun K hK => ?_); go_simp; (try go_bits); (try go_simp); refine hK _ _ ?_; clear hK K)
        | (refine Draw.wpD_calmg rfl rfl (fun K hK => ?_); go_simp; (try go_bits); (try go_simp); refine hK _ _ ?_; clear hK K)
        | (refine Draw.wpD_lookg rfl rfl (fun K hK => ?_); go_simp; (try go_bits); (try go_simp); refine hK _ _ ?_; clear hK K)
        | (refine Draw.wpD_skip rfl rfl (fun K hK => ?_); go_simp; refine hK _ _ ?_; clear hK K))
      refine Draw.wpD_eff rfl rfl (fun K hK => ?_)
      go_simp
      refine (need_no _ _).mono ?_
      rintro e w3 ⟨rfl, rfl⟩
      exact ⟨rfl, .inr ⟨HI.out, rfl, (Below.refl _ _).drew⟩⟩

theorem number_any (s : ByteArray) (W : World) (hT : Lib.Utf8Tabs 7 8 W) (h9 : 9 ≤ W.heap.size) : Calls Tryz.prog 81 #[.string s] W (NumPost s.data.toList W) := by
  cases h : numOk s.data.toList with
  | true => exact number_ok s W hT h9 h
  | false => exact number_no s W hT h9 h
end Go.Proofs
