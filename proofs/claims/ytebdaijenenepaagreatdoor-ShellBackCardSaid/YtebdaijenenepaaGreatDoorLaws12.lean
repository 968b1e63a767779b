/- The walks of ShellWords and ShellBack, and the plain laws beneath: bytes of hex are what they were. -/
import Derived.Test.YtebdaijenenepaaGreatDoorAwake
import Derived.Test.YtebdaijenenepaaGreatDoorParse
import Derived.Laws.IdiomStrings
import Derived.Laws.BytesArg
set_option maxRecDepth 100000
namespace Go.Proofs
open Go Go.RowKit

theorem conv_bytes {w : World} {v : Value} {l : List UInt8} (h : BytesAt w v l) : (convert 22 9 v).run Tryz.prog w = .ok (.string ⟨l.toArray⟩) w := by
  obtain ⟨a, cap, rfl, h1, h3⟩ := h
  cases a with
  | none =>
    have hl : l = [] := by
      rcases h3 with h3 | ⟨b, off, h, -⟩
      · exact h3
      · exact absurd h (by simp)
    subst hl
    exact run_convert_bytes_nil (P := Tryz.prog) w 22 5 Tryz.underlying22 Tryz.underlying5 0 cap 9 Tryz.underlying9
  | some a =>
    refine run_convert_bytes_back (P := Tryz.prog) w 22 9 5 a cap l Tryz.underlying22 Tryz.underlying5 Tryz.underlying9 fun j hj => ?_
    rcases h3 with h3 | ⟨b, off, h, hlt, hc⟩
    · subst h3; exact absurd hj (by simp)
    · obtain rfl := Option.some.inj h
      have hplain : (⟨b, off, none⟩ : Addr).add j = ⟨b, off + j, none⟩ := by unfold Addr.add; split <;> simp_all
      rw [hplain]
      exact hc j hj

theorem BytesAt.nil (w : World) : BytesAt w (.slice none 0 0) [] := ⟨none, 0, rfl, Nat.le_refl _, .inl rfl⟩
theorem figV_fig (n : Nat) (h : n < 16) : figV (fig n) = n := by
  have key : ∀ n : Fin 16, figV (fig n.val) = n.val := by decide +kernel
  exact key ⟨n, h⟩
theorem fig_figV (a : UInt8) (h : 0 ≤ figV a) : fig (figV a).toNat = a := by
  have key : ∀ n : Fin 256, 0 ≤ figV (UInt8.ofFin n) → fig (figV (UInt8.ofFin n)).toNat = UInt8.ofFin n := by decide +kernel
  exact key a.toFin h
theorem pairs_hex (l : List UInt8) : pairs (hexOf l) = some l := by
  induction l with
  | nil => rfl
  | cons c l ih =>
    have hc := c.toNat_lt
    have h1 := figV_fig (c.toNat / 16) (by omega)
    have h2 := figV_fig (c.toNat % 16) (by omega)
    have hb : figBad (fig (c.toNat / 16)) (fig (c.toNat % 16)) = false := by simp [figBad, h1, h2]; omega
    have hv : byteOf (fig (c.toNat / 16)) (fig (c.toNat % 16)) = c := by
      unfold byteOf
      rw [h1, h2]
      have : (16 * ((c.toNat / 16 : Nat) : Int) + ((c.toNat % 16 : Nat) : Int)).toNat = c.toNat := by omega
      rw [this]
      simp
    simp [hexOf, pairs, hb, ih, hv]
theorem parse_hex (l : List UInt8) : parseB (hexStr l) = some l := by
  unfold hexStr parseB
  by_cases h : l = []
  · subst h; rfl
  · rw [if_neg h]
    have hl := hexOf_length l
    have h0 : l.length ≠ 0 := fun e => h (List.length_eq_zero_iff.1 e)
    rw [if_neg (fun e => by rw [e] at hl; simp at hl; omega), if_neg (fun e => by rw [e] at hl; simp at hl; omega)]
    exact pairs_hex l
theorem hex_pairs : ∀ (s l : List UInt8), pairs s = some l → hexOf l = s := by
  intro s
  induction s using pairs.induct with
  | case1 => intro l h; simp [pairs] at h; subst h; rfl
  | case2 x => intro l h; simp [pairs] at h
  | case3 a b r hb => intro l h; simp [pairs, hb] at h
  | case4 a b r hb ih =>
    intro l h
    have hb' : figBad a b = false := by simpa using hb
    simp only [pairs, hb', Bool.false_eq_true, if_false] at h
    cases hr : pairs r with
    | none => rw [hr] at h; simp at h
    | some y =>
      rw [hr] at h
      simp at h
      subst h
      have hv := byteOf_val hb'
      have h1 := figV_le a
      have h2 := figV_le b
      have hn : 0 ≤ figV a ∧ 0 ≤ figV b := by simp [figBad] at hb'; omega
      have e1 : (byteOf a b).toNat / 16 = (figV a).toNat := by omega
      have e2 : (byteOf a b).toNat % 16 = (figV b).toNat := by omega
      simp [hexOf, e1, e2, fig_figV a hn.1, fig_figV b hn.2, ih y hr]
theorem hex_parse (s l : List UInt8) (h : parseB s = some l) : hexStr l = s := by
  unfold parseB at h
  split at h
  · rename_i h45
    obtain rfl := Option.some.inj h
    rw [h45]; rfl
  · split at h
    · exact absurd h (by simp)
    · rename_i hne
      have := hex_pairs s l h
      unfold hexStr
      rw [if_neg (fun e => hne (by rw [← this, e]; rfl))]
      exact this

theorem str_self (l : List UInt8) : ((⟨l.toArray⟩ : ByteArray).toList == (⟨l.toArray⟩ : ByteArray).toList) = true := by simp

set_option maxHeartbeats 2000000 in
theorem shellwords_law (v : Value) (l : List UInt8) (s : ByteArray) (W : World) (m : Int) (hv : BytesAt W v l) (hT : Lib.Utf8Tabs 7 8 W) (h9 : 9 ≤ W.heap.size) (hm : W.cell? ⟨0, 0, none⟩ = some (.int .i64 m)) :
    Calls Tryz.prog 3 #[v, .string s] W fun e w' => e = .returned (.bool true) ∧ Below W.heap.size W w' := by
  obtain ⟨a, cap, hva, h1, h3⟩ := id hv
  by_cases h2 : 300 < l.length
  · subst hva
    go_enter Tryz.func3, Tryz.ntmps3
    go_wp2
    all_goals first | (exfalso; omega) | skip
    go_ret
    exact ⟨rfl, Below.refl _ _⟩
  by_cases h4 : 300 < s.size
  · subst hva
    go_enter Tryz.func3, Tryz.ntmps3
    go_wp2
    all_goals first | (exfalso; omega) | skip
    go_ret
    exact ⟨rfl, Below.refl _ _⟩
  subst hva
  have hl : l.length ≤ 140737488355 := by omega
  have hsl : s.size ≤ 140737488355 := by omega
  have h0 : 0 < W.heap.size := by omega
  go_enter Tryz.func3, Tryz.ntmps3
  go_wp2_with (fail)
  refine (bytes_any s W hsl).mono ?_
  rintro e w1 (⟨v1, l1, rfl, hp1, hv1, hb1⟩ | ⟨rfl, hp1, hb1⟩)
  · go_wp2_with (fail)
    refine (refbytes_any s w1 hsl).mono ?_
    rintro e w2 (⟨v2, l2, rfl, hp2, hv2, hb2⟩ | ⟨rfl, hp2, hb2⟩)
    · have hl12 : l1 = l2 := Option.some.inj (hp1.symm.trans hp2)
      subst hl12
      clear hp1 hp2
      have hb12 := below_then hb1 hb2
      have hw2 := hv.below hb12
      go_wp2_with (fail)
      refine (hex_any _ l w2 hw2 hl).mono ?_
      rintro e w3 ⟨rfl, hb3⟩
      go_wp2_with (fail)
      refine (refhex_any _ l w3 (hw2.below hb3) hl).mono ?_
      rintro e w4 ⟨rfl, hb4⟩
      have hb34 := below_then hb3 hb4
      have c1 := conv_bytes ((hv1.below hb2).below hb34)
      have c2 := conv_bytes (hv2.below hb34)
      have q1 := str_self (hexStr l)
      have q2 := str_self l1
      go_wp2_with (fail)
      have hb14 := below_then hb12 hb34
      refine (awake_true w4 m (tabs_below hT hb14 h9) (Nat.le_trans h9 hb14.size) ((hb14.cell (p := ⟨0, 0, none⟩) h0).trans hm)).mono ?_
      rintro e w5 ⟨rfl, hb5⟩
      go_wp2
      go_ret
      exact ⟨rfl, below_then hb14 hb5⟩
    · rw [hp1] at hp2; exact absurd hp2 (by simp)
  · go_wp2_with (fail)
    refine (refbytes_any s w1 hsl).mono ?_
    rintro e w2 (⟨v2, l2, rfl, hp2, hv2, hb2⟩ | ⟨rfl, hp2, hb2⟩)
    · rw [hp1] at hp2; exact absurd hp2 (by simp)
    · clear hp1 hp2
      have hb12 := below_then hb1 hb2
      have hw2 := hv.below hb12
      go_wp2_with (fail)
      refine (hex_any _ l w2 hw2 hl).mono ?_
      rintro e w3 ⟨rfl, hb3⟩
      go_wp2_with (fail)
      refine (refhex_any _ l w3 (hw2.below hb3) hl).mono ?_
      rintro e w4 ⟨rfl, hb4⟩
      have hb34 := below_then hb3 hb4
      have c1 := conv_bytes (BytesAt.nil w4)
      have q1 := str_self (hexStr l)
      have q2 := str_self []
      go_wp2_with (fail)
      have hb14 := below_then hb12 hb34
      refine (awake_true w4 m (tabs_below hT hb14 h9) (Nat.le_trans h9 hb14.size) ((hb14.cell (p := ⟨0, 0, none⟩) h0).trans hm)).mono ?_
      rintro e w5 ⟨rfl, hb5⟩
      go_wp2
      go_ret
      exact ⟨rfl, below_then hb14 hb5⟩

set_option maxHeartbeats 2000000 in
theorem shellback_law (v : Value) (l : List UInt8) (s : ByteArray) (W : World) (m : Int) (hv : BytesAt W v l) (hT : Lib.Utf8Tabs 7 8 W) (h9 : 9 ≤ W.heap.size) (hm : W.cell? ⟨0, 0, none⟩ = some (.int .i64 m)) :
    Calls Tryz.prog 5 #[v, .string s] W fun e w' => e = .returned (.bool true) ∧ Below W.heap.size W w' := by
  obtain ⟨a, cap, hva, h1, h3⟩ := id hv
  by_cases h2 : 300 < l.length
  · subst hva
    go_enter Tryz.func5, Tryz.ntmps5
    go_wp2
    all_goals first | (exfalso; omega) | skip
    go_ret
    exact ⟨rfl, Below.refl _ _⟩
  by_cases h4 : 300 < s.size
  · subst hva
    go_enter Tryz.func5, Tryz.ntmps5
    go_wp2
    all_goals first | (exfalso; omega) | skip
    go_ret
    exact ⟨rfl, Below.refl _ _⟩
  subst hva
  have hl : l.length ≤ 140737488355 := by omega
  have hsl : s.size ≤ 140737488355 := by omega
  have hxl : (⟨(hexStr l).toArray⟩ : ByteArray).size ≤ 140737488355 := by
    show (hexStr l).toArray.size ≤ _
    have := hexOf_length l
    unfold hexStr
    split
    · simp
    · simp [this]; omega
  have h0 : 0 < W.heap.size := by omega
  go_enter Tryz.func5, Tryz.ntmps5
  go_wp2_with (fail)
  refine (hex_any _ l W hv hl).mono ?_
  rintro e w1 ⟨rfl, hb1⟩
  go_wp2_with (fail)
  refine (bytes_any _ w1 hxl).mono ?_
  rintro e w2 (⟨v1, l1, rfl, hp1, hv1, hb2⟩ | ⟨rfl, hp1, hb2⟩)
  rotate_left
  · have := parse_hex l
    rw [show (⟨(hexStr l).toArray⟩ : ByteArray).data.toList = hexStr l from rfl] at hp1
    rw [hp1] at this; exact absurd this (by simp)
  have hl12 : l1 = l := Option.some.inj (hp1.symm.trans (parse_hex l))
  subst hl12
  clear hp1
  have hb12 := below_then hb1 hb2
  have hw2 := hv.below hb12
  have c1 := conv_bytes hv1
  have c2 := conv_bytes hw2
  have q1 := str_self l1
  go_wp2_with (fail)
  refine (bytes_any s w2 hsl).mono ?_
  rintro e w3 (⟨v2, l2, rfl, hp2, hv2, hb3⟩ | ⟨rfl, hp2, hb3⟩)
  · have hq := hex_parse _ _ hp2
    have hb13 := below_then hb12 hb3
    have hl2 : l2.length ≤ 140737488355 := by
      have h5 := hexOf_length l2
      have h6 : s.data.toList.length = s.size := by simp
      unfold hexStr at hq
      split at hq
      · rename_i h; rw [h]; simp
      · rw [← hq, h5] at h6; omega
    have HQ := Lib.hid hq
    clear hq hp2 c1 c2 q1
    go_wp2_with (fail)
    refine (hex_any _ l2 w3 hv2 hl2).mono ?_
    rintro e w4 ⟨rfl, hb4⟩
    have hb14 := below_then hb13 hb4
    have hs : (⟨(hexStr l2).toArray⟩ : ByteArray) = s := by rw [HQ.out]
    rw [hs]
    go_wp2_with (fail)
    refine (awake_true w4 m (tabs_below hT hb14 h9) (Nat.le_trans h9 hb14.size) ((hb14.cell (p := ⟨0, 0, none⟩) h0).trans hm)).mono ?_
    rintro e w5 ⟨rfl, hb5⟩
    go_wp2
    go_ret
    exact ⟨rfl, below_then hb14 hb5⟩
  · have hb13 := below_then hb12 hb3
    clear hp2 c1 c2 q1
    go_wp2_with (fail)
    refine (awake_true w3 m (tabs_below hT hb13 h9) (Nat.le_trans h9 hb13.size) ((hb13.cell (p := ⟨0, 0, none⟩) h0).trans hm)).mono ?_
    rintro e w5 ⟨rfl, hb5⟩
    go_wp2
    go_ret
    exact ⟨rfl, below_then hb13 hb5⟩
end Go.Proofs
