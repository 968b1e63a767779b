/- What every row of this seat lists gives its walk; a world that meets it. -/
import Derived.Test.YtebdaijenenepaaGreatDoorCards
import Derived.Test.YtebdaijenenepaaGreatDoorTie
import Derived.Test.YtebdaijenenepaaGreatDoorWords
import Derived.ProofKit
import Derived.OpenShut
import Derived.ShutString
import Derived.ChangeOld
import Derived.Below
import Derived.Lay
import Derived.PinnedBridge
import Derived.Lib.LaidU8T
import Derived.Deep.DeepHandedRow
import Derived.Deep.DeepWitnessRowRef
import Derived.LaidLaws
set_option maxRecDepth 100000
namespace Go.Proofs.YtebdaijenenepaaGreatDoor
open Go.ChangeShapes Go.WideShapes Go.ChangeAt Go.RowKit Go.Shelf Go.Lib
open Go.ChangeMaps (open_string shut_string)

theorem own : ownKnob Tryz.prog.godebug = none := by kernel_rfl
theorem laidOut : laidOutB Tryz.prog = true := by kernel_rfl
def rho : Ren := ⟨fun x => x, fun x => if x = 119 then 286 else if x = 138 then 451 else if x = 139 then 452 else x, fun x => if x = 3 then 7 else 8⟩
theorem u8types : U8Types Tryz.prog rho := ⟨Tryz.underlying5, Tryz.underlying286, Tryz.underlying451, Tryz.underlying452⟩
theorem u8extra : U8Extra Tryz.prog rho := ⟨by kernel_rfl, by kernel_rfl, by kernel_rfl, by kernel_rfl, by kernel_rfl, by kernel_rfl, by kernel_rfl⟩

/-- What the walks of this seat ask of the world. -/
structure Start (W : World) : Prop where
  tabs : Lib.Utf8Tabs 7 8 W
  nine : 9 ≤ W.heap.size
  len : ∃ m, W.cell? ⟨0, 0, none⟩ = some (.int .i64 m)

theorem lt_of_cell {W : World} {a : Addr} {v : Value} (h : W.cell? a = some v) : a.block < W.heap.size := by
  rcases Nat.lt_or_ge a.block W.heap.size with h' | h'
  · exact h'
  · unfold World.cell? at h
    rw [Array.getElem?_eq_none h'] at h
    exact absurd h (by simp)

theorem start_of {W : World} (hL : laidMetH Tryz.prog Rows.shellWordsRow.laid W) (hs : W.ShapedOpen Tryz.prog) : Start W := by
  rw [MakeChecks.laidMetH_plain _ _ _ (by kernel_rfl)] at hL
  have h8 : VarReads Tryz.prog W "unicode/utf8.first" firstData := Pinned.utf8First_eq ▸ Lib.laidMet.reads hL (.tail _ (.tail _ (.tail _ (.tail _ (.tail _ (.tail _ (.tail _ (.head _))))))))
  have h4 : VarReads Tryz.prog W "unicode/utf8.acceptRanges" acceptData := Lib.laidMet.reads hL (.tail _ (.tail _ (.tail _ (.head _))))
  have hT : Lib.Utf8Tabs 7 8 W := utf8Tabs_of_readsT u8types u8extra h8 h4
  refine ⟨hT, ?_, Go.Proofs.cell_of_shapedOpen_int (zero := #[.int .i64 0]) (t := 3) hs (of_decide_eq_true (by kernel_rfl)) (by kernel_rfl) rfl (by kernel_rfl) (by kernel_rfl) Tryz.underlying3⟩
  exact lt_of_cell (hT.2 0 (by decide)).1


/-- Bytes that came in. -/
theorem bytes_in {W : World} {a : Option Addr} {len cap : Nat} {H : Type} {enc : TypeId × Value → H} {d : DataW H} {p : List MemPlace} {fuel : Nat}
    (hf : DataW.trod enc Tryz.prog W 0 (fun _ => true) true fuel 22 (Value.slice a len cap).cells.toList = some (d, p)) : ∃ l, BytesAt W (.slice a len cap) l ∧ l.length = len := by
  rcases open_ints Tryz.underlying22 Tryz.underlying5 (by kernel_rfl) hf with ⟨hcs, _⟩ | ⟨x, l, c, zs, hcs, _, hl, hm, hz, _, hcell, hwz⟩
  · simp [Value.cells] at hcs
    obtain ⟨rfl, rfl, rfl⟩ := hcs
    exact ⟨[], ⟨none, 0, rfl, Nat.le_refl _, .inl rfl⟩, rfl⟩
  · simp [Value.cells] at hcs
    obtain ⟨rfl, rfl, rfl⟩ := hcs
    have hz' : zs.length = cap := by simpa using hz
    refine ⟨(zs.take len).map fun n => UInt8.ofNat n.toNat, ⟨some x, cap, ?_, ?_, ?_⟩, ?_⟩
    · simp; omega
    · simp; omega
    · by_cases h0 : len = 0
      · left; subst h0; rfl
      · right
        obtain ⟨b, off, spot⟩ := x
        have hc0 := hcell 0 (by omega)
        have hspot : spot = none := by simpa [Addr.add] using World.cell?_spot hc0
        subst hspot
        refine ⟨b, off, rfl, lt_of_cell (a := ⟨b, off, none⟩) (by simpa [Addr.add] using hc0), fun j hj => ?_⟩
        have hj' : j < zs.length := by simp at hj; omega
        have hplain : (⟨b, off, none⟩ : Addr).add j = ⟨b, off + j, none⟩ := by unfold Addr.add; split <;> simp_all
        have hcj := hcell j hj'
        rw [hplain] at hcj
        rw [hcj]
        have hw := hwz zs[j] (List.getElem_mem hj')
        have hb : 0 ≤ zs[j] ∧ zs[j] < 256 := by
          have hw2 : IntKind.u8.min ≤ zs[j] ∧ zs[j] ≤ IntKind.u8.max := by simpa [Lit.wf] using hw
          have e1 : IntKind.u8.min = 0 := by decide
          have e2 : IntKind.u8.max = 255 := by decide
          omega
        simp [List.getD, List.getElem?_eq_getElem hj']
        omega
    · simp; omega
end Go.Proofs.YtebdaijenenepaaGreatDoor
