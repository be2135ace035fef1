/- What the rows' listed variables give a walk, and the world that lays them. -/
import Derived.Test.YtohjkejdkhdjbaaGreatDoorS07
import Derived.Test.YtohjkejdkhdjbaaGreatDoorRows
import Derived.WalkKit
import Derived.ProofKit
import Derived.Lib.LaidU8
import Derived.MakeChecks
import Derived.Lay
import Derived.LaidOnce
import Derived.LaidLaws
import Derived.SevenTiedAt
namespace Go.Proofs.YtohjkejdkhdjbaaGreatDoor
open Go.ChangeShapes Go.WideShapes Go.ChangeAt Go.RowKit Go

theorem iface_of_reads {n : String} {nm : String} {d : DataW Unit} {w : World} {g : Nat} {t : TypeId} {ms : Array (String × TypeId)} (hg : Tryz.prog.globalNamed n = some g) (ht : (Tryz.prog.globals[g]?).map (·.type) = some t)
    (hi : Tryz.prog.underlying t = some (.interface ms)) (h : Lib.VarReads Tryz.prog w n (.iface nm d)) : ∃ tp p, w.var? Tryz.prog n = some #[.iface tp p] := by
  obtain ⟨g', t', cs, fuel, p, h1, h2, h3, h4⟩ := h
  obtain rfl := Option.some.inj (hg.symm.trans h1)
  obtain rfl := Option.some.inj (ht.symm.trans h2)
  obtain ⟨_, u, v, hcs, _, _⟩ := iface_of_trod hi h4
  refine ⟨u, v, ?_⟩
  rw [h3]
  cases cs
  simp at hcs
  simp [hcs]

theorem tab_of_reads {n : String} {w : World} {g : Nat} {t e : TypeId} {m : Nat} {k : IntKind} {zs : List Int} (hg : Tryz.prog.globalNamed n = some g) (ht : (Tryz.prog.globals[g]?).map (·.type) = some t)
    (hu : Tryz.prog.underlying t = some (.array m e)) (he : Tryz.prog.underlying e = some (.int k)) (hce : Tryz.prog.cellsOf e = 1) (hct : Tryz.prog.cellsOf t = m)
    (h : Lib.VarReads Tryz.prog w n (Lib.tabData k zs)) : Lib.TabIs Tryz.prog w n k zs := by
  obtain ⟨g', t', cs, fuel, p, h1, h2, h3, h4⟩ := h
  obtain rfl := Option.some.inj (hg.symm.trans h1)
  obtain rfl := Option.some.inj (ht.symm.trans h2)
  have := Lib.cells_of_tab hu he hce hct h4
  unfold Lib.TabIs
  rw [h3, ← this]

theorem global_lt {n : String} {w : World} {g : Nat} {cs : Array Value} (hg : Tryz.prog.globalNamed n = some g) (h : w.var? Tryz.prog n = some cs) : g < w.heap.size := by
  unfold World.var? at h
  rw [hg] at h
  simp only [Option.bind_some] at h
  cases e : w.heap[g]? with
  | none => simp [e] at h
  | some o => exact (Array.getElem?_eq_some_iff.1 e).1

/-- What is listed in the rows of the chapter. -/
noncomputable def laidL : List (String × DataW Unit) := Rows.predReadsRow.laid

theorem lv_of_laid {w : World} (h : laidMetH Tryz.prog laidL w) : Lv w.heap.size w := by
  rw [MakeChecks.laidMetH_plain _ _ _ (by kernel_rfl)] at h
  have m3 : ("internal/strconv.uint64pow10", (Rows.laid_internal_strconv_uint64pow10 : DataW Unit)) ∈ laidL := .tail _ (.tail _ (.head _))
  have m5 : ("strconv.ErrRange", (Rows.laid_strconv_ErrRange : DataW Unit)) ∈ laidL := .tail _ (.tail _ (.tail _ (.tail _ (.head _))))
  have m6 : ("strconv.ErrSyntax", (Rows.laid_strconv_ErrSyntax : DataW Unit)) ∈ laidL := .tail _ (.tail _ (.tail _ (.tail _ (.tail _ (.head _)))))
  have e3 : (Rows.laid_internal_strconv_uint64pow10 : DataW Unit) = Lib.tabData .u64 Lib.pow10Tab := by rfl
  rw [e3] at m3
  have hT := tab_of_reads gTab (by kernel_rfl) (t := 179) (e := 23) (m := 20) (by kernel_rfl) (by kernel_rfl) (by kernel_rfl) (by kernel_rfl) (Lib.laidMet.reads h m3)
  have hS := iface_of_reads gSyn (t := 126) (by kernel_rfl) Tryz.underlying126 (Lib.laidMet.reads h m6)
  have hR := iface_of_reads gRng (t := 126) (by kernel_rfl) Tryz.underlying126 (Lib.laidMet.reads h m5)
  obtain ⟨t1, p1, e1⟩ := hS
  obtain ⟨t2, p2, e2⟩ := hR
  exact ⟨hT, ⟨t1, p1, e1⟩, ⟨t2, p2, e2⟩, global_lt gTab hT, global_lt gSyn e1, global_lt gRng e2⟩
noncomputable def laidW (os : Os) : World := World.laidAll Tryz.prog os laidL
theorem laidW_met (os : Os) (args : Array Value) : laidMetH Tryz.prog laidL ((laidW os).forCall (fun _ _ => 0) ⟨#[], args, []⟩).memory := by
  rw [MakeChecks.laidMetH_plain _ _ _ (by kernel_rfl)]
  exact laidMet_laidAll _ (by kernel_rfl) (by kernel_rfl)
theorem laidW_shaped (os : Os) (args : Array Value) : ((laidW os).forCall (fun _ _ => 0) ⟨#[], args, []⟩).Shaped Tryz.prog := World.shaped_of_ZipB (by kernel_rfl) (by kernel_rfl)
end Go.Proofs.YtohjkejdkhdjbaaGreatDoor
