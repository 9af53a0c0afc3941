/-
  HOW ARGUMENTS READ: files, changes, and a struct that is an argument by itself.
-/
import Derived.Test.YtpoammapjmddfaaDoorOpen
import Derived.ChangeSame
namespace Go.Proofs.YtpoammapjmddfaaDoor
open Go.ChangeShapes Go.WideShapes Go.ChangeAt Go.RowKit

theorem opens_file {P : Program} {t : TypeId} {f0 f1 : Field} (ht : P.underlying t = some (.struct #[f0, f1])) (hc : P.cellsOf t = 2) (o0 : f0.offset = 0) (o1 : f1.offset = 1) (k0 : P.cellsOf f0.type = 1) (k1 : P.cellsOf f1.type = 1)
    (h0 : P.underlying f0.type = some .string) (h1 : Opens P f1.type (List ByteArray)) : Opens P t File := by
  intro H enc w base spare held fuel cs d ps h
  obtain ⟨y0, y1, n, hx, hl, e0, e1⟩ := trod_struct2 ht h
  rw [hc] at hl
  match cs, hl with
  | [c0, c1], _ =>
    rw [o0, k0] at e0
    rw [o1, k1] at e1
    obtain ⟨s, s1, s2, s3⟩ := DataW.trod_string h0 e0
    simp at s1 e1
    subst s1 s2
    obtain ⟨l, hl1, hl2⟩ := h1 H enc w base spare held n [c1] y1.1 y1.2 e1
    simp only [Prod.mk.injEq] at hx
    obtain ⟨rfl, rfl⟩ := hx
    refine ⟨⟨s, l⟩, ⟨c1, rfl, s3, hl1⟩, ?_⟩
    show s.size + Dat.bulk l + 2 ≤ Rows.uptoBulk (.agg [.lit (.string s.data.toList), y1.1])
    simp only [Rows.uptoBulk, Rows.uptoBulkAll]
    rw [Array.length_toList]
    show s.size + Dat.bulk l + 2 ≤ s.size + 1 + (Rows.uptoBulk y1.1 + 0) + 1
    omega
theorem opens_change {P : Program} {t : TypeId} {f0 f1 f2 : Field} (ht : P.underlying t = some (.struct #[f0, f1, f2])) (hc : P.cellsOf t = 3) (o0 : f0.offset = 0) (o1 : f1.offset = 1) (o2 : f2.offset = 2) (k0 : P.cellsOf f0.type = 1) (k1 : P.cellsOf f1.type = 1) (k2 : P.cellsOf f2.type = 1)
    (h0 : P.underlying f0.type = some (.int .i64)) (h1 : P.underlying f1.type = some .string) (h2 : Opens P f2.type (List Hunk)) : Opens P t Change := by
  intro H enc w base spare held fuel cs d ps h
  obtain ⟨y0, y1, y2, n, hx, hl, e0, e1, e2⟩ := Deep.trod_struct3 ht h
  rw [hc] at hl
  match cs, hl with
  | [c0, c1, c2], _ =>
    rw [o0, k0] at e0
    rw [o1, k1] at e1
    rw [o2, k2] at e2
    obtain ⟨m, m1, m2, m3⟩ := DataW.trod_int h0 e0
    obtain ⟨s, s1, s2, s3⟩ := DataW.trod_string h1 e1
    simp at m1 s1 e2
    subst m1 s1 m2 s2
    obtain ⟨l, hl1, hl2⟩ := h2 H enc w base spare held n [c2] y2.1 y2.2 e2
    simp only [Prod.mk.injEq] at hx
    obtain ⟨rfl, rfl⟩ := hx
    refine ⟨⟨m, s, l⟩, ⟨c2, rfl, s3, hl1⟩, ?_⟩
    show s.size + Dat.bulk l + 3 ≤ Rows.uptoBulk (.agg [.lit (.int .i64 m), .lit (.string s.data.toList), y2.1])
    simp only [Rows.uptoBulk, Rows.uptoBulkAll]
    rw [Array.length_toList]
    show s.size + Dat.bulk l + 3 ≤ 1 + (s.size + 1 + (Rows.uptoBulk y2.1 + 0)) + 1
    omega

theorem opens_afile : Opens Tryd.prog 50 File := opens_file Tryd.underlying50 (by kernel_rfl) rfl rfl (by kernel_rfl) (by kernel_rfl) Tryd.underlying9 opens_strs
theorem opens_files : Opens Tryd.prog 48 (List File) := opens_slice Tryd.underlying48 (by kernel_rfl) opens_afile
theorem opens_achange : Opens Tryd.prog 74 Change := opens_change Tryd.underlying74 (by kernel_rfl) rfl rfl rfl (by kernel_rfl) (by kernel_rfl) (by kernel_rfl) Tryd.underlying3 Tryd.underlying9 opens_hunks
theorem opens_changes : Opens Tryd.prog 65 (List Change) := opens_slice Tryd.underlying65 (by kernel_rfl) opens_achange
theorem opens_ahunk : Opens Tryd.prog 42 Hunk := opens_hunk Tryd.underlying42 (by kernel_rfl) rfl rfl rfl (by kernel_rfl) (by kernel_rfl) (by kernel_rfl) Tryd.underlying3 Tryd.underlying3 opens_marks

/-- a struct that is an argument by itself -/
theorem open_agg {P : Program} {t : TypeId} {fs : Array Field} {α : Type} [Dat α] (ht : P.underlying t = some (.struct fs)) (ho : Opens P t α) {H : Type} {enc : TypeId × Value → H} {w w' : World} {r} {base base' : Nat} {spare : Nat → Bool} {held : Bool} {v : Value} {d : DataW H} {ps : List MemPlace}
    (hv : Value.okWide P w' r base' t v) (h : DataW.Trod enc P w base spare held t v d ps) : ∃ (x : α) (cs : List Value), v = .agg cs.toArray ∧ Dat.rd w Never cs x ∧ Dat.bulk x ≤ Rows.uptoBulk d := by
  obtain ⟨cs, rfl, _⟩ := okWide_struct ht hv
  obtain ⟨u, k⟩ := h
  obtain ⟨x, hx, hb⟩ := ho H enc w base spare held u _ d ps k
  exact ⟨x, cs.toList, by simp, by simpa [Value.cells] using hx, hb⟩
end Go.Proofs.YtpoammapjmddfaaDoor
