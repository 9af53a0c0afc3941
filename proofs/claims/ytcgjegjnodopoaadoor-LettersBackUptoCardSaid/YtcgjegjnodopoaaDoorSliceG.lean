/-
  A SLICE OF A SLICE, as a run, at whatever element type (light: no function walked).
-/
import Derived.Test.YtcgjegjnodopoaaDoorMany
import Derived.WalkSpells
namespace Go.Proofs.YtcgjegjnodopoaaDoor
open Go.RowKit

/-- 's[i:j]' as a run, at whatever element type -/
theorem slice_g {P : Program} {t : TypeId} (ht : P.underlying t = some (.slice (P.elem t))) {α : Type} [Dat α] (hsz : ∀ w, (sizeOf (P.elem t)).run P w = .ok (Dat.n α) w) {w0 : World} {O : Nat → Prop} {a : Option Addr} {cap : Nat} {l : List α} (h : Rdv w0 O (.slice a l.length cap) l) (i j : Nat) (hij : i ≤ j) (hj : j ≤ l.length) :
    ∃ b, (∀ (x y : Int) (w : World), x = i → y = j → (Instr.slice t (.slice a l.length cap) (some (.int .i64 x)) (some (.int .i64 y)) none).run P w = .ok (.slice b (j - i) (cap - i)) w) ∧
      (∀ (x : Int) (w : World), x = i → j = l.length → (Instr.slice t (.slice a l.length cap) (some (.int .i64 x)) none none).run P w = .ok (.slice b (j - i) (cap - i)) w) ∧
      (∀ (y : Int) (w : World), i = 0 → y = j → (Instr.slice t (.slice a l.length cap) none (some (.int .i64 y)) none).run P w = .ok (.slice b (j - i) (cap - i)) w) ∧
      Rdv w0 O (.slice b (j - i) (cap - i)) ((l.drop i).take (j - i)) := by
  have hr := rdv_sliced h i j hij hj
  obtain ⟨b, hb⟩ := sliced_isSlice a i j cap (Dat.n α)
  obtain ⟨a', cap', e, h1, h2, h3⟩ := rdv_slice h
  simp only [Value.slice.injEq, true_and] at e
  obtain ⟨rfl, rfl⟩ := e
  refine ⟨b, ?_, ?_, ?_, hb ▸ hr⟩
  · rintro x y w rfl rfl
    rw [run_slice_lh w t a l.length cap ht .i64 .i64 _ _ (by omega) (by omega) (by omega), hsz]
    simp only [Result.andThen_ok, Int.toNat_natCast]
    rw [hb]
  · rintro x w rfl rfl
    rw [run_slice_l w t a l.length cap ht .i64 _ (by omega) (by omega), hsz]
    simp only [Result.andThen_ok, Int.toNat_natCast]
    rw [hb]
  · rintro y w rfl rfl
    rw [run_slice_h w t a l.length cap ht .i64 _ (by omega) (by omega), hsz]
    simp only [Result.andThen_ok, Int.toNat_natCast]
    rw [hb]
end Go.Proofs.YtcgjegjnodopoaaDoor
