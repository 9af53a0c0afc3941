/-
  THE WALK OF LAYER 2: Far.
-/
import Derived.Test.YtlflhehlbnbhgaaDoorEditA
namespace Go.Proofs.YtlflhehlbnbhgaaDoor
open Go.RowKit

/-- what Far answers -/
def farV (l m : List ByteArray) : Value := .tuple #[.int .i64 (if checkedFault l m = 0 then (far l m : Int) else 0), errV (checkedFault l m)]
theorem far_any (l m : List ByteArray) (v u : Value) (w : World) (h : Rdv w Never v l) (g : Rdv w Never u m) :
    Calls Tryd.prog 20 #[v, u] w fun e w' => e = .returned (farV l m) ∧ Chg Never w w' := by
  by_cases hz : checkedFault l m = 0
  · have hlm := checkedFault_zero.1 hz
    go_enter Tryd.func20, Tryd.ntmps20
    go_wp2_with fail
    refine (checked_any l m _ _ _ h g).mono ?_
    rintro e w' ⟨rfl, rfl⟩
    rw [hz, errV_zero]
    have HZ := Lib.hid hz
    clear hz
    go_wp2_with fail
    refine (measure_any l m _ _ _ h g (linesFault_len hlm.1) (linesFault_len hlm.2)).mono ?_
    rintro e w1 ⟨rfl, hc, hF⟩
    have c0 : w1.cell? ⟨w.heap.size, 0, none⟩ = some (.int .i64 (far l m)) := by simpa using hF.cell (i := 0) (k := 0) (Nat.zero_le _) (Nat.zero_le _) (by omega)
    go_wp2_with fail
    go_ret2
    exact ⟨by rw [farV, if_pos HZ.out, HZ.out]; rfl, hc⟩
  · go_enter Tryd.func20, Tryd.ntmps20
    go_wp2_with fail
    refine (checked_any l m _ _ _ h g).mono ?_
    rintro e w' ⟨rfl, rfl⟩
    rw [errV_pos hz]
    go_wp2_with fail
    go_ret2
    exact ⟨by rw [farV, if_neg hz, errV_pos hz]; rfl, Chg.refl _ _⟩
end Go.Proofs.YtlflhehlbnbhgaaDoor
