/- What the library's TrailingZeros64 does: it reads the table. -/
import Derived.Test.YthpgiimaadohcaaDoorProg
import Derived.Tactics
import Derived.Tactics2
import Derived.StillTactics
import Derived.Laws.Pointers
import Derived.RegionTactic
import Derived.Lib.Hide
import Derived.Test.YthpgiimaadohcaaDoorZvTz
import Derived.Test.YthpgiimaadohcaaDoorZvNum
import Derived.Test.YthpgiimaadohcaaDoorZvSound
namespace Go.Proofs.YthpgiimaadohcaaDoor.Zv
open Go

theorem tz_idx (x : Int) : 0 ≤ tzIdx x ∧ tzIdx x < 64 := by
  unfold tzIdx IntKind.wrap
  simp [IntKind.signed, IntKind.bits]
  omega

theorem tz_idx_nat (x : Int) : (tzIdx x).toNat < 64 := by
  have := tz_idx x
  omega

theorem tz_get (i : Nat) (hi : i < 64) : tzCells[i]? = some (.int .u8 (tzTab.getD i 0)) := by
  have e : tzCells[i]? = (tzTab[i]?).map (Value.int .u8) := by simp [tzCells]
  have hl : tzTab.length = 64 := by decide
  rw [e, List.getD_eq_getElem?_getD, List.getElem?_eq_getElem (by omega)]
  rfl
theorem tz_lo (i : Nat) : 0 ≤ tzTab.getD i 0 ∧ tzTab.getD i 0 < 64 := by
  by_cases hi : i < 64
  · have : ∀ i < 64, 0 ≤ tzTab.getD i 0 ∧ tzTab.getD i 0 < 64 := by decide
    exact this i hi
  · have hl : tzTab.length = 64 := by decide
    rw [List.getD_eq_getElem?_getD, List.getElem?_eq_none (by omega)]
    decide

theorem tz_cell (w : World) (ty fz) (hw : w.heap[0]? = some (.cells tzCells ty fz)) (i : Nat) (hi : i < 64) : w.cell? { block := 0, off := i } = some (.int .u8 (tzTab.getD i 0)) := by
  simp only [World.cell?, hw]
  exact tz_get i hi

/-- The word's place, as the walk spells it. -/
theorem tz_idx2 (x : Int) : 0 ≤ IntKind.u64.wrap (bits BinOp.and IntKind.u64 x (IntKind.u64.wrap (-x)) * 285870213051353865) / 288230376151711744 ∧ IntKind.u64.wrap (bits BinOp.and IntKind.u64 x (IntKind.u64.wrap (-x)) * 285870213051353865) / 288230376151711744 < 64 := tz_idx x

theorem tz_walk0 (w : World) :
    Calls Tryd.prog 119 #[.int .u64 0] w fun e w' => e = .returned (.int .i64 64) ∧ w' = w := by
  go_enter Tryd.func119, Tryd.ntmps119
  go_wp2
  go_ret
  exact ⟨rfl, rfl⟩

theorem tz_walk1 (x : Int) (h0 : ¬ x = 0) (t : Int) (w : World) (hT : w.cell? { block := 0, off := (IntKind.u64.wrap (bits BinOp.and IntKind.u64 x (IntKind.u64.wrap (-x)) * 285870213051353865) / 288230376151711744).toNat } = some (.int .u8 t)) :
    Calls Tryd.prog 119 #[.int .u64 x] w fun e w' => e = .returned (.int .i64 (RowKit.wrap64 t)) ∧ w' = w := by
  go_enter Tryd.func119, Tryd.ntmps119
  go_wp2
  · go_ret
    exact ⟨rfl, rfl⟩
  · rename_i hb
    exact absurd (tz_idx2 x) hb

/-- What the function does, as it is told of calls. -/
theorem tz_ext (nro : Nat) : ExtOK Tryd.prog nro 119 tzX := by
  intro f args h v h' hv φ w args' hnr hR ha
  simp only at hv
  split at hv
  · rename_i hf
    subst hf
    refine ⟨⟨_, Tryd.func119, by kernel_rfl, by kernel_rfl⟩, ?_⟩
    unfold tzX at hv
    split at hv
    · rename_i x
      simp only [Option.some.injEq, Prod.mk.injEq] at hv
      obtain ⟨rfl, rfl⟩ := hv
      cases ha with
      | cons h1 h2 =>
        cases h2
        have e := h1.inv_int
        subst e
        obtain ⟨⟨ty, fz, hw⟩, _⟩ := hR.glob 0 tzCells rfl
        have key : Calls Tryd.prog 119 #[.int .u64 x] w fun e w' => e = .returned (.int .i64 (tzv x)) ∧ w' = w := by
          by_cases h0 : x = 0
          · subst h0
            exact tz_walk0 w
          · have hwr : RowKit.wrap64 (tzTab.getD (tzIdx x).toNat 0) = tzTab.getD (tzIdx x).toNat 0 := by
              have := tz_lo (tzIdx x).toNat
              unfold RowKit.wrap64
              omega
            have := tz_walk1 x h0 _ w (tz_cell w ty fz hw (tzIdx x).toNat (tz_idx_nat x))
            rw [hwr] at this
            unfold tzv
            rw [if_neg h0]
            exact this
        refine key.mono fun e w' ⟨he, hw'⟩ => ?_
        subst hw'
        exact ⟨φ, _, he, hR, X.refl .., .val (.cell (.atom (.int _ _)))⟩
    · cases hv
  · cases hv
end Go.Proofs.YthpgiimaadohcaaDoor.Zv
