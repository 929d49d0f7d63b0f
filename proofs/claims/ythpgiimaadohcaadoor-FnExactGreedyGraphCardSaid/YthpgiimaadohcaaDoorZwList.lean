/- The program's list of a set's numbers. -/
import Derived.Test.YthpgiimaadohcaaDoorZwTzl
import Derived.Test.YthpgiimaadohcaaDoorZwLaws
namespace Go.Proofs.YthpgiimaadohcaaDoor.Zv
open Go
variable {nro : Nat}

theorem c_tz {x i : Nat} (hl : LowAt x i) (hx : x < 2 ^ 62) (h : VH) : vcall F nro k_math_bits_TrailingZeros64 [.int .u64 x] h = some (.int .i64 i, h) := by
  rw [vcall, vstep]
  have hF : F k_math_bits_TrailingZeros64 = some (.ext tzX) := by kernel_rfl
  simp only [hF]
  unfold tzX
  simp only
  rw [tz_low hl (by omega)]

theorem ints_snoc' (ys : List Int) (w : Int) : ints ys ++ [Value.int .i64 w] = ints (ys ++ [w]) := by simp [ints]

theorem l_impl_list (h : VH) (hn : nro ≤ h.length) (y0 : List Int) (x : Nat) (hx : x < 2 ^ 62) (ys : List Int) (hy : ys.length + (bitL x).length ≤ 1000) :
    floop (vcall F nro) nro [0, 3] i_impl_list_B1 (h ++ [⟨1, ints y0⟩]) [.int .i64 x, .slice (some ⟨h.length, 0, none⟩) ys.length ys.length] (h ++ [⟨1, ints ys⟩]) =
      some (.exit 0, fl [(3, .slice (some ⟨h.length, 0, none⟩) (ys ++ bitL x).length (ys ++ bitL x).length)], h ++ [⟨1, ints (ys ++ bitL x)⟩]) := by
  have hn' := fun k => Nat.le_trans hn (Nat.le_add_right h.length k)
  rw [floop_at i_impl_list_B1.eq_1]
  by_cases h0 : x = 0
  · subst h0
    rw [bitL_zero]
    simp (disch := first | assumption | omega | (simp [*] <;> omega) | fail) [hn, hn']
  · obtain ⟨i, q, hq⟩ := low_form x h0
    have hl : LowAt x i := ⟨q, hq⟩
    have hi := hl.lt hx
    clear hq
    have hc := fun L => c_tz (nro := nro) hl hx (h ++ L)
    have hlt := and_pred_lt h0
    have e := bitL_low hl hx
    rw [e] at hy ⊢
    simp at hy
    have ih := l_impl_list h hn y0 (x &&& (x - 1)) (by omega) (ys ++ [(i : Int)]) (by simp; omega)
    have h0' : ¬ (x : Int) = 0 := by omega
    have w1 : IntKind.u64.wrap (x : Int) = x := wrapu64 (by omega) (by omega)
    have w2 : IntKind.i64.wrap ((x : Int) - 1) = ((x - 1 : Nat) : Int) := by rw [wrap64 (by omega) (by omega)]; omega
    have w3 := iand_nat (a := x) (b := x - 1) (by omega) (by omega)
    have b1 : (ys.length + 1) * 8 ≤ 1099511627776 := by omega
    have b2 : ys.length < 1099511627776 := by omega
    obtain ⟨p, hp⟩ : ∃ p, p = x - 1 := ⟨_, rfl⟩
    obtain ⟨z, hz⟩ : ∃ z, z = x &&& p := ⟨_, rfl⟩
    rw [← hp] at w2 w3 ih ⊢
    rw [← hz] at w3 ih ⊢
    simp at ih
    clear hl hlt e hp hz
    simp (disch := first | assumption | omega | (simp [*] <;> omega) | fail) [hc, h0, h0', w1, w2, w3, hn, hn', ih, b1, b2, ints_snoc']
 termination_by x
 decreasing_by exact and_pred_lt h0

theorem c_impl_list (x : Nat) (hx : x < 2 ^ 62) (h : VH) (hn : nro ≤ h.length) :
    vcall F nro k_impl_list [.int .i64 x] h = some (.slice (some ⟨h.length, 0, none⟩) (bitL x).length (bitL x).length, h ++ [⟨1, ints (bitL x)⟩]) := by
  refine v_impl_list (by simp [i_impl_list]) ?_
  rw [fbody_eq]
  have hb := bitL_len x
  have hl := l_impl_list (nro := nro) h hn [] x hx [] (by simp; omega)
  simp at hl
  simp (disch := first | assumption | omega | (simp [*] <;> omega) | fail) [i_impl_list, hl, hn]
end Go.Proofs.YthpgiimaadohcaaDoor.Zv
