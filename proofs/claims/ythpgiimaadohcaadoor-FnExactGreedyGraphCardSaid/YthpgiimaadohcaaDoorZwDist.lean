/- The program's distances from a vertex. -/
import Derived.Test.YthpgiimaadohcaaDoorZwBfs
import Derived.Test.YthpgiimaadohcaaDoorZwEdge
namespace Go.Proofs.YthpgiimaadohcaaDoor.Zv
open Go
variable {nro : Nat}

/-! ### a slice of one number, repeated -/
theorem c_math_bits_Mul (n : Nat) (hn : n ≤ 1000) (h : VH) : vcall F nro k_math_bits_Mul [.int .u64 1, .int .u64 n] h = some (.tuple #[.int .u64 0, .int .u64 n], h) := by
  have a1 : iand .u64 1 4294967295 = 1 := by have := and_u64 (a := 1) (b := 4294967295) (by omega) (by omega); simpa using this
  have a2 : ishr .u64 1 32 = 0 := by have := shr_u64 (a := 1) (b := 32) (by omega); simpa using this
  have a3 : iand .u64 (n : Int) 4294967295 = n := by
    have := and_u64 (a := n) (b := 4294967295) (by omega) (by omega)
    rw [show (4294967295 : Nat) = 2 ^ 32 - 1 from rfl, Nat.and_two_pow_sub_one_eq_mod, Nat.mod_eq_of_lt (by omega)] at this
    exact this
  have a4 : ishr .u64 (n : Int) 32 = 0 := by
    have := shr_u64 (a := n) (b := 32) (by omega)
    rw [Nat.div_eq_of_lt (by omega)] at this
    exact this
  have a5 : iand .u64 0 4294967295 = 0 := by have := and_u64 (a := 0) (b := 4294967295) (by omega) (by omega); simpa using this
  have a6 : ishr .u64 0 32 = 0 := by have := shr_u64 (a := 0) (b := 32) (by omega); simpa using this
  have w0 : IntKind.u64.wrap 0 = 0 := wrapu64 (by omega) (by omega)
  have wn : IntKind.u64.wrap (n : Int) = n := wrapu64 (by omega) (by omega)
  have hc : vcall F nro k_math_bits_Mul64 [.int .u64 1, .int .u64 n] h = some (.tuple #[.int .u64 0, .int .u64 n], h) := by
    refine v_math_bits_Mul64 (by simp [i_math_bits_Mul64]) ?_
    rw [fbody_eq]
    simp (disch := first | assumption | omega | (simp [*] <;> omega) | fail) [i_math_bits_Mul64, a1, a2, a3, a4, a5, a6, w0, wn, fresults, fresL, fres1]
  refine v_math_bits_Mul (by simp [i_math_bits_Mul]) ?_
  rw [fbody_eq]
  simp (disch := first | assumption | omega | (simp [*] <;> omega) | fail) [i_math_bits_Mul, hc, fresults, fresL, fres1]

theorem vcopy_ints {h : VH} {b : Nat} {xs ys : List Int} {y : Value} (hb : h[b]? = some ⟨1, ints xs⟩) (hy : vsrc 1 h y = some (ints ys, ys.length)) {o1 n1 : Nat} (h1 : o1 + n1 ≤ xs.length) (hn : nro ≤ b) (hk : 0 < min ys.length n1) :
    vcopy nro 1 h (.slice (some ⟨b, o1, none⟩) n1 xs.length) y = some (.int .i64 ((min ys.length n1 : Nat) : Int), h.set b ⟨1, ints (xs.take o1 ++ ys.take (min ys.length n1) ++ xs.drop (o1 + min ys.length n1))⟩) := by
  have hl : (ints xs).length = xs.length := by simp
  unfold vcopy
  simp only [hy, hb, hl]
  rw [if_pos (by simp), if_neg (by omega)]
  have hj : (ints ys).all (fun v => !isJunk v) = true := by
    simp only [List.all_eq_true]
    intro v hv
    rw [ints_nj _ v hv]
    rfl
  rw [if_pos ⟨hn, by omega, by omega, hj⟩]
  have e3 : List.take (min ys.length n1 * 1) (ints ys) = ints (ys.take (min ys.length n1)) := by
    simp only [ints, Nat.mul_one, ← List.map_take]
  have e4 : splice o1 (ints (ys.take (min ys.length n1))) (ints xs) = ints (xs.take o1 ++ ys.take (min ys.length n1) ++ xs.drop (o1 + min ys.length n1)) := by
    unfold splice
    have : (ints (ys.take (min ys.length n1))).length = min ys.length n1 := by simp
    rw [this]
    simp [ints]
  rw [e3, e4]

/-- Half done. -/
def rep (n m : Nat) : List Int := List.replicate m (-1) ++ List.replicate (n - m) 0
theorem rep_len {n m : Nat} (h : m ≤ n) : (rep n m).length = n := by simp [rep]; omega

theorem l_slices_Repeat (h : VH) (hn : nro ≤ h.length) (n : Nat) (hn2 : n ≤ 1000) (m0 m : Nat) (hm1 : 1 ≤ m) (hm0 : m0 ≤ n) (hm : m ≤ n) :
    floop (vcall F nro) nro [7, 8] i_slices_Repeat_int64_int64_B1 (h ++ [⟨1, ints (rep n m0)⟩]) [.slice (some ⟨h.length, 0, none⟩) n n, .int .i64 m] (h ++ [⟨1, ints (rep n m)⟩]) =
      some (.exit 0, fl [(7, .slice (some ⟨h.length, 0, none⟩) n n)], h ++ [⟨1, ints (List.replicate n (-1))⟩]) := by
  have hn' := fun k => Nat.le_trans hn (Nat.le_add_right h.length k)
  have hrl := rep_len hm
  rw [floop_at i_slices_Repeat_int64_int64_B1.eq_1]
  by_cases hlt : m < n
  · have hy : vsrc 1 (h ++ [⟨1, ints (rep n m)⟩]) (.slice (some ⟨h.length, 0, none⟩) m n) = some (ints (List.replicate m (-1)), (List.replicate m (-1 : Int)).length) := by
      rw [vsrc_ref]
      have e : List.take m (ints (rep n m)) = ints (List.replicate m (-1)) := by
        unfold rep ints
        rw [List.map_append]
        exact List.take_left' (by simp)
      simp [hrl, hm, e]
    have hc := vcopy_ints (nro := nro) (h := h ++ [⟨1, ints (rep n m)⟩]) (b := h.length) (xs := rep n m) (by simp) hy (o1 := m) (n1 := n - m) (by omega) hn (by simp; omega)
    rw [List.length_replicate] at hc
    have e : (rep n m).take m ++ (List.replicate m (-1 : Int)).take (min m (n - m)) ++ (rep n m).drop (m + min m (n - m)) = rep n (m + min m (n - m)) := by
      unfold rep
      obtain ⟨k, hk⟩ : ∃ k, k = min m (n - m) := ⟨_, rfl⟩
      rw [← hk]
      have h1 : k ≤ m := by omega
      have h2 : k ≤ n - m := by omega
      have e1 : List.take m (List.replicate m (-1 : Int) ++ List.replicate (n - m) 0) = List.replicate m (-1) := List.take_left' (by simp)
      have e2 : List.take k (List.replicate m (-1 : Int)) = List.replicate k (-1) := by
        rw [List.take_replicate]
        congr 1
        omega
      have e3 : List.drop (m + k) (List.replicate m (-1 : Int) ++ List.replicate (n - m) 0) = List.replicate (n - (m + k)) 0 := by
        rw [List.drop_append, List.drop_eq_nil_of_le (by simp), List.nil_append, List.drop_replicate]
        congr 1
        simp
        omega
      rw [e1, e2, e3, List.replicate_append_replicate]
    rw [e, hrl] at hc
    simp at hc
    have ih := l_slices_Repeat h hn n hn2 m0 (m + min m (n - m)) (by omega) hm0 (by omega)
    have hlt' : (m : Int) < n := by omega
    have hmn : (m : Int) ≤ n := by omega
    obtain ⟨k, hk⟩ : ∃ k, k = min m (n - m) := ⟨_, rfl⟩
    rw [← hk] at hc ih
    have wk : IntKind.i64.wrap ((m : Int) + k) = (m : Int) + k := wrap64 (by omega) (by omega)
    simp only [Int.natCast_add] at ih
    have hrl2 := rep_len (n := n) (m := m + k) (by omega)
    simp (disch := first | assumption | omega | (simp [*] <;> omega) | fail) [hlt', hmn, hrl, hc, wk, ih, hn, hn', hrl2, vslice]
  · have hlt' : ¬ (m : Int) < n := by omega
    have e : m = n := by omega
    subst e
    have e2 : rep m m = List.replicate m (-1) := by simp [rep]
    rw [e2] at hrl ⊢
    simp (disch := first | assumption | omega | (simp [*] <;> omega) | fail) [hlt', hrl]
 termination_by n - m

theorem c_slices_Repeat (s : Value) (n : Nat) (h : VH) (hs : Sli h s [-1]) (h1 : 1 ≤ n) (h2 : n ≤ 1000) (hn : nro ≤ h.length) :
    vcall F nro k_slices_Repeat_int64_int64 [s, .int .i64 n] h = some (.slice (some ⟨h.length, 0, none⟩) n n, h ++ [⟨1, ints (List.replicate n (-1))⟩]) := by
  refine v_slices_Repeat_int64_int64 (by simp [i_slices_Repeat_int64_int64]) ?_
  rw [fbody_eq]
  have hc := c_math_bits_Mul (nro := nro) n h2 h
  have lp := l_slices_Repeat (nro := nro) h hn n h2 1 1 (by omega) h1 h1
  have hv : vsrc 1 (h ++ [⟨1, ints (List.replicate n 0)⟩]) s = some (ints [-1], (ints [-1]).length) := hs.app _
  have hcp : vcopy nro 1 (h ++ [⟨1, ints (List.replicate n 0)⟩]) (.slice (some ⟨h.length, 0, none⟩) n n) s = some (.int .i64 1, h ++ [⟨1, ints (rep n 1)⟩]) := by
    have := vcopy_ints (nro := nro) (h := h ++ [⟨1, ints (List.replicate n 0)⟩]) (b := h.length) (xs := List.replicate n 0) (by simp) (by rw [hv, ints_length]) (o1 := 0) (n1 := n) (by simp) hn (by simp; omega)
    have e1 : min 1 n = 1 := by omega
    simp [e1] at this
    rw [this]
    simp [rep]
  have w1 : IntKind.u64.wrap (n : Int) = n := wrapu64 (by omega) (by omega)
  have w2 : IntKind.i64.wrap (n : Int) = n := wrap64 (by omega) (by omega)
  have w3 : IntKind.u64.wrap 1 = 1 := wrapu64 (by omega) (by omega)
  have b0 : ¬ (n : Int) < 0 := by omega
  have b1 : ¬ (9223372036854775807 : Int) < n := by omega
  have b2 : 8 * (n : Int) ≤ 140737488355328 := by omega
  have b3 : (n : Int) ≤ 140737488355328 := by omega
  simp only [Int.natCast_one] at lp
  simp (disch := first | assumption | omega | (simp [*] <;> omega) | fail) [i_slices_Repeat_int64_int64, hs.vlen, hc, w1, w2, w3, b0, b1, b2, b3, hcp, lp, hn]
end Go.Proofs.YthpgiimaadohcaaDoor.Zv
