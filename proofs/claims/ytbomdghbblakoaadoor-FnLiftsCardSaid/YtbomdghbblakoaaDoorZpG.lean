/- Part G of the proof: ZwWg1, ZwWg2, ZwGp1, ZwRef5, ZwSeqs, ZwSort, ZwPdq1, ZwPdq2, ZwGp3, ZwGp5, ZwGp7, ZwGp9, ZwWg3, ZwWg4, ZwNbw, ZwLawCover, ZwNbw3, ZwSearch, ZwFound, ZwFirst, ZwDraw4, ZwDraw5, ZwGraphOf, ZwNbw2, ZwNamed, ZwDraw8. Conditions: none. -/
import Derived.Sort.AssemblyPlain
import Derived.Sort.Defs
import Derived.Sort.LotA
import Derived.Sort.LotC
import Derived.Sort.LotD3
import Derived.Sort.Statements
import Derived.Test.YtbomdghbblakoaaDoorZpD
import Derived.Test.YtbomdghbblakoaaDoorZpE
import Derived.Test.YtbomdghbblakoaaDoorZpF
set_option linter.unusedSimpArgs false
set_option linter.unusedVariables false
set_option linter.unusedSectionVars false
namespace Go.Proofs.YtbomdghbblakoaaDoor.Zv
/- Sums that turn: a set of numbers below m, moved by v. -/
section
open Go
variable {nro : Nat}
theorem ofInt_wrap (z : Int) : BitVec.ofInt 64 (IntKind.i64.wrap z) = BitVec.ofInt 64 z := by
 apply BitVec.eq_of_toNat_eq
 rw [BitVec.toNat_ofInt, BitVec.toNat_ofInt, IntKind.wrap_i64]
 have : (((2 ^ 64 : Nat) : Int)) = 18446744073709551616 := by decide
 rw [this]
 congr 1
 omega
def rotN (m v x : Nat) : Nat := ((x * 2 ^ v % 2 ^ 64) ||| (x >>> (m - v))) % 2 ^ m
theorem rot_eq {m v x : Nat} (hm : m ≤ 62) (hv : v < m) (hx : x < 2 ^ m) :
  iand .i64 (ior .i64 (ishl .i64 (x : Int) (v : Int)) (ishr .i64 (x : Int) ((m : Int) - v))) ((2 ^ m - 1 : Nat) : Int) = (rotN m v x : Int) := by
 have hp : 2 ^ m ≤ 2 ^ 62 := Nat.pow_le_pow_right (by omega) hm
 have h64 : IntKind.i64.bits = 64 := rfl
 rw [ishr_nat (by omega), show ((m : Int) - v).toNat = m - v by omega, iand_eq, ior_eq, ishl_eq, h64, ofInt_wrap, ofInt_wrap]
 have e1 : (x : Int) * 2 ^ (min ((v : Int).toNat) 64) = ((x * 2 ^ v : Nat) : Int) := by
  rw [Int.toNat_natCast, Nat.min_eq_left (by omega)]
  simp
 rw [e1, BitVec.toNat_and]
 have e2 : BitVec.ofInt 64 (((BitVec.ofInt 64 ((x * 2 ^ v : Nat) : Int) ||| BitVec.ofInt 64 ((x >>> (m - v) : Nat) : Int)).toNat : Nat) : Int) = BitVec.ofInt 64 ((x * 2 ^ v : Nat) : Int) ||| BitVec.ofInt 64 ((x >>> (m - v) : Nat) : Int) := by
  rw [BitVec.ofInt_natCast, BitVec.ofNat_toNat]
  simp
 rw [e2, BitVec.toNat_or, BitVec.ofInt_natCast, BitVec.ofInt_natCast, BitVec.ofInt_natCast, BitVec.toNat_ofNat, BitVec.toNat_ofNat, BitVec.toNat_ofNat]
 have h1 : x >>> (m - v) ≤ x := by rw [Nat.shiftRight_eq_div_pow]; exact Nat.div_le_self _ _
 have h62 : (2 : Nat) ^ 62 < 2 ^ 64 := by decide
 rw [Nat.mod_eq_of_lt (show x >>> (m - v) < 2 ^ 64 by omega), Nat.mod_eq_of_lt (show 2 ^ m - 1 < 2 ^ 64 by omega), Nat.and_two_pow_sub_one_eq_mod]
 unfold rotN
 have h2 : ((x * 2 ^ v % 2 ^ 64) ||| (x >>> (m - v))) % 2 ^ m < 2 ^ m := Nat.mod_lt _ (Nat.two_pow_pos m)
 have h3 : (2 : Nat) ^ 62 = 4611686018427387904 := by decide
 exact wrap64 (by omega) (by omega)
theorem rot_lt (m v x : Nat) : rotN m v x < 2 ^ m := Nat.mod_lt _ (Nat.two_pow_pos m)
theorem rot_bit {m v x : Nat} (hm : m ≤ 62) (hv : v < m) (hx : x < 2 ^ m) (j : Nat) : (rotN m v x).testBit j = true ↔ ∃ i, x.testBit i = true ∧ j = (i + v) % m := by
 have hxm : ∀ i, x.testBit i = true → i < m := fun i hi => by
  rcases Nat.lt_or_ge i m with h | h
  ·exact h
  ·rw [Nat.testBit_lt_two_pow (Nat.lt_of_lt_of_le hx (Nat.pow_le_pow_right (by omega) h))] at hi
   cases hi
 unfold rotN
 rw [Nat.testBit_mod_two_pow, Bool.and_eq_true, decide_eq_true_iff, Nat.testBit_or, Bool.or_eq_true, Nat.testBit_mod_two_pow, Bool.and_eq_true, decide_eq_true_iff, Nat.testBit_shiftRight, Nat.testBit_mul_two_pow, Bool.and_eq_true, decide_eq_true_iff]
 constructor
 ·rintro ⟨h1, h2 | h2⟩
  ·refine ⟨j - v, h2.2.2, ?_⟩
   rw [show j - v + v = j by omega, Nat.mod_eq_of_lt h1]
  ·have := hxm _ h2
   refine ⟨m - v + j, h2, ?_⟩
   rw [show m - v + j + v = j + m by omega, Nat.add_mod_right, Nat.mod_eq_of_lt h1]
 ·rintro ⟨i, h1, rfl⟩
  have := hxm i h1
  refine ⟨Nat.mod_lt _ (by omega), ?_⟩
  by_cases c : i + v < m
  ·rw [Nat.mod_eq_of_lt c]
   exact .inl ⟨by omega, by omega, by rw [show i + v - v = i by omega]; exact h1⟩
  ·rw [Nat.mod_eq_sub_mod (by omega), Nat.mod_eq_of_lt (by omega)]
   exact .inr (by rw [show m - v + (i + v - m) = i by omega]; exact h1)
theorem xor_one {s : Nat} (hs : s < 64) : ixor .i64 (s : Int) 1 = (back s : Int) := by
 have := ixor_nat (a := s) (b := 1) (by omega) (by omega)
 rw [show ((1 : Nat) : Int) = 1 from rfl] at this
 rw [this]
 have key : ∀ s, s < 64 → s ^^^ 1 = back s := by decide
 rw [key s hs]
def sN (m : Nat) (A : List Ar) (t : Nat) : Nat := (sV m A t).toNat
def Bm (m L : Nat) (nx : List Int) (S : Nat → Nat → Prop) : Prop := nx.length = L ∧ ∀ t, t < L → 0 ≤ nx.getD t 0 ∧ (nx.getD t 0).toNat < 2 ^ m ∧ ∀ i, (nx.getD t 0).toNat.testBit i = true ↔ S t i
theorem Bm.congr {m L : Nat} {nx : List Int} {S S' : Nat → Nat → Prop} (h : Bm m L nx S) (e : ∀ t i, t < L → (S t i ↔ S' t i)) : Bm m L nx S' :=
 ⟨h.1, fun t ht => ⟨(h.2 t ht).1, (h.2 t ht).2.1, fun i => ((h.2 t ht).2.2 i).trans (e t i ht)⟩⟩
theorem Bm.or {m L : Nat} {nx : List Int} {S : Nat → Nat → Prop} (h : Bm m L nx S) (hm : m ≤ 62) {t y : Nat} (ht : t < L) (hy : y < 2 ^ m) : Bm m L (nx.set t (ior .i64 (nx.getD t 0) (y : Int))) (fun t' i => S t' i ∨ (t' = t ∧ y.testBit i = true)) := by
 have hp : 2 ^ m ≤ 2 ^ 62 := Nat.pow_le_pow_right (by omega) hm
 have h3 : (2 : Nat) ^ 62 = 4611686018427387904 := by decide
 refine ⟨by rw [List.length_set]; exact h.1, fun t' ht' => ?_⟩
 obtain ⟨h1, h2, h4⟩ := h.2 t' ht'
 by_cases e : t' = t
 ·subst e
  rw [getD_at _ (by rw [List.length_set, h.1]; exact ht'), List.getElem_set_self]
  obtain ⟨z, hz⟩ : ∃ z : Nat, nx.getD t' 0 = z := ⟨(nx.getD t' 0).toNat, by omega⟩
  rw [hz, Int.toNat_natCast] at h2 h4
  rw [hz, ior_nat (by omega) (by omega), Int.toNat_natCast]
  refine ⟨by omega, Nat.or_lt_two_pow h2 hy, fun i => ?_⟩
  rw [Nat.testBit_or, Bool.or_eq_true, h4]
  simp
 ·have : (nx.set t (ior .i64 (nx.getD t 0) (y : Int))).getD t' 0 = nx.getD t' 0 := by
   rw [List.getD_eq_getElem?_getD, List.getElem?_set_ne (fun e2 => e e2.symm), ← List.getD_eq_getElem?_getD]
  rw [this]
  exact ⟨h1, h2, fun i => by rw [h4]; simp [e]⟩
theorem Bm.zero (m L : Nat) : Bm m L (List.replicate L 0) (fun _ _ => False) := by
 refine ⟨by simp, fun t ht => ?_⟩
 have e : (List.replicate L (0 : Int)).getD t 0 = 0 := by simp [List.getD_eq_getElem?_getD, List.getElem?_replicate, ht]
 rw [e]
 refine ⟨by omega, Nat.two_pow_pos m, fun i => by simp⟩
def nxt2 (A : List Ar) (s t : Nat) : Prop := sF A t = sT A s ∧ t ≠ back s
section
variable {N : Int} {M : Nat} {A : List Ar} {s : Value} {H : VH} {b0 : Nat}
theorem l_zz32_2 (B : IsB N M A) (hs : SlA H s A) (hn : nro ≤ H.length) (hb : H[b0]? = some ⟨0, [.int .i64 N, .int .i64 M, s]⟩) (w : Value) (hw : Old H.length w) (first most begin_ k : Int) (st x : Nat) (hst : st < 2 * A.length) (hx : x < 2 ^ M)
  (nx0 : List Int) (S0 : Nat → Nat → Prop) (h0 : Bm M (2 * A.length) nx0 S0) :
  ∃ nx, Bm M (2 * A.length) nx (fun t j => S0 t j ∨ (nxt2 A st t ∧ ∃ i, x.testBit i = true ∧ j = (i + sN M A t) % M)) ∧
  floop (vcall F nro) nro [1, 2, 3, 7, 8, 12, 18, 19, 20, 22, 81, 82, 83, 97, 98] i_zz32_B2 (H ++ [⟨1, ints nx0⟩]) [.int .i64 first, .int .i64 most, .pointer (some ⟨b0, 0, some 3⟩), .int .i64 ((2 * A.length : Nat) : Int), .int .i64 begin_, .int .i64 k, .slice (some ⟨H.length, 0, none⟩) (2 * A.length) (2 * A.length), .int .i64 st, .int .i64 x, .int .i64 (sT A st), w, .int .i64 ((2 * A.length : Nat) : Int), .int .i64 st, .int .i64 ((2 * A.length : Nat) : Int), .int .i64 0] (H ++ [⟨1, ints nx0⟩]) =
   some (.exit 6, fl [(1, .int .i64 first), (2, .int .i64 most), (3, .pointer (some ⟨b0, 0, some 3⟩)), (7, .int .i64 ((2 * A.length : Nat) : Int)), (8, .int .i64 begin_), (12, .int .i64 k), (18, .slice (some ⟨H.length, 0, none⟩) (2 * A.length) (2 * A.length)), (81, w), (82, .int .i64 ((2 * A.length : Nat) : Int)), (83, .int .i64 st)], H ++ [⟨1, ints nx⟩]) := by
 have hn' := fun k => Nat.le_trans hn (Nat.le_add_right H.length k)
 have hwk := fun k => hw.le (Nat.le_add_right H.length k)
 have hso := hs.old
 have hnj := hs.nj
 have hb0 : b0 < H.length := (List.getElem?_eq_some_iff.mp hb).1
 have hb' : ∀ L : VH, (H ++ L)[b0]? = some ⟨0, [.int .i64 N, .int .i64 M, s]⟩ := fun L => by rw [List.getElem?_append_left hb0]; exact hb
 have hlen := B.len
 have m1 := B.m1
 have m2 := B.m2
 have hM : M ≤ 62 := by omega
 obtain ⟨L2, hL2⟩ : ∃ L2, L2 = 2 * A.length := ⟨_, rfl⟩
 have hL32 : L2 ≤ 32 := by omega
 refine Exists.elim (for_upR (call := vcall F nro) (nro := nro) (live := [1, 2, 3, 7, 8, 12, 18, 19, 20, 22, 81, 82, 83, 97, 98]) (c := i_zz32_B2) (h0 := H ++ [⟨1, ints nx0⟩]) (n := 2 * A.length)
  (fun t (_ : List Int) => [.int .i64 first, .int .i64 most, .pointer (some ⟨b0, 0, some 3⟩), .int .i64 ((2 * A.length : Nat) : Int), .int .i64 begin_, .int .i64 k, .slice (some ⟨H.length, 0, none⟩) (2 * A.length) (2 * A.length), .int .i64 st, .int .i64 x, .int .i64 (sT A st), w, .int .i64 ((2 * A.length : Nat) : Int), .int .i64 st, .int .i64 ((2 * A.length : Nat) : Int), .int .i64 t])
  (fun _ nx => H ++ [⟨1, ints nx⟩]) (fun q nx => Bm M (2 * A.length) nx (fun t j => S0 t j ∨ (t < q ∧ nxt2 A st t ∧ ∃ i, x.testBit i = true ∧ j = (i + sN M A t) % M)))
  (fun nx => some (.exit 6, fl [(1, .int .i64 first), (2, .int .i64 most), (3, .pointer (some ⟨b0, 0, some 3⟩)), (7, .int .i64 ((2 * A.length : Nat) : Int)), (8, .int .i64 begin_), (12, .int .i64 k), (18, .slice (some ⟨H.length, 0, none⟩) (2 * A.length) (2 * A.length)), (81, w), (82, .int .i64 ((2 * A.length : Nat) : Int)), (83, .int .i64 st)], H ++ [⟨1, ints nx⟩])) ?_ ?_ 0 nx0 (Nat.zero_le _) (h0.congr fun t i _ => by simp)) ?_
 ·intro t nx ht ht2 hI
  have hstep := fun L => c_zz81 (nro := nro) (n := N) (m := M) (st := t) (h := H ++ L) B (hs.app L) (by simp; omega) ht
  obtain ⟨v1, v2⟩ := B.sV ht
  obtain ⟨v, hv⟩ : ∃ v : Nat, sV M A t = v := ⟨(sV M A t).toNat, by omega⟩
  have hvn : sN M A t = v := by unfold sN; rw [hv, Int.toNat_natCast]
  rw [hv] at v2 hstep
  obtain ⟨q1, q2, q3⟩ := hI.2 t ht
  have hxor := xor_one (s := st) (by omega)
  have hall := fun L => c_zz82 (nro := nro) M hM (H ++ L)
  have hrot := rot_eq (m := M) (v := v) (x := x) hM (by omega) hx
  obtain ⟨al, hal⟩ : ∃ al : Int, al = ((2 ^ M - 1 : Nat) : Int) := ⟨_, rfl⟩
  rw [← hal] at hall hrot
  have hnl : t < nx.length := by rw [hI.1]; exact ht
  have t1 := take1_ints hnl
  have t2 := splice_ints (v := ior .i64 nx[t] (rotN M v x : Int)) hnl
  have w3 : IntKind.i64.wrap ((t : Int) + 1) = (t : Int) + 1 := wrap64 (by omega) (by omega)
  have w4 : IntKind.i64.wrap ((M : Int) - v) = (M : Int) - v := wrap64 (by omega) (by omega)
  have h1v : (0 : Int) ≤ (M : Int) - v := by omega
  have hnxl := hI.1
  rw [← hL2] at ht hnxl hI ⊢
  rw [← hL2] at ht2
  clear hal
  by_cases c1 : sF A t = sT A st
  ·by_cases c2 : t = back st
   ·refine ⟨nx, hI.congr fun t' j _ => or_congr_right ?_, ?_⟩
    ·constructor
     ·rintro ⟨a1, a2⟩; exact ⟨by omega, a2⟩
     ·rintro ⟨a1, a2⟩
      refine ⟨?_, a2⟩
      have : t' ≠ t := fun e => a2.1.2 (e.trans c2)
      omega
    ·rw [floop_at i_zz32_B2.eq_1]
     have c2' : (t : Int) = back st := by omega
     generalize sF A t = f1 at *
     generalize sT A t = f2 at *
     generalize sT A st = f3 at *
     generalize back st = bk at *
     clear hI hs B h0 hv hvn q1 q2 q3 hL2 hlen hrot t1 t2 c2'
     subst c2
     simp (disch := first | assumption | omega | (simp [*] <;> omega) | fail) [-getElem?_pos, List.getElem?_cons_zero, List.getElem?_cons_succ, ht, ht2, hb', hstep, c1, hxor, w3, hn', hwk, hnxl]
   ·refine ⟨nx.set t (ior .i64 (nx.getD t 0) (rotN M v x : Int)), (hI.or hM (by omega) (rot_lt M v x)).congr fun t' j _ => ?_, ?_⟩
    ·rw [or_assoc]
     refine or_congr_right ?_
     constructor
     ·rintro (⟨a1, a2⟩ | ⟨a1, a2⟩)
      ·exact ⟨by omega, a2⟩
      ·subst a1
       rw [rot_bit hM (by omega) hx] at a2
       exact ⟨by omega, ⟨c1, c2⟩, by rw [hvn]; exact a2⟩
     ·rintro ⟨a1, a2, a3⟩
      by_cases e : t' = t
      ·subst e
       rw [hvn] at a3
       exact .inr ⟨rfl, (rot_bit hM (by omega) hx j).mpr a3⟩
      ·exact .inl ⟨by omega, a2, a3⟩
    ·rw [getD_at _ hnl, floop_at i_zz32_B2.eq_1]
     have c2' : ¬ (t : Int) = back st := by omega
     have hnn : ¬ H.length < nro := by omega
     have hsl : (nx.set t (ior .i64 nx[t] (rotN M v x : Int))).length = L2 := by rw [List.length_set]; exact hnxl
     generalize (nx.set t (ior .i64 nx[t] (rotN M v x : Int))) = nx' at *
     generalize nx[t] = y at *
     generalize sF A t = f1 at *
     generalize sT A t = f2 at *
     generalize sT A st = f3 at *
     generalize back st = bk at *
     generalize rotN M v x = ro at *
     clear hI hs B h0 hv hvn q1 q2 q3 hL2 hlen
     simp (disch := first | assumption | omega | (simp [*] <;> omega) | fail) [-getElem?_pos, List.getElem?_cons_zero, List.getElem?_cons_succ, ht, ht2, hb', hstep, c1, c2, c2', hxor, w3, w4, hn', hwk, hnxl, hsl, hall, hrot, t1, t2, h1v, hn, hnn]
  ·refine ⟨nx, hI.congr fun t' j _ => or_congr_right ?_, ?_⟩
   ·constructor
    ·rintro ⟨a1, a2⟩; exact ⟨by omega, a2⟩
    ·rintro ⟨a1, a2⟩
     refine ⟨?_, a2⟩
     have : t' ≠ t := by rintro rfl; exact c1 a2.1.1
     omega
   ·rw [floop_at i_zz32_B2.eq_1]
    generalize sF A t = f1 at *
    generalize sT A t = f2 at *
    generalize sT A st = f3 at *
    clear hI hs B h0 hv hvn q1 q2 q3 hL2 hlen hrot t1 t2 hxor
    simp (disch := first | assumption | omega | (simp [*] <;> omega) | fail) [-getElem?_pos, List.getElem?_cons_zero, List.getElem?_cons_succ, ht, ht2, hb', hstep, c1, w3, hn', hwk, hnxl]
 ·intro nx hI
  have hnxl := hI.1
  rw [floop_at i_zz32_B2.eq_1]
  rw [← hL2] at hnxl ⊢
  clear hI hs B h0 hL2 hlen
  simp (disch := first | assumption | omega | (simp [*] <;> omega) | fail) [hn', hwk, hnxl]
 ·rintro nx ⟨i1, i2⟩
  exact ⟨nx, i1.congr fun t j ht => or_congr_right ⟨fun h => h.2, fun h => ⟨ht, h⟩⟩, i2⟩
theorem l_zz32_3 (B : IsB N M A) (hs : SlA H s A) (hn : nro ≤ H.length) (hb : H[b0]? = some ⟨0, [.int .i64 N, .int .i64 M, s]⟩) (w : Value) (now : List Int) (S : Nat → Nat → Prop) (hw : Sli H w now) (hS : Bm M (2 * A.length) now S) (first most begin_ k : Int) :
  ∃ nx, Bm M (2 * A.length) nx (fun t j => ∃ st i, st < 2 * A.length ∧ S st i ∧ nxt2 A st t ∧ j = (i + sN M A t) % M) ∧
  floop (vcall F nro) nro [1, 2, 3, 7, 8, 12, 18, 81, 82, 83] i_zz32_B3 (H ++ [⟨1, ints (List.replicate (2 * A.length) 0)⟩]) [.int .i64 first, .int .i64 most, .pointer (some ⟨b0, 0, some 3⟩), .int .i64 ((2 * A.length : Nat) : Int), .int .i64 begin_, .int .i64 k, .slice (some ⟨H.length, 0, none⟩) (2 * A.length) (2 * A.length), w, .int .i64 ((2 * A.length : Nat) : Int), .int .i64 0] (H ++ [⟨1, ints (List.replicate (2 * A.length) 0)⟩]) =
   some (.exit 4, fl [(1, .int .i64 first), (2, .int .i64 most), (3, .pointer (some ⟨b0, 0, some 3⟩)), (7, .int .i64 ((2 * A.length : Nat) : Int)), (8, .int .i64 begin_), (12, .int .i64 k), (18, .slice (some ⟨H.length, 0, none⟩) (2 * A.length) (2 * A.length))], H ++ [⟨1, ints nx⟩]) := by
 have hn' := fun k => Nat.le_trans hn (Nat.le_add_right H.length k)
 have hwk := fun k => hw.old.le (Nat.le_add_right H.length k)
 have hwo := hw.old
 have hso := hs.old
 have hnj := hs.nj
 have hb0 : b0 < H.length := (List.getElem?_eq_some_iff.mp hb).1
 have hb' : ∀ L : VH, (H ++ L)[b0]? = some ⟨0, [.int .i64 N, .int .i64 M, s]⟩ := fun L => by rw [List.getElem?_append_left hb0]; exact hb
 have hlen := B.len
 have m2 := B.m2
 have hM : M ≤ 62 := by omega
 have hnn : ¬ H.length < nro := by omega
 refine Exists.elim (for_upR (call := vcall F nro) (nro := nro) (live := [1, 2, 3, 7, 8, 12, 18, 81, 82, 83]) (c := i_zz32_B3) (h0 := H ++ [⟨1, ints (List.replicate (2 * A.length) 0)⟩]) (n := 2 * A.length)
  (fun st (_ : List Int) => [.int .i64 first, .int .i64 most, .pointer (some ⟨b0, 0, some 3⟩), .int .i64 ((2 * A.length : Nat) : Int), .int .i64 begin_, .int .i64 k, .slice (some ⟨H.length, 0, none⟩) (2 * A.length) (2 * A.length), w, .int .i64 ((2 * A.length : Nat) : Int), .int .i64 st])
  (fun _ nx => H ++ [⟨1, ints nx⟩]) (fun q nx => Bm M (2 * A.length) nx (fun t j => ∃ st i, st < q ∧ S st i ∧ nxt2 A st t ∧ j = (i + sN M A t) % M))
  (fun nx => some (.exit 4, fl [(1, .int .i64 first), (2, .int .i64 most), (3, .pointer (some ⟨b0, 0, some 3⟩)), (7, .int .i64 ((2 * A.length : Nat) : Int)), (8, .int .i64 begin_), (12, .int .i64 k), (18, .slice (some ⟨H.length, 0, none⟩) (2 * A.length) (2 * A.length))], H ++ [⟨1, ints nx⟩])) ?_ ?_ 0 (List.replicate (2 * A.length) 0) (Nat.zero_le _) ((Bm.zero M _).congr fun t j _ => ⟨False.elim, fun ⟨_, _, h, _⟩ => by omega⟩)) ?_
 ·intro st nx hst hst2 hI
  have hstep := fun L => c_zz81 (nro := nro) (n := N) (m := M) (st := st) (h := H ++ L) B (hs.app L) (by simp; omega) hst
  obtain ⟨q1, q2, q3⟩ := hS.2 st hst
  have hwl := hS.1
  have hsl : st < now.length := by omega
  have t1 := fun L => (hw.app L).vidx (k := .i64) (j := (st : Int)) (by omega) (by omega)
  have t2 := fun L => (hw.app L).vload hsl
  rw [getD_at _ hsl] at q1 q2 q3
  obtain ⟨x, hx⟩ : ∃ x : Nat, now[st] = (x : Int) := ⟨now[st].toNat, by omega⟩
  rw [hx, Int.toNat_natCast] at q2 q3
  rw [hx] at t2
  have w3 : IntKind.i64.wrap ((st : Int) + 1) = (st : Int) + 1 := wrap64 (by omega) (by omega)
  have hnxl := hI.1
  by_cases c : x = 0
  ·refine ⟨nx, hI.congr fun t j _ => ?_, ?_⟩
   ·constructor
    ·rintro ⟨s', i, a1, a2⟩; exact ⟨s', i, by omega, a2⟩
    ·rintro ⟨s', i, a1, a2⟩
     refine ⟨s', i, ?_, a2⟩
     have : s' ≠ st := by
      rintro rfl
      have := (q3 i).mpr a2.1
      rw [c] at this
      simp at this
     omega
   ·rw [floop_at i_zz32_B3.eq_1]
    subst c
    obtain ⟨L2, hL2⟩ : ∃ L2, L2 = 2 * A.length := ⟨_, rfl⟩
    rw [← hL2] at hst hst2 hnxl ⊢
    clear hI hs B hw hS q3 hL2 hlen hstep
    simp only [Int.toNat_natCast] at t1
    simp (disch := first | assumption | omega | (simp [*] <;> omega) | fail) [-getElem?_pos, List.getElem?_cons_zero, List.getElem?_cons_succ, hst, hst2, t1, t2, w3, hn', hwk, hwo, hnxl]
  ·obtain ⟨nx', i1, i2⟩ := l_zz32_2 (nro := nro) B hs hn hb w hwo first most begin_ k st x hst q2 nx _ hI
   refine ⟨nx', i1.congr fun t j _ => ?_, ?_⟩
   ·constructor
    ·rintro (⟨s', i, a1, a2⟩ | ⟨a1, i, a2, a3⟩)
     ·exact ⟨s', i, by omega, a2⟩
     ·exact ⟨st, i, by omega, (q3 i).mp a2, a1, a3⟩
    ·rintro ⟨s', i, a1, a2, a3, a4⟩
     by_cases e : s' = st
     ·subst e
      exact .inr ⟨a3, i, (q3 i).mpr a2, a4⟩
     ·exact .inl ⟨s', i, by omega, a2, a3, a4⟩
   ·rw [floop_at i_zz32_B3.eq_1]
    have c' : ¬ (x : Int) = 0 := by omega
    have hnxl' := i1.1
    obtain ⟨L2, hL2⟩ : ∃ L2, L2 = 2 * A.length := ⟨_, rfl⟩
    rw [← hL2] at hst hst2 hnxl hnxl' i2 ⊢
    generalize sF A st = f1 at *
    generalize sT A st = f2 at *
    generalize sV M A st = f3 at *
    clear hI hs B hw hS q3 hL2 hlen i1
    simp only [Int.toNat_natCast] at t1
    simp (disch := first | assumption | omega | (simp [*] <;> omega) | fail) [-getElem?_pos, List.getElem?_cons_zero, List.getElem?_cons_succ, hst, hst2, t1, t2, w3, hn', hwk, hwo, hnxl, hnxl', hb', hstep, c, c', i2]
 ·intro nx hI
  have hnxl := hI.1
  rw [floop_at i_zz32_B3.eq_1]
  obtain ⟨L2, hL2⟩ : ∃ L2, L2 = 2 * A.length := ⟨_, rfl⟩
  rw [← hL2] at hnxl ⊢
  clear hI hs B hL2 hlen
  simp (disch := first | assumption | omega | (simp [*] <;> omega) | fail) [-getElem?_pos, List.getElem?_cons_zero, List.getElem?_cons_succ, hn', hwk, hnxl]
 ·rintro nx ⟨i1, i2⟩
  exact ⟨nx, i1, i2⟩
def fnd0 (A : List Ar) (first : Nat) (S : Nat → Nat → Prop) : Prop := ∃ st, st < 2 * A.length ∧ S st 0 ∧ sT A st = sF A first ∧ back st ≠ first
open Classical in
theorem l_zz32_1 (B : IsB N M A) (hs : SlA H s A) (hn : nro ≤ H.length) (hb : H[b0]? = some ⟨0, [.int .i64 N, .int .i64 M, s]⟩) (w : Value) (now : List Int) (S : Nat → Nat → Prop) (hw : Sli H w now) (hS : Bm M (2 * A.length) now S) (first : Nat) (hfi : first < 2 * A.length) (most k : Int) :
  floop (vcall F nro) nro [1, 2, 3, 7, 8, 11, 12, 49, 50, 51] i_zz32_B1 H [.int .i64 first, .int .i64 most, .pointer (some ⟨b0, 0, some 3⟩), .int .i64 ((2 * A.length : Nat) : Int), .int .i64 (sF A first), w, .int .i64 k, w, .int .i64 ((2 * A.length : Nat) : Int), .int .i64 0] H =
   if fnd0 A first S then some (.ret, fl [(6, .int .i64 k)], H) else some (.exit 2, fl [(1, .int .i64 first), (2, .int .i64 most), (3, .pointer (some ⟨b0, 0, some 3⟩)), (7, .int .i64 ((2 * A.length : Nat) : Int)), (8, .int .i64 (sF A first)), (11, w), (12, .int .i64 k)], H) := by
 have hwo := hw.old
 have hso := hs.old
 have hnj := hs.nj
 have hb0 : b0 < H.length := (List.getElem?_eq_some_iff.mp hb).1
 have hlen := B.len
 have m2 := B.m2
 have hM : M ≤ 62 := by omega
 have hf := for_find (call := vcall F nro) (nro := nro) (live := [1, 2, 3, 7, 8, 11, 12, 49, 50, 51]) (c := i_zz32_B1) (h0 := H) (n := 2 * A.length) (fun st => [.int .i64 first, .int .i64 most, .pointer (some ⟨b0, 0, some 3⟩), .int .i64 ((2 * A.length : Nat) : Int), .int .i64 (sF A first), w, .int .i64 k, w, .int .i64 ((2 * A.length : Nat) : Int), .int .i64 st]) H
  (fun st => S st 0 ∧ sT A st = sF A first ∧ back st ≠ first) (some (.ret, fl [(6, .int .i64 k)], H)) (some (.exit 2, fl [(1, .int .i64 first), (2, .int .i64 most), (3, .pointer (some ⟨b0, 0, some 3⟩)), (7, .int .i64 ((2 * A.length : Nat) : Int)), (8, .int .i64 (sF A first)), (11, w), (12, .int .i64 k)], H))
  (fun st hst hst2 => by
   have hstep := c_zz81 (nro := nro) (n := N) (m := M) (st := st) (h := H) B hs hn hst
   obtain ⟨q1, q2, q3⟩ := hS.2 st hst
   have hwl := hS.1
   have hsl : st < now.length := by omega
   have t1 := hw.vidx (k := .i64) (j := (st : Int)) (by omega) (by omega)
   have t2 := hw.vload hsl
   rw [getD_at _ hsl] at q1 q2 q3
   obtain ⟨x, hx⟩ : ∃ x : Nat, now[st] = (x : Int) := ⟨now[st].toNat, by omega⟩
   rw [hx, Int.toNat_natCast] at q2 q3
   rw [hx] at t2
   have hp : 2 ^ M ≤ 2 ^ 62 := Nat.pow_le_pow_right (by omega) hM
   have h3 : (2 : Nat) ^ 62 = 4611686018427387904 := by decide
   have hand := iand_one (a := x) (by omega)
   have hxor := xor_one (s := st) (by omega)
   have h0x : x % 2 = 1 ↔ S st 0 := by
    rw [← q3 0, Nat.testBit_zero]
    simp
   have w3 : IntKind.i64.wrap ((st : Int) + 1) = (st : Int) + 1 := wrap64 (by omega) (by omega)
   rw [← h0x]
   obtain ⟨L2, hL2⟩ : ∃ L2, L2 = 2 * A.length := ⟨_, rfl⟩
   rw [← hL2] at hst hst2 ⊢
   generalize sF A st = f1 at *
   generalize sT A st = f2 at *
   generalize sV M A st = f3 at *
   generalize sF A first = f4 at *
   generalize back st = bk at *
   simp only [Int.toNat_natCast] at t1
   clear hs B hw hS q3 hL2 hlen hp q2 h0x hx
   by_cases c1 : f2 = f4
   ·by_cases c2 : x % 2 = 1
    ·by_cases c3 : bk = first
     ·refine ⟨fun h => absurd c3 h.2.2, fun _ => ?_⟩
      conv => lhs; rw [floop_at i_zz32_B1.eq_1]
      have c3' : (bk : Int) = first := by omega
      have c2' : ((x % 2 : Nat) : Int) = 1 := by omega
      rw [c2'] at hand
      rw [c3'] at hxor
      clear c2 c3 c2' c3'
      simp (disch := first | assumption | omega | (simp [*] <;> omega) | fail) [-getElem?_pos, List.getElem?_cons_zero, List.getElem?_cons_succ, hst, hst2, t1, t2, w3, hwo, hb, hstep, c1, hand, hxor]
     ·refine ⟨fun _ => ?_, fun h => absurd ⟨c2, c1, c3⟩ h⟩
      rw [floop_at i_zz32_B1.eq_1]
      have c3' : ¬ (bk : Int) = first := by omega
      have c2' : ((x % 2 : Nat) : Int) = 1 := by omega
      rw [c2'] at hand
      clear c2 c2'
      simp (disch := first | assumption | omega | (simp [*] <;> omega) | fail) [-getElem?_pos, List.getElem?_cons_zero, List.getElem?_cons_succ, hst, hst2, t1, t2, w3, hwo, hb, hstep, c1, hand, hxor, c3, c3']
    ·refine ⟨fun h => absurd h.1 c2, fun _ => ?_⟩
     conv => lhs; rw [floop_at i_zz32_B1.eq_1]
     have c2' : ((x % 2 : Nat) : Int) = 0 := by omega
     rw [c2'] at hand
     clear c2 c2'
     simp (disch := first | assumption | omega | (simp [*] <;> omega) | fail) [-getElem?_pos, List.getElem?_cons_zero, List.getElem?_cons_succ, hst, hst2, t1, t2, w3, hwo, hb, hstep, c1, hand, hxor]
   ·refine ⟨fun h => absurd h.2.1 c1, fun _ => ?_⟩
    conv => lhs; rw [floop_at i_zz32_B1.eq_1]
    simp (disch := first | assumption | omega | (simp [*] <;> omega) | fail) [-getElem?_pos, List.getElem?_cons_zero, List.getElem?_cons_succ, hst, hst2, t1, t2, w3, hwo, hb, hstep, c1])
  (by
   rw [floop_at i_zz32_B1.eq_1]
   generalize 2 * A.length = L2
   simp (disch := first | assumption | omega | (simp [*] <;> omega) | fail) [-getElem?_pos, List.getElem?_cons_zero, List.getElem?_cons_succ, ]) 0 (Nat.zero_le _)
 have e : (∃ j, 0 ≤ j ∧ j < 2 * A.length ∧ (S j 0 ∧ sT A j = sF A first ∧ back j ≠ first)) ↔ fnd0 A first S := ⟨fun ⟨j, _, h1, h2⟩ => ⟨j, h1, h2⟩, fun ⟨j, h1, h2⟩ => ⟨j, Nat.zero_le _, h1, h2⟩⟩
 simp only [e] at hf
 exact hf
end
end

/- Walk girths by the program. -/
section
open Go
variable {nro : Nat}
section
variable {N : Int} {M : Nat} {A : List Ar} {s : Value} {Hb : VH} {b0 : Nat}
theorem l_zz32_4s (B : IsB N M A) (hs : SlA Hb s A) (hn : nro ≤ Hb.length) (hb : Hb[b0]? = some ⟨0, [.int .i64 N, .int .i64 M, s]⟩) (L : VH) (w : Value) (now : List Int) (S : Nat → Nat → Prop) (hw : Sli (Hb ++ L) w now) (hS : Bm M (2 * A.length) now S) (first : Nat) (hfi : first < 2 * A.length) (most k : Int) (hk : k < most) (hk0 : 0 ≤ k) (hk1 : k ≤ 1000) :
  (fnd0 A first S → floop (vcall F nro) nro [1, 2, 3, 7, 8, 11, 12] i_zz32_B4 Hb [.int .i64 first, .int .i64 most, .pointer (some ⟨b0, 0, some 3⟩), .int .i64 ((2 * A.length : Nat) : Int), .int .i64 (sF A first), w, .int .i64 k] (Hb ++ L) = some (.ret, fl [(6, .int .i64 k)], Hb ++ L)) ∧
  (¬ fnd0 A first S → ∃ nx, Bm M (2 * A.length) nx (fun t j => ∃ st i, st < 2 * A.length ∧ S st i ∧ nxt2 A st t ∧ j = (i + sN M A t) % M) ∧
   floop (vcall F nro) nro [1, 2, 3, 7, 8, 11, 12] i_zz32_B4 Hb [.int .i64 first, .int .i64 most, .pointer (some ⟨b0, 0, some 3⟩), .int .i64 ((2 * A.length : Nat) : Int), .int .i64 (sF A first), w, .int .i64 k] (Hb ++ L) =
   floop (vcall F nro) nro [1, 2, 3, 7, 8, 11, 12] i_zz32_B4 Hb [.int .i64 first, .int .i64 most, .pointer (some ⟨b0, 0, some 3⟩), .int .i64 ((2 * A.length : Nat) : Int), .int .i64 (sF A first), .slice (some ⟨Hb.length, 0, none⟩) (2 * A.length) (2 * A.length), .int .i64 (k + 1)] (Hb ++ [⟨1, ints nx⟩])) := by
 have hnH : nro ≤ (Hb ++ L).length := by simp; omega
 have hb0 : b0 < Hb.length := (List.getElem?_eq_some_iff.mp hb).1
 have hbH : (Hb ++ L)[b0]? = some ⟨0, [.int .i64 N, .int .i64 M, s]⟩ := by rw [List.getElem?_append_left hb0]; exact hb
 have l1 := l_zz32_1 (nro := nro) B (hs.app L) hnH hbH w now S hw hS first hfi most k
 obtain ⟨nx, h1, l3⟩ := l_zz32_3 (nro := nro) B (hs.app L) hnH hbH w now S hw hS first most (sF A first) k
 have hwl := hw.vlen
 have hwl2 := fun L' => (hw.app L').vlen
 rw [hS.1] at hwl
 simp only [hS.1] at hwl2
 have hlen := B.len
 have k2 : 8 * ((2 * A.length : Nat) : Int) ≤ 140737488355328 := by omega
 have k3 : ((2 * A.length : Nat) : Int) ≤ 140737488355328 := by omega
 have w3 : IntKind.i64.wrap (k + 1) = k + 1 := wrap64 (by omega) (by omega)
 have hc := clean_mid (h := Hb) (L := L ++ [⟨1, ints nx⟩]) (A := [.int .i64 first, .int .i64 most, .pointer (some ⟨b0, 0, some 3⟩), .int .i64 ((2 * A.length : Nat) : Int), .int .i64 (sF A first)]) (B := [.int .i64 (k + 1)]) (k := L.length) (off := 0) (n := 2 * A.length) (t := 2 * A.length) (o := ⟨1, ints nx⟩) (by intro v hv; simp at hv; rcases hv with rfl | rfl | rfl | rfl | rfl <;> simp [hb0]) (by intro v hv; simp at hv; subst hv; simp) (by simp) (by simp)
 rw [← List.append_assoc, ← List.length_append] at hc
 have hHl : (Hb ++ L).length = Hb.length + L.length := List.length_append
 have hnx := h1.1
 obtain ⟨L2, hL2⟩ : ∃ L2, L2 = 2 * A.length := ⟨_, rfl⟩
 have hrep : (ints (List.replicate L2 0)).length = L2 := by simp
 rw [← hL2] at l1 l3 hwl k2 k3 hc hnx h1 ⊢
 simp only [← hL2] at hwl2
 generalize hHk : Hb ++ L = Hk at *
 clear hw hS hHk
 constructor
 ·intro c
  rw [if_pos c] at l1
  rw [floop_at i_zz32_B4.eq_1]
  clear hc l3 h1 B hs c
  simp (disch := first | assumption | omega | (simp [*] <;> omega) | fail) [-getElem?_pos, List.getElem?_cons_zero, List.getElem?_cons_succ, hk, hwl, l1]
 ·intro c
  rw [if_neg c] at l1
  refine ⟨nx, h1, ?_⟩
  conv => lhs; rw [floop_at i_zz32_B4.eq_1]
  simp only [List.cons_append, List.nil_append] at hc
  clear h1 B hs c hHl
  simp (disch := first | assumption | omega | (simp [*] <;> omega) | fail) [-getElem?_pos, List.getElem?_cons_zero, List.getElem?_cons_succ, hk, hwl, hwl2, l1, k2, k3, l3, w3, hc]
def Rc (m : Nat) (A : List Ar) (first : Nat) : Nat → Nat → Nat → Prop
 | 0, t, j => t = first ∧ j = sN m A first
 | k + 1, t, j => ∃ st i, st < 2 * A.length ∧ Rc m A first k st i ∧ nxt2 A st t ∧ j = (i + sN m A t) % m
def fnd (m : Nat) (A : List Ar) (first k : Nat) : Prop := fnd0 A first (Rc m A first k)
open Classical in
noncomputable def gF (p : Nat → Prop) (most k : Nat) : Nat := if k < most then (if p (k - 1) then k else gF p most (k + 1)) else most
 termination_by most - k
open Classical in
theorem gF_end {p : Nat → Prop} {most k : Nat} (h : ¬ k < most) : gF p most k = most := by rw [gF, if_neg h]
open Classical in
theorem gF_yes {p : Nat → Prop} {most k : Nat} (h : k < most) (h2 : p (k - 1)) : gF p most k = k := by rw [gF, if_pos h, if_pos h2]
open Classical in
theorem gF_no {p : Nat → Prop} {most k : Nat} (h : k < most) (h2 : ¬ p (k - 1)) : gF p most k = gF p most (k + 1) := by conv => lhs; rw [gF, if_pos h, if_neg h2]
theorem gF_spec (p : Nat → Prop) (most k : Nat) (hk : k ≤ most) : (∀ j, k ≤ j → j < gF p most k → ¬ p (j - 1)) ∧ gF p most k ≤ most ∧ (gF p most k < most → p (gF p most k - 1)) ∧ k ≤ gF p most k := by
  by_cases h : k < most
  · by_cases h2 : p (k - 1)
    · rw [gF_yes h h2]
      exact ⟨fun j h3 h4 => by omega, by omega, fun _ => h2, by omega⟩
    · rw [gF_no h h2]
      obtain ⟨a1, a2, a3, a4⟩ := gF_spec p most (k + 1) h
      refine ⟨fun j h3 h4 => ?_, a2, a3, by omega⟩
      by_cases e : j = k
      · subst e; exact h2
      · exact a1 j (by omega) h4
  · rw [gF_end h]
    exact ⟨fun j h3 h4 => by omega, by omega, fun h => by omega, by omega⟩
 termination_by most - k
theorem l_zz32_4 (B : IsB N M A) (hs : SlA Hb s A) (hn : nro ≤ Hb.length) (hb : Hb[b0]? = some ⟨0, [.int .i64 N, .int .i64 M, s]⟩) (first : Nat) (hfi : first < 2 * A.length) (most : Nat) (hmo : most ≤ 100) : ∀ (d k : Nat) (L : VH) (w : Value) (now : List Int), most ≤ k + d → 1 ≤ k → k ≤ most → Sli (Hb ++ L) w now → Bm M (2 * A.length) now (Rc M A first (k - 1)) →
  ∃ L', floop (vcall F nro) nro [1, 2, 3, 7, 8, 11, 12] i_zz32_B4 Hb [.int .i64 first, .int .i64 most, .pointer (some ⟨b0, 0, some 3⟩), .int .i64 ((2 * A.length : Nat) : Int), .int .i64 (sF A first), w, .int .i64 k] (Hb ++ L) =
   some (if gF (fnd M A first) most k < most then (.ret, fl [(6, .int .i64 (gF (fnd M A first) most k))], Hb ++ L') else (.exit 0, fl [(2, .int .i64 most)], Hb ++ L')) := by
 have done : ∀ (k : Nat) (L : VH) (w : Value), ¬ k < most → ∃ L', floop (vcall F nro) nro [1, 2, 3, 7, 8, 11, 12] i_zz32_B4 Hb [.int .i64 first, .int .i64 most, .pointer (some ⟨b0, 0, some 3⟩), .int .i64 ((2 * A.length : Nat) : Int), .int .i64 (sF A first), w, .int .i64 k] (Hb ++ L) =
   some (if gF (fnd M A first) most k < most then (.ret, fl [(6, .int .i64 (gF (fnd M A first) most k))], Hb ++ L') else (.exit 0, fl [(2, .int .i64 most)], Hb ++ L')) := by
  intro k L w hk
  refine ⟨L, ?_⟩
  rw [gF_end hk, if_neg (by omega), floop_at i_zz32_B4.eq_1]
  have hk2 : ¬ (k : Int) < most := by omega
  generalize 2 * A.length = L2
  clear hs B
  simp (disch := first | assumption | omega | (simp [*] <;> omega) | fail) [-getElem?_pos, List.getElem?_cons_zero, List.getElem?_cons_succ, hk, hk2]
 intro d
 induction d with
 | zero =>
  intro k L w now hd h1 _ _ _
  exact done k L w (by omega)
 | succ d ih =>
  intro k L w now hd h1 h2 hw hS
  by_cases hk : k < most
  ·obtain ⟨a1, a2⟩ := l_zz32_4s (nro := nro) B hs hn hb L w now _ hw hS first hfi most k (by omega) (by omega) (by omega)
   by_cases c : fnd M A first (k - 1)
   ·refine ⟨L, ?_⟩
    rw [a1 c, gF_yes hk c, if_pos hk]
   ·obtain ⟨nx, i1, i2⟩ := a2 c
    rw [i2, gF_no hk c]
    have i1' : Bm M (2 * A.length) nx (Rc M A first (k + 1 - 1)) := i1.congr fun t j _ => by
     obtain ⟨q, hq⟩ : ∃ q, k = q + 1 := ⟨k - 1, by omega⟩
     subst hq
     exact Iff.rfl
    have hsl : Sli (Hb ++ [(⟨1, ints nx⟩ : VO)]) (.slice (some ⟨Hb.length, 0, none⟩) (2 * A.length) (2 * A.length)) nx := by
     have := sli_at (h := Hb ++ [(⟨1, ints nx⟩ : VO)]) (b := Hb.length) (xs := nx) (by simp)
     rwa [i1.1] at this
    exact ih (k + 1) [⟨1, ints nx⟩] _ nx (by omega) (by omega) (by omega) hsl i1'
  ·exact done k L w hk
theorem c_zz32 (h : VH) (B : IsB N M A) (hs : SlA h s A) (hn : nro ≤ h.length) (first : Nat) (hfi : first < 2 * A.length) (most : Nat) (hmo : most ≤ 100) (hm1 : 1 ≤ most) :
  vcall F nro k_zz32 [bv N M s, .int .i64 first, .int .i64 most] h = some (.int .i64 (gF (fnd M A first) most 1), h) := by
 have hn' := fun k => Nat.le_trans hn (Nat.le_add_right h.length k)
 have hso := hs.old
 have hnj := hs.nj
 have hlen := B.len
 obtain ⟨v1, v2⟩ := B.sV hfi
 have m2 := B.m2
 obtain ⟨v, hv⟩ : ∃ v : Nat, sV M A first = v := ⟨(sV M A first).toNat, by omega⟩
 have hvn : sN M A first = v := by unfold sN; rw [hv, Int.toNat_natCast]
 have hst := c_zz74 (nro := nro) (n := N) (m := M) (hs.app [⟨0, [.int .i64 N, .int .i64 M, s]⟩]) (by omega)
 have hstep := c_zz81 (nro := nro) (n := N) (m := M) (st := first) (h := bx3 h N M s) B (hs.app _) (by simp; omega) hfi
 rw [hv] at hstep v2
 obtain ⟨L2, hL2⟩ : ∃ L2, L2 = 2 * A.length := ⟨_, rfl⟩
 have k2 : 8 * (L2 : Int) ≤ 140737488355328 := by omega
 have k3 : (L2 : Int) ≤ 140737488355328 := by omega
 have hnl : first < (List.replicate L2 (0 : Int)).length := by rw [List.length_replicate]; omega
 have t2 := splice_ints (v := (2 ^ v : Nat)) hnl
 have hshl := ishl_one (b := (v : Int)) (by omega)
 rw [Int.toNat_natCast] at hshl
 have hBm : Bm M L2 ((List.replicate L2 (0 : Int)).set first ((2 ^ v : Nat) : Int)) (Rc M A first (1 - 1)) := by
  refine ⟨by simp, fun t ht => ?_⟩
  by_cases e : t = first
  ·subst e
   rw [getD_at _ (by simpa using ht), List.getElem_set_self, Int.toNat_natCast]
   refine ⟨Int.natCast_nonneg _, Nat.pow_lt_pow_right (by omega) (by omega), fun i => ?_⟩
   rw [Nat.testBit_two_pow]
   show decide (v = i) = true ↔ t = t ∧ i = sN M A t
   rw [decide_eq_true_iff, hvn]
   exact ⟨fun h => ⟨rfl, h.symm⟩, fun h => h.2.symm⟩
  ·have : ((List.replicate L2 (0 : Int)).set first ((2 ^ v : Nat) : Int)).getD t 0 = 0 := by
    rw [List.getD_eq_getElem?_getD, List.getElem?_set_ne (fun e2 => e e2.symm)]
    simp [List.getElem?_replicate, ht]
   rw [this]
   refine ⟨by omega, Nat.two_pow_pos M, fun i => ?_⟩
   show (0 : Nat).testBit i = true ↔ t = first ∧ i = sN M A first
   simp [e]
 have hfl : first < L2 := by omega
 have hfl2 : (first : Int) < L2 := by omega
 obtain ⟨nw, hnw⟩ : ∃ nw, nw = (List.replicate L2 (0 : Int)).set first ((2 ^ v : Nat) : Int) := ⟨_, rfl⟩
 have hnwl : nw.length = L2 := by rw [hnw]; simp
 rw [← hnw] at hBm t2
 obtain ⟨L', l4⟩ := l_zz32_4 (nro := nro) (Hb := bx3 h N M s ++ [⟨1, ints nw⟩]) (b0 := h.length) B ((hs.app _).app _) (by simp; omega) (by simp) first hfi most hmo most 1 [] (.slice (some ⟨h.length + 1, 0, none⟩) nw.length nw.length) nw (by omega) (Nat.le_refl _) hm1 (sli_at (by simp)) (by rw [← hL2]; exact hBm)
 rw [hnwl, ← hL2] at l4
 rw [← hL2] at hst
 generalize sF A first = f1 at *
 generalize sT A first = f2 at *
 obtain ⟨p2, hp2⟩ : ∃ p2 : Int, p2 = ((2 ^ v : Nat) : Int) := ⟨_, rfl⟩
 rw [← hp2] at hshl t2
 have hge := (gF_spec (fnd M A first) most 1 hm1).2.1
 refine v_zz32 (by simp [i_zz32]) ?_
 rw [fbody_eq]
 generalize gF (fnd M A first) most 1 = g at *
 clear hBm hs B hnw hp2 hv hvn hL2 hfi
 have hn1 : nro ≤ h.length + 1 := by omega
 by_cases c : g < most
 ·rw [if_pos c] at l4
  simp at l4
  simp (disch := first | assumption | omega | (simp [*] <;> omega) | fail) [i_zz32, hst, hstep, k2, k3, hshl, t2, hfl, hfl2, hn', hn1, l4, hnwl]
 ·rw [if_neg c] at l4
  have e : g = most := by omega
  rw [e]
  simp at l4
  simp (disch := first | assumption | omega | (simp [*] <;> omega) | fail) [i_zz32, hst, hstep, k2, k3, hshl, t2, hfl, hfl2, hn', hn1, l4, hnwl]
noncomputable def wgF (M : Nat) (A : List Ar) : Nat → Nat → Nat := fun i b => upF (fun f b => gF (fnd M A f) b 1) (2 * A.length) i b
noncomputable def wgA (n m : Int) (A : List Ar) : Int × Int := by
 classical exact if IsB n m A then (if 14 < wgF m.toNat A 0 15 then (0, 4) else ((wgF m.toNat A 0 15 : Int), 0)) else (0, 1)
theorem gF_ge {p : Nat → Prop} {most : Nat} (h : 1 ≤ most) : 1 ≤ gF p most 1 ∧ gF p most 1 ≤ most := ⟨(gF_spec p most 1 h).2.2.2, (gF_spec p most 1 h).2.1⟩
open Classical in
theorem c_zz30 {n m : Int} (h : VH) (hs : SlA h s A) (hA : A.length ≤ 1000) (hn : nro ≤ h.length) : vcall F nro k_zz30 [bv n m s] h = some (.tuple #[.int .i64 (wgA n m A).1, .int .i64 (wgA n m A).2], h) := by
 have hn' := fun k => Nat.le_trans hn (Nat.le_add_right h.length k)
 have hso := hs.old
 have hsc := fun k => hs.oldCk (k := k)
 have hnj := hs.nj
 have hc := c_zz62 (nro := nro) n m s A (bx3 h n m s) (hs.app _) hA
 refine v_zz30 (by simp [i_zz30]) ?_
 rw [fbody_eq]
 unfold wgA
 by_cases B : IsB n m A
 ·rw [if_pos B]
  rw [decide_eq_true B] at hc
  obtain ⟨M, rfl⟩ : ∃ M : Nat, m = M := ⟨m.toNat, by have := B.m1; omega⟩
  rw [Int.toNat_natCast]
  have hst := c_zz74 (nro := nro) (n := n) (m := M) (hs.app [⟨0, [.int .i64 n, .int .i64 M, s]⟩]) hA
  have hlen := B.len
  have main := for_up (call := vcall F nro) (nro := nro) (live := [1, 4, 10, 11]) (c := i_zz30_B1) (h0 := bx3 h n M s) (n := 2 * A.length) (fun i (b : Nat) => [.pointer (some ⟨h.length, 0, some 3⟩), .int .i64 b, .int .i64 ((2 * A.length : Nat) : Int), .int .i64 i]) (fun _ _ => bx3 h n M s) (fun f b => gF (fnd M A f) b 1) (fun _ b => 1 ≤ b ∧ b ≤ 15)
   (fun b => some (.exit 0, fl [(4, .int .i64 b)], bx3 h n M s))
   (fun f b hf hf2 hb => by
    have hge := gF_ge (p := fnd M A f) hb.1
    refine ⟨⟨hge.1, by omega⟩, ?_⟩
    have hg := c_zz32 (nro := nro) (N := n) (bx3 h n M s) B (hs.app _) (by simp; omega) f hf b (by omega) hb.1
    have w3 : IntKind.i64.wrap ((f : Int) + 1) = (f : Int) + 1 := wrap64 (by omega) (by omega)
    generalize gF (fnd M A f) b 1 = g at *
    conv => lhs; rw [floop_at i_zz30_B1.eq_1]
    obtain ⟨L2, hL2⟩ : ∃ L2, L2 = 2 * A.length := ⟨_, rfl⟩
    rw [← hL2] at hf hf2 ⊢
    clear hs B hst hc hL2 hlen
    simp (disch := first | assumption | omega | (simp [*] <;> omega) | fail) [hf, hf2, hg, w3, hn'])
   (fun b _ => by
    rw [floop_at i_zz30_B1.eq_1]
    generalize 2 * A.length = L2 at *
    clear hs B hst hc
    simp (disch := first | assumption | omega | (simp [*] <;> omega) | fail) [hn']) 0 15 (Nat.zero_le _) ⟨by omega, by omega⟩
  obtain ⟨l1, l2⟩ := main
  rw [show upF (fun f b => gF (fnd M A f) b 1) (2 * A.length) 0 15 = wgF M A 0 15 from rfl] at l1 l2
  generalize wgF M A 0 15 = W at *
  generalize 2 * A.length = L2 at *
  clear hs B
  by_cases c : 14 < W
  ·have c' : (14 : Int) < W := by omega
   rw [if_pos c]
   simp at l1
   simp (disch := first | assumption | omega | (simp [*] <;> omega) | fail) [i_zz30, hc, hst, l1, c', c, hn', fresults, fresL, fres1]
  ·have c' : ¬ (14 : Int) < W := by omega
   rw [if_neg c]
   simp at l1
   simp (disch := first | assumption | omega | (simp [*] <;> omega) | fail) [i_zz30, hc, hst, l1, c', c, hn', fresults, fresL, fres1]
 ·rw [if_neg B]
  rw [decide_eq_false B] at hc
  clear hs B
  simp (disch := first | assumption | omega | (simp [*] <;> omega) | fail) [i_zz30, hc, hn', fresults, fresL, fres1]
end
end

/- Groups as the program has them: sums, turns with mirrors, lines. What their products obey, in plain numbers. -/
section
open Go
def gord (k n : Nat) : Nat := if k = 0 then n else if k = 1 then 2 * n else n * (n - 1)
end

/- Refining: the numbers of all vertices of all graphs. -/
section
open Go
theorem Sl.nj {h : VH} {v : Value} {cs : List Value} (hs : Sl h v cs) : isJunk v = false := by
 rcases hs.inv with ⟨rfl, _⟩ | ⟨rfl, _⟩ | ⟨a, n, tot, o, rfl, _⟩ <;> rfl
end

/- A function in parts, one after the other. -/
section
open Go
def takeS : Nat → FC → FC
 | 0, .seq a _ => a
 | k + 1, .seq a b => .seq a (takeS k b)
 | _, c => c
def dropS : Nat → FC → FC
 | 0, c => c
 | k + 1, .seq _ b => dropS k b
 | _ + 1, c => c
def nseq : FC → Nat
 | .seq _ b => nseq b + 1
 | _ => 0
theorem kseq_kseq (call : VCall) (nro : Nat) (a b : FC) (r : Option (VX × FE × VH)) : kseq call nro (.seq a b) r = kseq call nro b (kseq call nro a r) := by
 match r with
 | none => rfl
 | some (.normal, e, h) => rw [kseq_normal, fcode_seq, kseq_normal]
 | some (.ret, e, h) => rfl
 | some (.exit i, e, h) => rfl
theorem kseq_parts (call : VCall) (nro : Nat) : ∀ (k : Nat) (c : FC) (r : Option (VX × FE × VH)), k + 1 ≤ nseq c → kseq call nro c r = kseq call nro (dropS (k + 1) c) (kseq call nro (takeS k c) r)
 | 0, .seq a b, r, _ => kseq_kseq call nro a b r
 | k + 1, .seq a b, r, h => by
  have h2 : k + 1 ≤ nseq b := by simp [nseq] at h; omega
  rw [kseq_kseq, kseq_parts call nro k b _ h2]
  show _ = kseq call nro (dropS (k + 1) b) (kseq call nro (.seq a (takeS k b)) r)
  rw [kseq_kseq]
theorem fcode_parts (call : VCall) (nro : Nat) (k : Nat) (c : FC) (e : FE) (h : VH) (hk : k + 1 ≤ nseq c) : fcode call nro c e h = kseq call nro (dropS (k + 1) c) (fcode call nro (takeS k c) e h) := by
 have := kseq_parts call nro k c (some (.normal, e, h)) hk
 rwa [kseq_normal, kseq_normal] at this
end

/- Sorting: by insertion. -/
section
open Go
variable {nro : Nat}
def swp (xs : List Int) (i j : Nat) : List Int := (xs.set i (xs.getD j 0)).set j (xs.getD i 0)
@[simp] theorem swp_length (xs : List Int) (i j : Nat) : (swp xs i j).length = xs.length := by simp [swp]
def insD (a : Nat) : Nat → List Int → List Int
 | 0, xs => xs
 | j + 1, xs => if a < j + 1 ∧ xs.getD (j + 1) 0 < xs.getD j 0 then insD a j (swp xs (j + 1) j) else xs
@[simp] theorem insD_length (a : Nat) : ∀ (j : Nat) (xs : List Int), (insD a j xs).length = xs.length
 | 0, _ => rfl
 | j + 1, xs => by
  rw [insD]
  split
  ·rw [insD_length a j, swp_length]
  ·rfl
def insS (a b : Nat) (xs : List Int) : List Int := upF (fun i xs => insD a i xs) b (a + 1) xs
theorem upF_len {f : Nat → List Int → List Int} (hf : ∀ i xs, (f i xs).length = xs.length) (n i : Nat) (xs : List Int) : (upF f n i xs).length = xs.length := by
  by_cases h : i < n
  · rw [upF_step h, upF_len hf n (i + 1), hf]
  · rw [upF_end h]
 termination_by n - i
@[simp] theorem insS_length (a b : Nat) (xs : List Int) : (insS a b xs).length = xs.length := upF_len (fun i xs => insD_length a i xs) b (a + 1) xs
def ws (blk N : Nat) : Value := .slice (some ⟨blk, 0, none⟩) N N
end

/- Sorting, as the library does it: what is sorted, told once. -/
section
open Go Go.Sort
def getI (d : Array Nat) (x : Int) : Nat := d[x.toNat]!
def setI (d : Array Nat) (x : Int) (v : Nat) : Array Nat := d.setIfInBounds x.toNat v
@[simp] theorem setI_size (d : Array Nat) (x : Int) (v : Nat) : (setI d x v).size = d.size := by simp [setI]
def swI (d : Array Nat) (x y : Int) : Array Nat := setI (setI d x (getI d y)) y (getI d x)
@[simp] theorem swI_size (d : Array Nat) (x y : Int) : (swI d x y).size = d.size := by simp [swI]
@[simp] theorem swp_size (d : Array Nat) (i j : Nat) : (Go.Sort.swp d i j).size = d.size := by simp [Go.Sort.swp]
end

/- Sorting: insertion. -/
section
open Go Go.Sort
variable {nro : Nat} {S C : Value} {P : Int → Value} {ag : Nat → Value} {cm : Nat → Nat → Int} {N : Nat} {H : Array Nat → VH}
@[simp] theorem insInner_size (lt : Nat → Nat → Bool) (a : Nat) : ∀ (j : Nat) (d : Array Nat), (insInner lt a j d).size = d.size
 | 0, d => rfl
 | j + 1, d => by
  unfold insInner
  split
  ·rw [insInner_size lt a j]; simp
  ·rfl
end

/- Groups: what tells them, their numbers of elements, their products. -/
section
open Go
variable {nro : Nat}
def gpB (K P : Int) : Prop := (K = 0 ∧ 1 ≤ P ∧ P ≤ 62) ∨ (K = 1 ∧ 1 ≤ P ∧ P ≤ 31) ∨ (K = 2 ∧ (P = 2 ∨ P = 3 ∨ P = 5 ∨ P = 7))
instance (K P : Int) : Decidable (gpB K P) := by unfold gpB; infer_instance
theorem wrN {a : Int} {r : Nat} (h : a = r) (h2 : r ≤ 100000) : IntKind.i64.wrap a = r := by rw [h]; exact wrap64 (by omega) (by omega)
end

/- Groups: inverses, codes, products, orders, as the two programs reckon them. -/
section
open Go
variable {nro : Nat}
def gin (K P x : Int) : Prop := 0 ≤ x ∧ x < (gord K.toNat P.toNat : Nat)
instance (K P x : Int) : Decidable (gin K P x) := by unfold gin; infer_instance
end

/- What is generated: plain. -/
section
open Go
inductive Gen (m : Nat → Nat → Nat) (ss : List Nat) : Nat → Prop
 | zero : Gen m ss 0
 | step (x s : Nat) : Gen m ss x → s ∈ ss → Gen m ss (m x s)
end

/- What is generated, by the reference. -/
section
open Go
variable {nro : Nat}
def btb (N : Nat) (p : Nat → Bool) : List Value := (List.range N).map fun x => .bool (p x)
@[simp] theorem btb_length (N : Nat) (p : Nat → Bool) : (btb N p).length = N := by simp [btb]
theorem btb_splice {N : Nat} {p : Nat → Bool} {i : Nat} {b : Bool} (hi : i < N) : splice i [.bool b] (btb N p) = btb N (fun x => if x = i then b else p x) := by
 unfold splice
 apply List.ext_getElem
 ·simp; omega
 ·intro q h1 h2
  have h3 : q < N := by simpa using h2
  by_cases e : q < i
  ·rw [List.getElem_append_left (by simp; omega), List.getElem_append_left (by simp; omega)]
   simp [btb]
   intro e2; omega
  ·by_cases e2 : q = i
   ·subst e2
    rw [List.getElem_append_left (by simp; omega), List.getElem_append_right (by simp; omega)]
    simp [btb]
   ·rw [List.getElem_append_right (by simp; omega)]
    simp [btb, e2]
    congr 1
    simp at *
    omega
theorem btb_const (N : Nat) (b : Bool) : btb N (fun _ => b) = List.replicate N (.bool b) := by
 apply List.ext_getElem <;> simp [btb]
theorem flatO_btb (q z N : Nat) (p : Nat → Bool) : flatO q ⟨z, btb N p⟩ := by
 intro r hr
 unfold orefs at hr
 obtain ⟨c, hc, hr⟩ := List.mem_flatMap.mp hr
 unfold btb at hc
 obtain ⟨x, _, rfl⟩ := List.mem_map.mp hc
 simp [crefs, arefs] at hr
end

/- Walk girths by the reference. -/
section
open Go
variable {nro : Nat}
def Tb (m K : Nat) (p : Nat → Bool) (S : Nat → Nat → Prop) : Prop := ∀ x, x < K → (p x = true ↔ S (x / m) (x % m))
theorem place_div {m t j : Nat} (hj : j < m) : (t * m + j) / m = t ∧ (t * m + j) % m = j := by
 have hm : 0 < m := by omega
 rw [Nat.mul_comm]
 exact ⟨by rw [Nat.mul_add_div hm, Nat.div_eq_of_lt hj]; rfl, by rw [Nat.mul_add_mod, Nat.mod_eq_of_lt hj]⟩
theorem place_eq {m t j x : Nat} (hj : j < m) : x = t * m + j ↔ x / m = t ∧ x % m = j := by
 constructor
 ·rintro rfl; exact place_div hj
 ·rintro ⟨h1, h2⟩
  have := Nat.div_add_mod x m
  rw [h1, h2, Nat.mul_comm] at this
  exact this.symm
section
variable {N : Int} {M : Nat} {A : List Ar} {s : Value} {H : VH} {b0 : Nat}
theorem l_zz38_1 (B : IsB N M A) (hs : SlA H s A) (hn : nro ≤ H.length) (hb : H[b0]? = some ⟨0, [.int .i64 N, .int .i64 M, s]⟩) (w : Value) (hw : Old H.length w) (best first from_ k xx : Int) (fo : Bool) (st sm : Nat) (hst : st < 2 * A.length) (hsm : sm < M)
  (p0 : Nat → Bool) (S0 : Nat → Nat → Prop) (K : Nat) (hK : K = 2 * A.length * M) (h0 : Tb M K p0 S0) :
  ∃ p, Tb M K p (fun t j => S0 t j ∨ (nxt2 A st t ∧ j = (sm + sN M A t) % M)) ∧
  floop (vcall F nro) nro [1, 3, 4, 5, 6, 7, 10, 11, 12, 13, 14, 16, 18, 20, 21] i_zz38_B1 (H ++ [⟨1, btb K p0⟩]) [.pointer (some ⟨b0, 0, some 3⟩), .int .i64 ((2 * A.length : Nat) : Int), .int .i64 M, .int .i64 best, .int .i64 first, .int .i64 from_, w, .int .i64 k, .slice (some ⟨H.length, 0, none⟩) K K, .bool fo, .int .i64 xx, .int .i64 sm, .int .i64 (sT A st), .int .i64 (back st), .int .i64 0] (H ++ [⟨1, btb K p0⟩]) =
   some (.exit 6, fl [(1, .pointer (some ⟨b0, 0, some 3⟩)), (3, .int .i64 ((2 * A.length : Nat) : Int)), (4, .int .i64 M), (5, .int .i64 best), (6, .int .i64 first), (7, .int .i64 from_), (10, w), (11, .int .i64 k), (12, .slice (some ⟨H.length, 0, none⟩) K K), (13, .bool fo), (14, .int .i64 xx)], H ++ [⟨1, btb K p⟩]) := by
 have hn' := fun k => Nat.le_trans hn (Nat.le_add_right H.length k)
 have hwk := fun k => hw.le (Nat.le_add_right H.length k)
 have hnj := hs.nj
 have hb0 : b0 < H.length := (List.getElem?_eq_some_iff.mp hb).1
 have hb' : ∀ L : VH, (H ++ L)[b0]? = some ⟨0, [.int .i64 N, .int .i64 M, s]⟩ := fun L => by rw [List.getElem?_append_left hb0]; exact hb
 have hlen := B.len
 have m1 := B.m1
 have m2 := B.m2
 have hM : M ≤ 62 := by omega
 have hnn : ¬ H.length < nro := by omega
 have hKb : K ≤ 32 * 62 := by rw [hK]; exact Nat.mul_le_mul (by omega) hM
 obtain ⟨L2, hL2⟩ : ∃ L2, L2 = 2 * A.length := ⟨_, rfl⟩
 have hL32 : L2 ≤ 32 := by omega
 refine Exists.elim (for_upR (call := vcall F nro) (nro := nro) (live := [1, 3, 4, 5, 6, 7, 10, 11, 12, 13, 14, 16, 18, 20, 21]) (c := i_zz38_B1) (h0 := H ++ [⟨1, btb K p0⟩]) (n := 2 * A.length)
  (fun t (_ : Nat → Bool) => [.pointer (some ⟨b0, 0, some 3⟩), .int .i64 ((2 * A.length : Nat) : Int), .int .i64 M, .int .i64 best, .int .i64 first, .int .i64 from_, w, .int .i64 k, .slice (some ⟨H.length, 0, none⟩) K K, .bool fo, .int .i64 xx, .int .i64 sm, .int .i64 (sT A st), .int .i64 (back st), .int .i64 t])
  (fun _ p => H ++ [⟨1, btb K p⟩]) (fun q p => Tb M K p (fun t j => S0 t j ∨ (t < q ∧ nxt2 A st t ∧ j = (sm + sN M A t) % M)))
  (fun p => some (.exit 6, fl [(1, .pointer (some ⟨b0, 0, some 3⟩)), (3, .int .i64 ((2 * A.length : Nat) : Int)), (4, .int .i64 M), (5, .int .i64 best), (6, .int .i64 first), (7, .int .i64 from_), (10, w), (11, .int .i64 k), (12, .slice (some ⟨H.length, 0, none⟩) K K), (13, .bool fo), (14, .int .i64 xx)], H ++ [⟨1, btb K p⟩])) ?_ ?_ 0 p0 (Nat.zero_le _) (fun x hx => (h0 x hx).trans (by simp))) ?_
 ·intro t p ht ht2 hI
  have hstep := fun L => c_zz61 (nro := nro) (n := N) (m := M) (st := t) (h := H ++ L) B (hs.app L) (by simp; omega) ht
  obtain ⟨v1, v2⟩ := B.sV ht
  obtain ⟨v, hv⟩ : ∃ v : Nat, sV M A t = v := ⟨(sV M A t).toNat, by omega⟩
  have hvn : sN M A t = v := by unfold sN; rw [hv, Int.toNat_natCast]
  rw [hv] at v2 hstep
  have w3 : IntKind.i64.wrap ((t : Int) + 1) = (t : Int) + 1 := wrap64 (by omega) (by omega)
  have w4 : IntKind.i64.wrap ((sm : Int) + v) = (sm : Int) + v := wrap64 (by omega) (by omega)
  obtain ⟨Z, hZ⟩ : ∃ Z, Z = (sm + v) % M := ⟨_, rfl⟩
  have hZM : Z < M := by rw [hZ]; exact Nat.mod_lt _ (by omega)
  have rm : ((sm : Int) + (v : Int)).tmod M = (Z : Int) := by
   rw [Int.tmod_eq_emod_of_nonneg (by omega), hZ, Int.natCast_emod, Int.natCast_add]
  obtain ⟨T, hT⟩ : ∃ T : Nat, T = t * M := ⟨_, rfl⟩
  have eT : (t : Int) * M = (T : Int) := by rw [hT, Int.natCast_mul]
  have hTK : T + Z < K := by rw [hT, hK]; exact plc_lt ht hZM
  have w5 : IntKind.i64.wrap (T : Int) = T := wrap64 (by omega) (by omega)
  have w6 : IntKind.i64.wrap ((T : Int) + Z) = (T : Int) + Z := wrap64 (by omega) (by omega)
  have tz : ((T : Int) + Z).toNat = T + Z := by omega
  have tz2 : (T : Int) + Z < K := by omega
  have tz3 : 0 ≤ (T : Int) + Z := by omega
  have t2 := btb_splice (p := p) (b := true) hTK
  have c0 : ¬ M = 0 := by omega
  by_cases c : nxt2 A st t
  ·refine ⟨fun x => if x = T + Z then true else p x, fun x hx => ?_, ?_⟩
   ·dsimp only
    by_cases e : x = T + Z
    ·rw [if_pos e]
     obtain ⟨e1, e2⟩ := (place_eq (m := M) (t := t) (x := x) hZM).mp (by rw [e, hT])
     rw [e1, e2]
     exact ⟨fun _ => .inr ⟨by omega, c, by rw [hvn]; exact hZ⟩, fun _ => rfl⟩
    ·rw [if_neg e, hI x hx]
     refine or_congr_right ⟨fun ⟨a1, a2⟩ => ⟨by omega, a2⟩, fun ⟨a1, a2, a3⟩ => ⟨?_, a2, a3⟩⟩
     have : x / M ≠ t := by
      intro e1
      rw [e1, hvn, ← hZ] at a3
      exact e (by rw [hT]; exact (place_eq hZM).mpr ⟨e1, a3⟩)
     omega
   ·obtain ⟨c1, c2⟩ := c
    have c2' : ¬ (t : Int) = back st := by omega
    rw [floop_at i_zz38_B1.eq_1]
    rw [← hL2] at ht ht2 ⊢
    have hbl := btb_length K p
    have hfl := fun q => flatO_btb q 1 K p
    have hbl2 := btb_length K (fun x => if x = T + Z then true else p x)
    have hfl2 := fun q => flatO_btb q 1 K (fun x => if x = T + Z then true else p x)
    generalize btb K (fun x => if x = T + Z then true else p x) = cs2 at *
    generalize btb K p = cs at *
    generalize sF A t = f1 at *
    generalize sT A t = f2 at *
    generalize sT A st = f3 at *
    generalize back st = bk at *
    clear hI hs B h0 hv hvn hL2 hlen hT hZ hK hKb
    simp (disch := first | assumption | omega | (simp [*] <;> omega) | fail) [-getElem?_pos, List.getElem?_cons_zero, List.getElem?_cons_succ, ht, ht2, hb', hstep, c1, c2, c2', w3, w4, w5, w6, rm, eT, tz, tz2, tz3, c0, hn', hwk, hbl, hbl2, t2, hn, hnn, hTK, hfl, hfl2]
  ·refine ⟨p, fun x hx => (hI x hx).trans (or_congr_right ⟨fun ⟨a1, a2⟩ => ⟨by omega, a2⟩, fun ⟨a1, a2, a3⟩ => ⟨?_, a2, a3⟩⟩), ?_⟩
   ·have : x / M ≠ t := by
     intro e1
     rw [e1] at a2
     exact c a2
    omega
   ·rw [floop_at i_zz38_B1.eq_1]
    rw [← hL2] at ht ht2 ⊢
    have hbl := btb_length K p
    have hfl := fun q => flatO_btb q 1 K p
    generalize btb K p = cs at *
    by_cases c1 : sF A t = sT A st
    ·have c2 : t = back st := Classical.byContradiction fun h => c ⟨c1, h⟩
     generalize sF A t = f1 at *
     generalize sT A t = f2 at *
     generalize sT A st = f3 at *
     generalize back st = bk at *
     clear hI hs B h0 hv hvn hL2 hlen hT hZ hK hKb c t2
     subst c2
     simp (disch := first | assumption | omega | (simp [*] <;> omega) | fail) [-getElem?_pos, List.getElem?_cons_zero, List.getElem?_cons_succ, ht, ht2, hb', hstep, c1, w3, hn', hwk, hbl, hfl]
    ·generalize sF A t = f1 at *
     generalize sT A t = f2 at *
     generalize sT A st = f3 at *
     generalize back st = bk at *
     clear hI hs B h0 hv hvn hL2 hlen hT hZ hK hKb c t2
     simp (disch := first | assumption | omega | (simp [*] <;> omega) | fail) [-getElem?_pos, List.getElem?_cons_zero, List.getElem?_cons_succ, ht, ht2, hb', hstep, c1, w3, hn', hwk, hbl, hfl]
 ·intro p hI
  have hbl := btb_length K p
  generalize btb K p = cs at *
  rw [floop_at i_zz38_B1.eq_1]
  rw [← hL2]
  clear hI hs B h0 hL2 hlen hK
  simp (disch := first | assumption | omega | (simp [*] <;> omega) | fail) [-getElem?_pos, List.getElem?_cons_zero, List.getElem?_cons_succ, hn', hwk, hbl]
 ·rintro p ⟨i1, i2⟩
  refine ⟨p, fun x hx => (i1 x hx).trans (or_congr_right ⟨fun h => h.2, fun h => ⟨?_, h⟩⟩), i2⟩
  rw [hK] at hx
  exact Nat.div_lt_of_lt_mul (by rw [Nat.mul_comm]; exact hx)
theorem l_zz38_2 (B : IsB N M A) (hs : SlA H s A) (hn : nro ≤ H.length) (hb : H[b0]? = some ⟨0, [.int .i64 N, .int .i64 M, s]⟩) (w : Value) (K : Nat) (hK : K = 2 * A.length * M) (q : Nat → Bool) (hw : Sl H w (btb K q)) (best k : Int) (first : Nat) :
  ∃ a : Bool × (Nat → Bool), (Tb M K a.2 (fun t j => ∃ x, x < K ∧ q x = true ∧ nxt2 A (x / M) t ∧ j = (x % M + sN M A t) % M) ∧ (a.1 = true ↔ ∃ x, x < K ∧ q x = true ∧ sT A (x / M) = sF A first ∧ x % M = 0 ∧ back (x / M) ≠ first)) ∧
  floop (vcall F nro) nro [1, 3, 4, 5, 6, 7, 10, 11, 12, 13, 14] i_zz38_B2 (H ++ [⟨1, btb K (fun _ => false)⟩]) [.pointer (some ⟨b0, 0, some 3⟩), .int .i64 ((2 * A.length : Nat) : Int), .int .i64 M, .int .i64 best, .int .i64 first, .int .i64 (sF A first), w, .int .i64 k, .slice (some ⟨H.length, 0, none⟩) K K, .bool false, .int .i64 0] (H ++ [⟨1, btb K (fun _ => false)⟩]) =
   some (.exit 4, fl [(1, .pointer (some ⟨b0, 0, some 3⟩)), (3, .int .i64 ((2 * A.length : Nat) : Int)), (4, .int .i64 M), (5, .int .i64 best), (6, .int .i64 first), (7, .int .i64 (sF A first)), (11, .int .i64 k), (12, .slice (some ⟨H.length, 0, none⟩) K K), (13, .bool a.1)], H ++ [⟨1, btb K a.2⟩]) := by
 have hn' := fun k => Nat.le_trans hn (Nat.le_add_right H.length k)
 have hwk := fun k => hw.old.le (Nat.le_add_right H.length k)
 have hwo := hw.old
 have hnj := hs.nj
 have hb0 : b0 < H.length := (List.getElem?_eq_some_iff.mp hb).1
 have hb' : ∀ L : VH, (H ++ L)[b0]? = some ⟨0, [.int .i64 N, .int .i64 M, s]⟩ := fun L => by rw [List.getElem?_append_left hb0]; exact hb
 have hlen := B.len
 have m1 := B.m1
 have m2 := B.m2
 have hM : M ≤ 62 := by omega
 have hKb : K ≤ 32 * 62 := by rw [hK]; exact Nat.mul_le_mul (by omega) hM
 have eK : ((2 * A.length : Nat) : Int) * (M : Int) = (K : Int) := by rw [hK]; exact (Int.natCast_mul _ _).symm
 have wK : IntKind.i64.wrap (K : Int) = K := wrap64 (by omega) (by omega)
 refine Exists.elim (for_upR (call := vcall F nro) (nro := nro) (live := [1, 3, 4, 5, 6, 7, 10, 11, 12, 13, 14]) (c := i_zz38_B2) (h0 := H ++ [⟨1, btb K (fun _ => false)⟩]) (n := K)
  (fun x (a : Bool × (Nat → Bool)) => [.pointer (some ⟨b0, 0, some 3⟩), .int .i64 ((2 * A.length : Nat) : Int), .int .i64 M, .int .i64 best, .int .i64 first, .int .i64 (sF A first), w, .int .i64 k, .slice (some ⟨H.length, 0, none⟩) K K, .bool a.1, .int .i64 x])
  (fun _ a => H ++ [⟨1, btb K a.2⟩]) (fun y a => Tb M K a.2 (fun t j => ∃ x, x < y ∧ q x = true ∧ nxt2 A (x / M) t ∧ j = (x % M + sN M A t) % M) ∧ (a.1 = true ↔ ∃ x, x < y ∧ q x = true ∧ sT A (x / M) = sF A first ∧ x % M = 0 ∧ back (x / M) ≠ first))
  (fun a => some (.exit 4, fl [(1, .pointer (some ⟨b0, 0, some 3⟩)), (3, .int .i64 ((2 * A.length : Nat) : Int)), (4, .int .i64 M), (5, .int .i64 best), (6, .int .i64 first), (7, .int .i64 (sF A first)), (11, .int .i64 k), (12, .slice (some ⟨H.length, 0, none⟩) K K), (13, .bool a.1)], H ++ [⟨1, btb K a.2⟩])) ?_ ?_ 0 (false, fun _ => false) (Nat.zero_le _) ⟨fun x hx => ⟨fun h => (by cases h), fun ⟨_, h, _⟩ => by omega⟩, ⟨fun h => (by cases h), fun ⟨_, h, _⟩ => by omega⟩⟩) ?_
 ·rintro x ⟨fo, p⟩ hx hx2 ⟨hI, hfo⟩
  dsimp only at hI hfo ⊢
  have hxl : x < (btb K q).length := by rw [btb_length]; exact hx
  have t1 := fun L => (Sl.vidx' (L := L) hw (k := .i64) (j := (x : Int)) (by omega) (by rw [btb_length]; exact hx2))
  have t2 := fun L => (Sl.vload' (L := L) hw hxl)
  have tq : (btb K q)[x] = .bool (q x) := by simp [btb]
  rw [tq] at t2
  simp only [Int.toNat_natCast] at t1
  have w3 : IntKind.i64.wrap ((x : Int) + 1) = (x : Int) + 1 := wrap64 (by omega) (by omega)
  have hbl := btb_length K p
  have hfl := fun z => flatO_btb z 1 K p
  have hflc := fun z => flatO_btb z 1 K (fun _ => false)
  by_cases c : q x = true
  ·have hst : x / M < 2 * A.length := by
    rw [hK] at hx
    exact Nat.div_lt_of_lt_mul (by rw [Nat.mul_comm]; exact hx)
   have hsm : x % M < M := Nat.mod_lt _ (by omega)
   have hstep := fun L => c_zz61 (nro := nro) (n := N) (m := M) (st := x / M) (h := H ++ L) B (hs.app L) (by simp; omega) hst
   have hbk : back (x / M) < 2 * A.length := back_lt hst
   have q1 : (x : Int).tdiv M = ((x / M : Nat) : Int) := by rw [Int.tdiv_eq_ediv_of_nonneg (by omega), Int.natCast_ediv]
   have q2 : (x : Int).tmod M = ((x % M : Nat) : Int) := by rw [Int.tmod_eq_emod_of_nonneg (by omega), Int.natCast_emod]
   let D : Prop := sT A (x / M) = sF A first ∧ x % M = 0 ∧ back (x / M) ≠ first
   obtain ⟨fo', hfo'⟩ : ∃ fo' : Bool, fo' = true ↔ (fo = true ∨ D) := by
    by_cases d : fo = true ∨ D
    ·exact ⟨true, fun _ => d, fun _ => rfl⟩
    ·exact ⟨false, fun h => (by cases h), fun h => absurd h d⟩
   obtain ⟨p', i1, i2⟩ := l_zz38_1 (nro := nro) B hs hn hb w hwo best first (sF A first) k x fo' (x / M) (x % M) hst hsm p _ K hK hI
   refine ⟨(fo', p'), ⟨fun z hz => (i1 z hz).trans ?_, ?_⟩, ?_⟩
   ·constructor
    ·rintro (⟨x', a1, a2⟩ | ⟨a1, a2⟩)
     ·exact ⟨x', by omega, a2⟩
     ·exact ⟨x, by omega, c, a1, a2⟩
    ·rintro ⟨x', a1, a2, a3, a4⟩
     by_cases e : x' = x
     ·subst e; exact .inr ⟨a3, a4⟩
     ·exact .inl ⟨x', by omega, a2, a3, a4⟩
   ·dsimp only
    rw [hfo', hfo]
    constructor
    ·rintro (⟨x', a1, a2⟩ | a1)
     ·exact ⟨x', by omega, a2⟩
     ·exact ⟨x, by omega, c, a1⟩
    ·rintro ⟨x', a1, a2, a3⟩
     by_cases e : x' = x
     ·subst e; exact .inr a3
     ·exact .inl ⟨x', by omega, a2, a3⟩
   ·dsimp only
    rw [c] at t2
    have hbl2 := btb_length K p'
    have hfl2 := fun z => flatO_btb z 1 K p'
    have key : ∀ st : Nat, ∃ r : Nat, (st : Int).tmod 2 = (r : Int) ∧ (st : Int) + 1 - 2 * (r : Int) = (back st : Int) ∧ r ≤ 1 := by
     intro st
     refine ⟨st % 2, by rw [Int.tmod_eq_emod_of_nonneg (by omega)]; omega, ?_, by omega⟩
     unfold back
     split <;> omega
    have bk := key (x / M)
    clear key
    obtain ⟨r, r1, r2, r3⟩ := bk
    have hnf : (fo = true ∨ (sT A (x / M) = sF A first ∧ x % M = 0 ∧ back (x / M) ≠ first)) ↔ fo' = true := hfo'.symm
    clear_value D
    obtain ⟨L2, hL2⟩ : ∃ L2, L2 = 2 * A.length := ⟨_, rfl⟩
    have c0 : ¬ M = 0 := by omega
    have hL32 : L2 ≤ 32 := by omega
    rw [← hL2] at i2 hst hbk ⊢
    simp only [← hL2] at eK
    generalize btb K p' = cs2 at *
    generalize btb K p = cs at *
    generalize btb K (fun _ => false) = cs0 at *
    generalize sF A (x / M) = f1 at *
    generalize sT A (x / M) = f2 at *
    generalize sV M A (x / M) = f3 at *
    generalize sF A first = f4 at *
    generalize back (x / M) = bk at *
    generalize x / M = st at *
    generalize x % M = sm at *
    have wst : IntKind.i64.wrap (st : Int) = st := wrap64 (by omega) (by omega)
    have w5 : IntKind.i64.wrap ((st : Int) + 1) = (st : Int) + 1 := wrap64 (by omega) (by omega)
    have w6 : IntKind.i64.wrap (2 * (r : Int)) = 2 * (r : Int) := wrap64 (by omega) (by omega)
    have w7 : IntKind.i64.wrap (bk : Int) = bk := wrap64 (by omega) (by omega)
    clear hs B hw hI hfo hfo' i1 hL2 hlen hK hKb tq hxl c r3 hbl hfl
    conv => lhs; rw [floop_at i_zz38_B2.eq_1]
    cases fo
    ·by_cases c1 : f2 = f4
     ·by_cases c2 : sm = 0
      ·by_cases c3 : bk = first
       ·have hf0 : fo' = false := by
         rw [← Bool.not_eq_true, ← hnf]
         rintro (h | h)
         ·cases h
         ·exact h.2.2 c3
        subst hf0
        clear hnf
        subst c1; subst c2; subst c3
        rw [show ((0 : Nat) : Int) = 0 from rfl] at i2 q2
        simp (disch := first | assumption | omega | (simp [*] <;> omega) | fail) [-getElem?_pos, List.getElem?_cons_zero, List.getElem?_cons_succ, hx, hx2, eK, wK, t1, t2, q1, q2, wst, hb', hstep, r1, w5, w6, r2, w7, c0, i2, w3, hn', hwk, hwo, hbl2, hfl2, hflc]
       ·have hf0 : fo' = true := hnf.mp (.inr ⟨c1, c2, c3⟩)
        subst hf0
        have c3' : ¬ (bk : Int) = first := by omega
        clear hnf
        subst c1; subst c2
        rw [show ((0 : Nat) : Int) = 0 from rfl] at i2 q2
        simp (disch := first | assumption | omega | (simp [*] <;> omega) | fail) [-getElem?_pos, List.getElem?_cons_zero, List.getElem?_cons_succ, hx, hx2, eK, wK, t1, t2, q1, q2, wst, hb', hstep, r1, w5, w6, r2, w7, c0, c3, c3', i2, w3, hn', hwk, hwo, hbl2, hfl2, hflc]
      ·have hf0 : fo' = false := by
        rw [← Bool.not_eq_true, ← hnf]
        rintro (h | h)
        ·cases h
        ·exact c2 h.2.1
       subst hf0
       clear hnf
       subst c1
       simp (disch := first | assumption | omega | (simp [*] <;> omega) | fail) [-getElem?_pos, List.getElem?_cons_zero, List.getElem?_cons_succ, hx, hx2, eK, wK, t1, t2, q1, q2, wst, hb', hstep, r1, w5, w6, r2, w7, c0, c2, i2, w3, hn', hwk, hwo, hbl2, hfl2, hflc]
     ·have hf0 : fo' = false := by
       rw [← Bool.not_eq_true, ← hnf]
       rintro (h | h)
       ·cases h
       ·exact c1 h.1
      subst hf0
      clear hnf
      simp (disch := first | assumption | omega | (simp [*] <;> omega) | fail) [-getElem?_pos, List.getElem?_cons_zero, List.getElem?_cons_succ, hx, hx2, eK, wK, t1, t2, q1, q2, wst, hb', hstep, r1, w5, w6, r2, w7, c0, c1, i2, w3, hn', hwk, hwo, hbl2, hfl2, hflc]
    ·have hf0 : fo' = true := hnf.mp (.inl rfl)
     subst hf0
     clear hnf
     simp (disch := first | assumption | omega | (simp [*] <;> omega) | fail) [-getElem?_pos, List.getElem?_cons_zero, List.getElem?_cons_succ, hx, hx2, eK, wK, t1, t2, q1, q2, wst, hb', hstep, r1, w5, w6, r2, w7, c0, i2, w3, hn', hwk, hwo, hbl2, hfl2, hflc]
  ·refine ⟨(fo, p), ⟨fun z hz => (hI z hz).trans ?_, hfo.trans ?_⟩, ?_⟩
   ·constructor
    ·rintro ⟨x', a1, a2⟩; exact ⟨x', by omega, a2⟩
    ·rintro ⟨x', a1, a2⟩
     have : x' ≠ x := by rintro rfl; exact c a2.1
     exact ⟨x', by omega, a2⟩
   ·constructor
    ·rintro ⟨x', a1, a2⟩; exact ⟨x', by omega, a2⟩
    ·rintro ⟨x', a1, a2⟩
     have : x' ≠ x := by rintro rfl; exact c a2.1
     exact ⟨x', by omega, a2⟩
   ·dsimp only
    rw [Bool.not_eq_true] at c
    rw [c] at t2
    obtain ⟨L2, hL2⟩ : ∃ L2, L2 = 2 * A.length := ⟨_, rfl⟩
    rw [← hL2]
    simp only [← hL2] at eK
    generalize btb K p = cs at *
    generalize btb K (fun _ => false) = cs0 at *
    clear hs B hw hI hfo hL2 hlen hK hKb tq hxl c
    rw [floop_at i_zz38_B2.eq_1]
    simp (disch := first | assumption | omega | (simp [*] <;> omega) | fail) [-getElem?_pos, List.getElem?_cons_zero, List.getElem?_cons_succ, hx, hx2, eK, wK, t1, t2, w3, hn', hwk, hwo, hbl, hfl, hflc]
 ·rintro ⟨fo, p⟩ _
  have hbl := btb_length K p
  dsimp only
  generalize btb K p = cs at *
  obtain ⟨L2, hL2⟩ : ∃ L2, L2 = 2 * A.length := ⟨_, rfl⟩
  rw [← hL2]
  simp only [← hL2] at eK
  clear hs B hw hL2 hlen hK
  rw [floop_at i_zz38_B2.eq_1]
  simp (disch := first | assumption | omega | (simp [*] <;> omega) | fail) [-getElem?_pos, List.getElem?_cons_zero, List.getElem?_cons_succ, eK, wK]
 ·rintro a ⟨i1, i2⟩
  exact ⟨a, i1, i2⟩
end
end

/- Walk girths by the reference: the whole. -/
section
open Go
variable {nro : Nat}
def bI (b : Nat) : Int := if b = 15 then 0 else b
theorem Rc_lt {m : Nat} {A : List Ar} {first : Nat} (hm : 1 ≤ m) (hs : sN m A first < m) : ∀ {k t j : Nat}, Rc m A first k t j → j < m
 | 0, _, _, h => by rw [h.2]; exact hs
 | k + 1, _, _, ⟨_, _, _, _, _, h⟩ => by rw [h]; exact Nat.mod_lt _ (by omega)
section
variable {N : Int} {M : Nat} {A : List Ar} {s : Value} {Hb : VH} {b0 : Nat}
theorem l_zz38_3s (B : IsB N M A) (hs : SlA Hb s A) (hn : nro ≤ Hb.length) (hb : Hb[b0]? = some ⟨0, [.int .i64 N, .int .i64 M, s]⟩) (L : VH) (w : Value) (K : Nat) (hK : K = 2 * A.length * M) (q : Nat → Bool) (S : Nat → Nat → Prop) (hw : Sl (Hb ++ L) w (btb K q)) (hS : Tb M K q S) (hSl : ∀ t j, S t j → j < M)
  (first : Nat) (b k : Nat) (hb1 : 1 ≤ b) (hb2 : b ≤ 15) (hk0 : 1 ≤ k) (hk : k < b) :
  (fnd0 A first S → ∃ L', floop (vcall F nro) nro [1, 3, 4, 5, 6, 7, 10, 11] i_zz38_B3 Hb [.pointer (some ⟨b0, 0, some 3⟩), .int .i64 ((2 * A.length : Nat) : Int), .int .i64 M, .int .i64 (bI b), .int .i64 first, .int .i64 (sF A first), w, .int .i64 k] (Hb ++ L) =
   some (.exit 2, fl [(1, .pointer (some ⟨b0, 0, some 3⟩)), (3, .int .i64 ((2 * A.length : Nat) : Int)), (4, .int .i64 M), (5, .int .i64 k), (6, .int .i64 first)], Hb ++ L')) ∧
  (¬ fnd0 A first S → ∃ q', Tb M K q' (fun t j => ∃ st i, st < 2 * A.length ∧ S st i ∧ nxt2 A st t ∧ j = (i + sN M A t) % M) ∧
   floop (vcall F nro) nro [1, 3, 4, 5, 6, 7, 10, 11] i_zz38_B3 Hb [.pointer (some ⟨b0, 0, some 3⟩), .int .i64 ((2 * A.length : Nat) : Int), .int .i64 M, .int .i64 (bI b), .int .i64 first, .int .i64 (sF A first), w, .int .i64 k] (Hb ++ L) =
   floop (vcall F nro) nro [1, 3, 4, 5, 6, 7, 10, 11] i_zz38_B3 Hb [.pointer (some ⟨b0, 0, some 3⟩), .int .i64 ((2 * A.length : Nat) : Int), .int .i64 M, .int .i64 (bI b), .int .i64 first, .int .i64 (sF A first), .slice (some ⟨Hb.length, 0, none⟩) K K, .int .i64 ((k : Int) + 1)] (Hb ++ [⟨1, btb K q'⟩])) := by
 have hnH : nro ≤ (Hb ++ L).length := by simp; omega
 have hb0 : b0 < Hb.length := (List.getElem?_eq_some_iff.mp hb).1
 have hbH : (Hb ++ L)[b0]? = some ⟨0, [.int .i64 N, .int .i64 M, s]⟩ := by rw [List.getElem?_append_left hb0]; exact hb
 have m1 := B.m1
 have m2 := B.m2
 have hlen := B.len
 have hM : M ≤ 62 := by omega
 have hKb : K ≤ 32 * 62 := by rw [hK]; exact Nat.mul_le_mul (by omega) hM
 have eK : ((2 * A.length : Nat) : Int) * (M : Int) = (K : Int) := by rw [hK]; exact (Int.natCast_mul _ _).symm
 have wK : IntKind.i64.wrap (K : Int) = K := wrap64 (by omega) (by omega)
 obtain ⟨⟨fo, q'⟩, ⟨h1, h2⟩, l2⟩ := l_zz38_2 (nro := nro) B (hs.app L) hnH hbH w K hK q hw (bI b) k first
 dsimp only at h1 h2 l2
 have hst : ∀ x, x < K → x / M < 2 * A.length := fun x hx => by
  rw [hK] at hx
  exact Nat.div_lt_of_lt_mul (by rw [Nat.mul_comm]; exact hx)
 have hfo : fo = true ↔ fnd0 A first S := by
  rw [h2]
  constructor
  ·rintro ⟨x, a1, a2, a3, a4, a5⟩
   have := (hS x a1).mp a2
   rw [a4] at this
   exact ⟨x / M, hst x a1, this, a3, a5⟩
  ·rintro ⟨st, a1, a2, a3, a4⟩
   obtain ⟨e1, e2⟩ := place_div (m := M) (t := st) (j := 0) (by omega)
   have hx : st * M + 0 < K := by rw [hK]; exact plc_lt a1 (by omega)
   exact ⟨st * M + 0, hx, (hS _ hx).mpr (by rw [e1, e2]; exact a2), by rw [e1]; exact a3, e2, by rw [e1]; exact a4⟩
 have h1' : Tb M K q' (fun t j => ∃ st i, st < 2 * A.length ∧ S st i ∧ nxt2 A st t ∧ j = (i + sN M A t) % M) := fun z hz => (h1 z hz).trans (by
  constructor
  ·rintro ⟨x, a1, a2, a3, a4⟩
   exact ⟨x / M, x % M, hst x a1, (hS x a1).mp a2, a3, a4⟩
  ·rintro ⟨st, i, a1, a2, a3, a4⟩
   have hi := hSl st i a2
   obtain ⟨e1, e2⟩ := place_div (m := M) (t := st) hi
   have hx : st * M + i < K := by rw [hK]; exact plc_lt a1 hi
   exact ⟨st * M + i, hx, (hS _ hx).mpr (by rw [e1, e2]; exact a2), by rw [e1]; exact a3, by rw [e2]; exact a4⟩)
 have k2 : (K : Int) ≤ 140737488355328 := by omega
 have e0 : List.replicate K (Value.bool false) = btb K (fun _ => false) := (btb_const K false).symm
 have w3 : IntKind.i64.wrap ((k : Int) + 1) = (k : Int) + 1 := wrap64 (by omega) (by omega)
 have hfl := fun z => flatO_btb z 1 K q'
 have hc := clean_mid (h := Hb) (L := L ++ [⟨1, btb K q'⟩]) (A := [.pointer (some ⟨b0, 0, some 3⟩), .int .i64 ((2 * A.length : Nat) : Int), .int .i64 M, .int .i64 (bI b), .int .i64 first, .int .i64 (sF A first)]) (B := [.int .i64 ((k : Int) + 1)]) (k := L.length) (off := 0) (n := K) (t := K) (o := ⟨1, btb K q'⟩) (by intro v hv; simp at hv; rcases hv with rfl | rfl | rfl | rfl | rfl | rfl <;> simp [hb0]) (by intro v hv; simp at hv; subst hv; simp) (by simp) (hfl _)
 rw [← List.append_assoc, ← List.length_append] at hc
 have hbl := btb_length K q'
 have hbl0 := btb_length K (fun _ => false)
 have hwk := fun k => hw.old.le (Nat.le_add_right (Hb ++ L).length k)
 have hwo := hw.old
 obtain ⟨L2, hL2⟩ : ∃ L2, L2 = 2 * A.length := ⟨_, rfl⟩
 rw [← hL2] at eK l2 hc
 have ck : (k : Int) ≤ 14 := by omega
 have cb : bI b = 0 ∨ (¬ bI b = 0 ∧ (k : Int) < bI b) := by
  unfold bI
  split
  ·exact .inl rfl
  ·exact .inr ⟨by omega, by omega⟩
 constructor
 ·intro c
  have hf1 := hfo.mpr c
  subst hf1
  rw [← hL2]
  refine ⟨L ++ [⟨1, btb K q'⟩], ?_⟩
  rw [← List.append_assoc]
  generalize hHk : Hb ++ L = Hk at *
  generalize bI b = bi at *
  generalize btb K q' = cs at *
  generalize btb K (fun _ => false) = cs0 at *
  clear hw hS hHk hc h1 h1' h2 hfo B hs c hK hKb hL2 hlen hst
  rw [floop_at i_zz38_B3.eq_1]
  rcases cb with c1 | ⟨c1, c2⟩
  ·rw [c1] at l2
   simp (disch := first | assumption | omega | (simp [*] <;> omega) | fail) [-getElem?_pos, List.getElem?_cons_zero, List.getElem?_cons_succ, ck, c1, eK, wK, k2, e0, l2, hwk, hwo, hbl0]
  ·simp (disch := first | assumption | omega | (simp [*] <;> omega) | fail) [-getElem?_pos, List.getElem?_cons_zero, List.getElem?_cons_succ, ck, c1, c2, eK, wK, k2, e0, l2, hwk, hwo, hbl0]
 ·intro c
  have hf1 : fo = false := by rw [← Bool.not_eq_true]; exact fun h => c (hfo.mp h)
  subst hf1
  refine ⟨q', h1', ?_⟩
  rw [← hL2]
  have hHl : (Hb ++ L).length = Hb.length + L.length := List.length_append
  generalize hHk : Hb ++ L = Hk at *
  generalize bI b = bi at *
  generalize btb K q' = cs at *
  generalize btb K (fun _ => false) = cs0 at *
  simp only [List.cons_append, List.nil_append] at hc
  clear hw hS hHk h1 h1' h2 hfo B hs c hK hKb hL2 hlen hst hHl
  conv => lhs; rw [floop_at i_zz38_B3.eq_1]
  rcases cb with c1 | ⟨c1, c2⟩
  ·rw [c1] at hc l2
   simp (disch := first | assumption | omega | (simp [*] <;> omega) | fail) [-getElem?_pos, List.getElem?_cons_zero, List.getElem?_cons_succ, ck, c1, eK, wK, k2, e0, l2, hwk, hwo, hbl0, w3, hc, hbl]
  ·simp (disch := first | assumption | omega | (simp [*] <;> omega) | fail) [-getElem?_pos, List.getElem?_cons_zero, List.getElem?_cons_succ, ck, c1, c2, eK, wK, k2, e0, l2, hwk, hwo, hbl0, w3, hc, hbl]
theorem l_zz38_3 (B : IsB N M A) (hs : SlA Hb s A) (hn : nro ≤ Hb.length) (hb : Hb[b0]? = some ⟨0, [.int .i64 N, .int .i64 M, s]⟩) (K : Nat) (hK : K = 2 * A.length * M) (first : Nat) (hfi : first < 2 * A.length) (b : Nat) (hb1 : 1 ≤ b) (hb2 : b ≤ 15) : ∀ (d k : Nat) (L : VH) (w : Value) (q : Nat → Bool), b ≤ k + d → 1 ≤ k → k ≤ b → Sl (Hb ++ L) w (btb K q) → Tb M K q (Rc M A first (k - 1)) →
  ∃ L', floop (vcall F nro) nro [1, 3, 4, 5, 6, 7, 10, 11] i_zz38_B3 Hb [.pointer (some ⟨b0, 0, some 3⟩), .int .i64 ((2 * A.length : Nat) : Int), .int .i64 M, .int .i64 (bI b), .int .i64 first, .int .i64 (sF A first), w, .int .i64 k] (Hb ++ L) =
   some (.exit 2, fl [(1, .pointer (some ⟨b0, 0, some 3⟩)), (3, .int .i64 ((2 * A.length : Nat) : Int)), (4, .int .i64 M), (5, .int .i64 (bI (gF (fnd M A first) b k))), (6, .int .i64 first)], Hb ++ L') := by
 have m1 := B.m1
 have hV : sN M A first < M := by
  have := B.sV hfi
  unfold sN
  omega
 have done : ∀ (k : Nat) (L : VH) (w : Value), 1 ≤ k → k ≤ b → ¬ k < b → ∃ L', floop (vcall F nro) nro [1, 3, 4, 5, 6, 7, 10, 11] i_zz38_B3 Hb [.pointer (some ⟨b0, 0, some 3⟩), .int .i64 ((2 * A.length : Nat) : Int), .int .i64 M, .int .i64 (bI b), .int .i64 first, .int .i64 (sF A first), w, .int .i64 k] (Hb ++ L) =
   some (.exit 2, fl [(1, .pointer (some ⟨b0, 0, some 3⟩)), (3, .int .i64 ((2 * A.length : Nat) : Int)), (4, .int .i64 M), (5, .int .i64 (bI (gF (fnd M A first) b k))), (6, .int .i64 first)], Hb ++ L') := by
  intro k L w h1 h2 hk
  refine ⟨L, ?_⟩
  rw [gF_end hk, floop_at i_zz38_B3.eq_1]
  have e : k = b := by omega
  subst e
  generalize 2 * A.length = L2
  clear hs B
  by_cases c : k = 15
  ·subst c
   simp (disch := first | assumption | omega | (simp [*] <;> omega) | fail) [-getElem?_pos, List.getElem?_cons_zero, List.getElem?_cons_succ, bI]
  ·have c1 : bI k = k := by unfold bI; rw [if_neg c]
   have c2 : (k : Int) ≤ 14 := by omega
   have c3 : ¬ (k : Int) = 0 := by omega
   have c4 : ¬ k = 0 := by omega
   rw [c1]
   simp (disch := first | assumption | omega | (simp [*] <;> omega) | fail) [-getElem?_pos, List.getElem?_cons_zero, List.getElem?_cons_succ, c2, c3, c4]
 intro d
 induction d with
 | zero =>
  intro k L w q hd h1 h2 _ _
  exact done k L w h1 h2 (by omega)
 | succ d ih =>
  intro k L w q hd h1 h2 hw hS
  by_cases hk : k < b
  ·obtain ⟨a1, a2⟩ := l_zz38_3s (nro := nro) B hs hn hb L w K hK q _ hw hS (fun t j h => Rc_lt (by omega) hV h) first b k hb1 hb2 h1 hk
   by_cases c : fnd M A first (k - 1)
   ·obtain ⟨L', e⟩ := a1 c
    refine ⟨L', ?_⟩
    rw [e, gF_yes hk c]
    have : bI k = k := by unfold bI; rw [if_neg (by omega)]
    rw [this]
   ·obtain ⟨q', i1, i2⟩ := a2 c
    rw [i2, gF_no hk c]
    have i1' : Tb M K q' (Rc M A first (k + 1 - 1)) := fun z hz => (i1 z hz).trans (by
     obtain ⟨p, hp⟩ : ∃ p, k = p + 1 := ⟨k - 1, by omega⟩
     subst hp
     exact Iff.rfl)
    have hsl : Sl (Hb ++ [(⟨1, btb K q'⟩ : VO)]) (.slice (some ⟨Hb.length, 0, none⟩) K K) (btb K q') := by
     have hbl := btb_length K q'
     simp [Sl, hbl]
     rw [List.take_of_length_le (by omega)]
    exact ih (k + 1) [⟨1, btb K q'⟩] _ q' (by omega) (by omega) (by omega) hsl i1'
  ·exact done k L w h1 h2 hk
theorem c_zz38 (h : VH) (B : IsB N M A) (hs : SlA h s A) (hn : nro ≤ h.length) :
  vcall F nro k_zz38 [bv N M s] h = some (.int .i64 (bI (wgF M A 0 15)), h) := by
 have hn' := fun k => Nat.le_trans hn (Nat.le_add_right h.length k)
 have hso := hs.old
 have hsc := fun k => hs.oldCk (k := k)
 have hnj := hs.nj
 have hlen := B.len
 have m1 := B.m1
 have m2 := B.m2
 have hvl := fun L => hs.vlen' (L := L)
 have hM : M ≤ 62 := by omega
 obtain ⟨K, hK⟩ : ∃ K, K = 2 * A.length * M := ⟨_, rfl⟩
 have hKb : K ≤ 32 * 62 := by rw [hK]; exact Nat.mul_le_mul (by omega) hM
 have eK : ((2 * A.length : Nat) : Int) * (M : Int) = (K : Int) := by rw [hK]; exact (Int.natCast_mul _ _).symm
 have wK : IntKind.i64.wrap (K : Int) = K := wrap64 (by omega) (by omega)
 have e0 : List.replicate K (Value.bool false) = btb K (fun _ => false) := (btb_const K false).symm
 have k2 : (K : Int) ≤ 140737488355328 := by omega
 have w2l : IntKind.i64.wrap (2 * (A.length : Int)) = ((2 * A.length : Nat) : Int) := by rw [wrap64 (by omega) (by omega)]; omega
 have main := for_up (call := vcall F nro) (nro := nro) (live := [1, 3, 4, 5, 6]) (c := i_zz38_B4) (h0 := bx3 h N M s) (n := 2 * A.length) (fun i (b : Nat) => [.pointer (some ⟨h.length, 0, some 3⟩), .int .i64 ((2 * A.length : Nat) : Int), .int .i64 M, .int .i64 (bI b), .int .i64 i]) (fun _ _ => bx3 h N M s) (fun f b => gF (fnd M A f) b 1) (fun _ b => 1 ≤ b ∧ b ≤ 15)
  (fun b => some (.exit 0, fl [(5, .int .i64 (bI b))], bx3 h N M s))
  (fun f b hf hf2 hb => by
   have hge := gF_ge (p := fnd M A f) hb.1
   refine ⟨⟨hge.1, by omega⟩, ?_⟩
   obtain ⟨v1, v2⟩ := B.sV hf
   obtain ⟨v, hv⟩ : ∃ v : Nat, sV M A f = v := ⟨(sV M A f).toNat, by omega⟩
   have hvn : sN M A f = v := by unfold sN; rw [hv, Int.toNat_natCast]
   have hstep := c_zz61 (nro := nro) (n := N) (m := M) (st := f) (h := bx3 h N M s) B (hs.app _) (by simp; omega) hf
   rw [hv] at hstep v2
   have hvM : v < M := by omega
   obtain ⟨T, hT⟩ : ∃ T : Nat, T = f * M := ⟨_, rfl⟩
   have eT : (f : Int) * M = (T : Int) := by rw [hT, Int.natCast_mul]
   have hTK : T + v < K := by rw [hT, hK]; exact plc_lt hf hvM
   have w5 : IntKind.i64.wrap (T : Int) = T := wrap64 (by omega) (by omega)
   have w6 : IntKind.i64.wrap ((T : Int) + v) = (T : Int) + v := wrap64 (by omega) (by omega)
   have tz : ((T : Int) + v).toNat = T + v := by omega
   have tz2 : (T : Int) + v < K := by omega
   have tz3 : 0 ≤ (T : Int) + v := by omega
   have t2 := btb_splice (p := fun _ => false) (b := true) hTK
   have w3 : IntKind.i64.wrap ((f : Int) + 1) = (f : Int) + 1 := wrap64 (by omega) (by omega)
   obtain ⟨q, hq⟩ : ∃ q : Nat → Bool, q = fun x => if x = T + v then true else false := ⟨_, rfl⟩
   rw [← hq] at t2
   have hTb : Tb M K q (Rc M A f (1 - 1)) := fun x hx => by
    rw [hq]
    show (if x = T + v then true else false) = true ↔ x / M = f ∧ x % M = sN M A f
    rw [hvn, ← place_eq hvM, ← hT]
    by_cases e : x = T + v
    ·simp [e]
    ·simp [e]
   have hbl := btb_length K q
   have hbl0 := btb_length K (fun _ => false)
   have hsl : Sl (bx3 h N M s ++ [⟨1, btb K q⟩] ++ []) (.slice (some ⟨h.length + 1, 0, none⟩) K K) (btb K q) := by
    simp [Sl, hbl]
    rw [List.take_of_length_le (by omega)]
   obtain ⟨L', l3⟩ := l_zz38_3 (nro := nro) (Hb := bx3 h N M s ++ [⟨1, btb K q⟩]) (b0 := h.length) B ((hs.app _).app _) (by simp; omega) (by simp) K hK f hf b hb.1 hb.2 b 1 [] (.slice (some ⟨h.length + 1, 0, none⟩) K K) q (by omega) (Nat.le_refl _) hb.1 hsl hTb
   have hn1 : nro ≤ h.length + 1 := by omega
   generalize gF (fnd M A f) b 1 = g at *
   conv => lhs; rw [floop_at i_zz38_B4.eq_1]
   obtain ⟨L2, hL2⟩ : ∃ L2, L2 = 2 * A.length := ⟨_, rfl⟩
   rw [← hL2] at hf hf2 eK l3 ⊢
   generalize bI b = bi at *
   generalize bI g = gi at *
   generalize btb K q = cs at *
   generalize btb K (fun _ => false) = cs0 at *
   generalize sF A f = f1 at *
   generalize sT A f = f2 at *
   simp at l3
   clear hs B hL2 hlen hTb hq hsl hv hvn hT hK hKb hge hb
   simp (disch := first | assumption | omega | (simp [*] <;> omega) | fail) [hf, hf2, hstep, eK, wK, k2, e0, eT, w5, w6, tz, tz2, tz3, hTK, t2, hbl0, l3, w3, hn', hn1])
  (fun b _ => by
   rw [floop_at i_zz38_B4.eq_1]
   generalize 2 * A.length = L2 at *
   clear hs B
   simp (disch := first | assumption | omega | (simp [*] <;> omega) | fail) [hn']) 0 15 (Nat.zero_le _) ⟨by omega, by omega⟩
 have l1 := main.1
 rw [show upF (fun f b => gF (fnd M A f) b 1) (2 * A.length) 0 15 = wgF M A 0 15 from rfl] at l1
 rw [show bI 15 = 0 from rfl] at l1
 refine v_zz38 (by simp [i_zz38]) ?_
 rw [fbody_eq]
 generalize bI (wgF M A 0 15) = g at *
 obtain ⟨L2, hL2⟩ : ∃ L2, L2 = 2 * A.length := ⟨_, rfl⟩
 rw [← hL2] at w2l l1
 simp at l1
 clear hs B main hL2 hK hKb eK
 simp (disch := first | assumption | omega | (simp [*] <;> omega) | fail) [i_zz38, hvl, w2l, l1, hn']
open Classical in
theorem c_zz35 {n m : Int} (h : VH) (hs : SlA h s A) (hA : A.length ≤ 1000) (hn : nro ≤ h.length) : vcall F nro k_zz35 [bv n m s] h = some (.tuple #[.int .i64 (wgA n m A).1, .int .i64 (wgA n m A).2], h) := by
 have hn' := fun k => Nat.le_trans hn (Nat.le_add_right h.length k)
 have hso := hs.old
 have hsc := fun k => hs.oldCk (k := k)
 have hnj := hs.nj
 have hc := c_zz77 (nro := nro) n m s A (bx3 h n m s) (hs.app _) hA (by simp; omega)
 refine v_zz35 (by simp [i_zz35]) ?_
 rw [fbody_eq]
 unfold wgA
 by_cases B : IsB n m A
 ·rw [if_pos B]
  rw [decide_eq_true B] at hc
  obtain ⟨M, rfl⟩ : ∃ M : Nat, m = M := ⟨m.toNat, by have := B.m1; omega⟩
  rw [Int.toNat_natCast]
  have hl := c_zz38 (nro := nro) (bx3 h n M s) B (hs.app _) (by simp; omega)
  have hW : 1 ≤ wgF M A 0 15 ∧ wgF M A 0 15 ≤ 15 := upF_inv (f := fun f b => gF (fnd M A f) b 1) (n := 2 * A.length) (fun _ b => 1 ≤ b ∧ b ≤ 15) (fun f b _ hb => by
   have hge := gF_ge (p := fnd M A f) hb.1
   exact ⟨hge.1, by omega⟩) 0 15 (Nat.zero_le _) ⟨by omega, by omega⟩
  generalize wgF M A 0 15 = W at *
  clear hs B
  by_cases c : 14 < W
  ·rw [if_pos c]
   have : bI W = 0 := by unfold bI; rw [if_pos (by omega)]
   rw [this] at hl
   simp (disch := first | assumption | omega | (simp [*] <;> omega) | fail) [i_zz35, hc, hl, hn', fresults, fresL, fres1]
  ·rw [if_neg c]
   have : bI W = W := by unfold bI; rw [if_neg (by omega)]
   rw [this] at hl
   have c' : ¬ W = 0 := by omega
   simp (disch := first | assumption | omega | (simp [*] <;> omega) | fail) [i_zz35, hc, hl, c', hn', fresults, fresL, fres1]
 ·rw [if_neg B]
  rw [decide_eq_false B] at hc
  clear hs B
  simp (disch := first | assumption | omega | (simp [*] <;> omega) | fail) [i_zz35, hc, hn', fresults, fresL, fres1]
end
end

/- Closed walks that do not turn back, and the girth. -/
section
open Go
theorem least_gap {x : Nat → Nat} {L : Nat} (h1 : 1 ≤ L) (h2 : x 0 = x L) : ∃ i d, 1 ≤ d ∧ i + d ≤ L ∧ x i = x (i + d) ∧ ∀ i' d', 1 ≤ d' → d' < d → i' + d' ≤ L → x i' ≠ x (i' + d') := by
 have key : ∀ d i, 1 ≤ d → i + d ≤ L → x i = x (i + d) → ∃ i d, 1 ≤ d ∧ i + d ≤ L ∧ x i = x (i + d) ∧ ∀ i' d', 1 ≤ d' → d' < d → i' + d' ≤ L → x i' ≠ x (i' + d') := by
  intro d
  induction d using Nat.strongRecOn with
  | ind d ih =>
   intro i a1 a2 a3
   by_cases h : ∃ i' d', 1 ≤ d' ∧ d' < d ∧ i' + d' ≤ L ∧ x i' = x (i' + d')
   ·obtain ⟨i', d', b1, b2, b3, b4⟩ := h
    exact ih d' b2 i' b1 b3 b4
   ·exact ⟨i, d, a1, a2, a3, fun i' d' b1 b2 b3 b4 => h ⟨i', d', b1, b2, b3, b4⟩⟩
 exact key L 0 h1 (by omega) (by rw [Nat.zero_add]; exact h2)
section
variable {n : Nat} {rows : List Int} (g : GV n rows)
include g
theorem ar_of_walk {a b m : Nat} (hab : rbit rows a b = true) (h : Wk (cut2 rows a b) m a b) : 0 < arF rows a b ∧ arF rows a b ≤ m + 1 := by
 obtain ⟨ha, hb⟩ := rbit_lt g.rok hab
 rcases far_dist (cut_rok g ha hb hab).1 ha b with ⟨_, h2⟩ | ⟨d, h1, h2, h3⟩
 ·exact absurd h (h2 m)
 ·unfold arF
  rw [h1]
  have : ¬ m < d := fun hlt => h3 m hlt h
  omega
theorem gir_of_walk {x : Nat → Nat} {L : Nat} (h1 : 1 ≤ L) (h2 : x 0 = x L) (hE : ∀ i, i < L → rbit rows (x i) (x (i + 1)) = true) (hN : ∀ i, i + 2 ≤ L → x i ≠ x (i + 2)) :
  girF rows n 0 0 ≠ 0 ∧ girF rows n 0 0 ≤ L := by
 obtain ⟨i, d, d1, d2, d3, d4⟩ := least_gap h1 h2
 have e1 : d ≠ 1 := by
  rintro rfl
  have := hE i (by omega)
  rw [← d3] at this
  exact g.ne this rfl
 have e2 : d ≠ 2 := by
  rintro rfl
  exact hN i d2 d3
 have ab := hE i (by omega)
 have W : ∀ s, s + 1 ≤ d → Wk (cut2 rows (x i) (x (i + 1))) s (x (i + 1)) (x (i + 1 + s)) := by
  intro s
  induction s with
  | zero => intro _; rfl
  | succ s ih =>
   intro hs
   refine ⟨x (i + 1 + s), ih (by omega), (cut_iff g ab _ _).mpr ⟨hE (i + 1 + s) (by omega), ?_⟩⟩
   have k1 : x (i + 1 + s) ≠ x i := by
    have := d4 i (1 + s) (by omega) (by omega) (by omega)
    rw [← Nat.add_assoc] at this
    exact fun e => this e.symm
   rintro (⟨a1, _⟩ | ⟨a1, a2⟩)
   ·exact k1 a1
   ·rcases Nat.eq_zero_or_pos s with rfl | hp
    ·by_cases h3 : d = 2
     ·exact e2 h3
     ·have := d4 i 2 (by omega) (by omega) (by omega)
      exact this a2.symm
    ·have := d4 (i + 1) s hp (by omega) (by omega)
     exact this a1.symm
 have W1 := W (d - 1) (by omega)
 rw [show i + 1 + (d - 1) = i + d by omega, ← d3] at W1
 obtain ⟨r1, r2⟩ := ar_of_walk g ab (Wk.symm (fun v w h => cut_sym g ab v w h) _ _ _ W1)
 have h0 := girF_ge' (rows := rows) (n := n) 0 0 (by omega)
 have key : ¬ (girF rows n 0 0 = 0 ∨ (L : Int) + 1 ≤ girF rows n 0 0) := by
  rw [gir_min g _ (by omega)]
  intro h
  have := h _ _ ab
  omega
 omega
omit g in
theorem chn_at {r : Nat → Nat → Prop} : ∀ {l : List Nat} {i : Nat}, chn r l → i + 1 < l.length → r (l.getD i 0) (l.getD (i + 1) 0)
 | [], _, _, h => by simp at h
 | [_], _, _, h => by simp at h
 | _ :: _ :: _, 0, hc, _ => hc.1
 | _ :: y :: l, i + 1, hc, h => chn_at (l := y :: l) (i := i) hc.2 (by simpa using h)
theorem cyc_of_gir {L : Nat} (hL : girF rows n 0 0 = L) (h0 : L ≠ 0) : 3 ≤ L ∧ ∃ x : Nat → Nat, (∀ i, rbit rows (x i) (x (i + 1)) = true) ∧ (∀ i, x (i + 2) ≠ x i) ∧ ∀ i, x (i + L) = x i := by
 have h3 := gir_3 g hL h0
 obtain ⟨p, q, hpq, har⟩ := gir_edge g hL h0
 have hmin := (gir_min g (L : Int) (by omega)).mp (by omega)
 obtain ⟨c1, c2, _⟩ := arN_eq g hpq har h0
 rw [cyE_tup g h3 hmin hpq] at c2
 refine ⟨h3, ?_⟩
 by_cases hx : ∃ l ∈ tup n L, (Cyc (rr rows) l ∧ l.getD (L - 1) 0 = p) ∧ l.getD 0 0 = q
 ·obtain ⟨l, hl, ⟨hc, _⟩, _⟩ := hx
  have hll := (mem_tup.mp hl).1
  have hmod : ∀ i, i % L < L := fun i => Nat.mod_lt _ (by omega)
  have hsucc : ∀ i, (i + 1) % L = if i % L + 1 = L then 0 else i % L + 1 := fun i => by
   have := hmod i
   rw [Nat.add_mod, Nat.mod_eq_of_lt (show 1 < L by omega)]
   split
   ·rename_i h; rw [h, Nat.mod_self]
   ·exact Nat.mod_eq_of_lt (by omega)
  refine ⟨fun i => l.getD (i % L) 0, fun i => ?_, fun i e => ?_, fun i => ?_⟩
  ·have hm := hmod i
   have key := chn_at (i := i % L) hc.ch (by simp only [List.length_append, List.length_take]; omega)
   have g1 : (l ++ l.take 1).getD (i % L) 0 = l.getD (i % L) 0 := by
    rw [List.getD_eq_getElem?_getD, List.getElem?_append_left (by omega), ← List.getD_eq_getElem?_getD]
   have g2 : (l ++ l.take 1).getD (i % L + 1) 0 = l.getD ((i + 1) % L) 0 := by
    rw [hsucc]
    split
    ·rename_i h
     rw [List.getD_eq_getElem?_getD, List.getElem?_append_right (by omega), show i % L + 1 - l.length = 0 by omega, List.getElem?_take_of_lt (by omega), ← List.getD_eq_getElem?_getD]
    ·rw [List.getD_eq_getElem?_getD, List.getElem?_append_left (by omega), ← List.getD_eq_getElem?_getD]
   rw [g1, g2] at key
   exact key
  ·have hm := hmod i
   have hm2 := hmod (i + 2)
   simp only [List.getD_eq_getElem?_getD] at e
   rw [List.getElem?_eq_getElem (by omega), List.getElem?_eq_getElem (by omega)] at e
   have := nodup_at hc.nd (i := (i + 2) % L) (j := i % L) (by omega) (by omega) (by simpa using e)
   have s1 := hsucc i
   have s2 := hsucc (i + 1)
   rw [show i + 1 + 1 = i + 2 by omega, s1, this] at s2
   split at s2 <;> split at s2 <;> omega
  ·show l.getD ((i + L) % L) 0 = _
   rw [Nat.add_mod_right]
 ·rw [cn_none fun l hl hp => hx ⟨l, hl, hp⟩] at c2
  omega
end
section
variable {N M K : Nat} {A : List Ar} (B : IsB N M A) (hK : K = N * M)
include B
theorem sN_lt {t : Nat} (ht : t < 2 * A.length) : sN M A t < M := by
 have := B.sV ht
 unfold sN
 omega
theorem sF_nat {t : Nat} (ht : t < 2 * A.length) : ∃ f : Nat, sF A t = f ∧ f < N := by
 have := B.sF ht
 exact ⟨(sF A t).toNat, by omega, by omega⟩
theorem sT_nat {t : Nat} (ht : t < 2 * A.length) : ∃ f : Nat, sT A t = f ∧ f < N := by
 have := B.sT ht
 exact ⟨(sT A t).toNat, by omega, by omega⟩
theorem sN_back {t i : Nat} (ht : t < 2 * A.length) (hi : i < M) : ((i + sN M A t) % M + sN M A (back t)) % M = i := by
 have h1 := sN_lt B ht
 have h2 := sN_lt B (back_lt ht)
 have key : sN M A (back t) = (M - sN M A t) % M := by
  obtain ⟨a1, a2, a3, a4, a5, a6⟩ := B.arc ht
  obtain ⟨v, hv⟩ : ∃ v : Nat, (A.getD (t / 2) A0).v = v := ⟨_, (Int.toNat_of_nonneg a5).symm⟩
  have e0 : ((M : Int) - v) % M = ((M - v : Nat) : Int) % M := by rw [Int.ofNat_sub (by omega)]
  have e1 : (((M : Int) - v) % M).toNat = (M - v) % M := by
   rw [e0, show ((M - v : Nat) : Int) % M = (((M - v) % M : Nat) : Int) by simp, Int.toNat_natCast]
  unfold sN sV back
  by_cases c : t % 2 = 0
  ·rw [if_pos c, if_neg (by omega), if_pos c, show (t + 1) / 2 = t / 2 by omega, hv, e1, Int.toNat_natCast]
  ·rw [if_neg c, if_pos (by omega), if_neg c, show (t - 1) / 2 = t / 2 by omega, hv, e1, Int.toNat_natCast]
   have hvM : v < M := by omega
   by_cases z : v = 0
   ·subst z
    simp
   ·rw [Nat.mod_eq_of_lt (show M - v < M by omega), show M - (M - v) = v by omega, Nat.mod_eq_of_lt hvM]
 rw [key]
 by_cases z : sN M A t = 0
 ·rw [z, Nat.add_zero, Nat.sub_zero, Nat.mod_self, Nat.add_zero, Nat.mod_mod, Nat.mod_eq_of_lt hi]
 ·rw [Nat.mod_eq_of_lt (show M - sN M A t < M by omega)]
  rw [Nat.mod_add_mod, show i + sN M A t + (M - sN M A t) = i + M by omega, Nat.add_mod_right, Nat.mod_eq_of_lt hi]
def Stp (M : Nat) (A : List Ar) (x y t : Nat) : Prop := t < 2 * A.length ∧ sF A t = ((x / M : Nat) : Int) ∧ sT A t = ((y / M : Nat) : Int) ∧ y % M = (x % M + sN M A t) % M
theorem Stp.back {x y t : Nat} (h : Stp M A x y t) : Stp M A y x (Zv.back t) := by
 obtain ⟨h1, h2, h3, h4⟩ := h
 have hM := B.m1
 refine ⟨back_lt h1, by rw [sF_back]; exact h3, by rw [sT_back]; exact h2, ?_⟩
 rw [h4, sN_back B h1 (Nat.mod_lt _ (by omega))]
theorem place_self {x y : Nat} (h1 : x / M = y / M) (h2 : x % M = y % M) : x = y := by
 rw [← Nat.div_add_mod x M, ← Nat.div_add_mod y M, h1, h2]
theorem Stp.unique {x y y' t : Nat} (h : Stp M A x y t) (h' : Stp M A x y' t) : y = y' := by
 obtain ⟨_, _, h3, h4⟩ := h
 obtain ⟨_, _, k3, k4⟩ := h'
 refine place_self (M := M) B ?_ (h4.trans k4.symm)
 rw [h3] at k3
 exact_mod_cast k3
theorem Stp.pair {x y t : Nat} (h : Stp M A x y t) : ∃ (hk : t / 2 < A.length) (i : Nat), i < M ∧ nrm x y = aP M A[t / 2] i ∧ (t % 2 = 0 → i = x % M) ∧ (t % 2 ≠ 0 → i = y % M) := by
 obtain ⟨h1, h2, h3, h4⟩ := h
 have hM := B.m1
 have hk : t / 2 < A.length := by omega
 have hb := sN_back B h1 (Nat.mod_lt x (show M > 0 by omega))
 rw [← h4] at hb
 have ex := Nat.div_add_mod x M
 have ey := Nat.div_add_mod y M
 rw [Nat.mul_comm] at ex ey
 unfold sF sT at *
 rw [getD_atG hk] at h2 h3
 by_cases c : t % 2 = 0
 ·rw [if_pos c] at h2 h3
  refine ⟨hk, x % M, Nat.mod_lt _ (by omega), ?_, fun _ => rfl, fun h => absurd c h⟩
  unfold aP
  congr 1
  ·unfold aV; rw [h2, Int.toNat_natCast]; exact ex.symm
  ·unfold aW; rw [h3, Int.toNat_natCast]
   unfold sN sV at h4
   rw [if_pos c, getD_atG hk] at h4
   rw [← h4]; exact ey.symm
 ·rw [if_neg c] at h2 h3
  refine ⟨hk, y % M, Nat.mod_lt _ (by omega), ?_, fun h => absurd h c, fun _ => rfl⟩
  have : nrm x y = nrm y x := nrm_eq.mpr (by unfold joins; omega)
  rw [this]
  unfold aP
  congr 1
  ·unfold aV; rw [h3, Int.toNat_natCast]; exact ey.symm
  ·unfold aW; rw [h2, Int.toNat_natCast]
   unfold sN sV Zv.back at hb
   rw [if_neg c, if_pos (by omega), show (t - 1) / 2 = t / 2 by omega, getD_atG hk] at hb
   rw [hb]; exact ex.symm
theorem Stp.mem {x y t : Nat} (h : Stp M A x y t) : nrm x y ∈ aprs M A := by
 obtain ⟨hk, i, hi, e, _⟩ := h.pair B
 rw [e]
 unfold aprs apl
 rw [List.mem_flatMap]
 exact ⟨_, List.getElem_mem hk, List.mem_map.mpr ⟨i, List.mem_range.mpr hi, rfl⟩⟩
omit B in
theorem aP_inj (hF : Faith M A) {k1 k2 i1 i2 : Nat} (h1 : k1 < A.length) (h2 : k2 < A.length) (j1 : i1 < M) (j2 : i2 < M) (e : aP M A[k1] i1 = aP M A[k2] i2) : k1 = k2 ∧ i1 = i2 := by
 have nd := hF.1
 unfold aprs List.Nodup at nd
 rw [List.pairwise_flatMap] at nd
 have mm : ∀ (a : Ar) (i : Nat), i < M → aP M a i ∈ apl M a M := fun a i hi => List.mem_map.mpr ⟨i, List.mem_range.mpr hi, rfl⟩
 have n1 : ∀ k k' (h : k < A.length) (h' : k' < A.length) i i', i < M → i' < M → k < k' → aP M A[k] i ≠ aP M A[k'] i' := fun k k' h h' i i' hi hi' hlt =>
  List.pairwise_iff_getElem.mp nd.2 k k' h h' hlt _ (mm _ _ hi) _ (mm _ _ hi')
 have n2 : ∀ k (h : k < A.length) i i', i < M → i' < M → i < i' → aP M A[k] i ≠ aP M A[k] i' := fun k h i i' hi hi' hlt => by
  have := nd.1 A[k] (List.getElem_mem h)
  unfold apl at this
  rw [List.pairwise_map] at this
  have := List.pairwise_iff_getElem.mp this i i' (by simpa using hi) (by simpa using hi') hlt
  simpa using this
 rcases Nat.lt_trichotomy k1 k2 with c | c | c
 ·exact absurd e (n1 k1 k2 h1 h2 i1 i2 j1 j2 c)
 ·subst c
  rcases Nat.lt_trichotomy i1 i2 with d | d | d
  ·exact absurd e (n2 k1 h1 i1 i2 j1 j2 d)
  ·exact ⟨rfl, d⟩
  ·exact absurd e.symm (n2 k1 h1 i2 i1 j2 j1 d)
 ·exact absurd e.symm (n1 k2 k1 h2 h1 i2 i1 j2 j1 c)
theorem Stp.ne (hF : Faith M A) {x y t : Nat} (h : Stp M A x y t) : x ≠ y := by
 have := hF.2 _ (h.mem B)
 exact nrm_ne.mp this
theorem Stp.inj (hF : Faith M A) {x y t t' : Nat} (h : Stp M A x y t) (h' : Stp M A x y t') : t = t' := by
 obtain ⟨k1, i1, a1, a2, a3, a4⟩ := h.pair B
 obtain ⟨k2, i2, b1, b2, b3, b4⟩ := h'.pair B
 obtain ⟨e1, e2⟩ := aP_inj hF k1 k2 a1 b1 (a2.symm.trans b2)
 have hne := h.ne B hF
 by_cases c : t % 2 = 0
 ·by_cases c' : t' % 2 = 0
  ·omega
  ·exfalso
   have u1 := a3 c
   have u2 := b4 c'
   have hs1 := h.2.1
   have hs2 := h'.2.2.1
   have e : t' = Zv.back t := by unfold Zv.back; rw [if_pos c]; omega
   rw [e, sT_back, hs1] at hs2
   exact hne (place_self (M := M) B (by exact_mod_cast hs2) (by omega))
 ·by_cases c' : t' % 2 = 0
  ·exfalso
   have u1 := a4 c
   have u2 := b3 c'
   have hs1 := h'.2.1
   have hs2 := h.2.2.1
   have e : t = Zv.back t' := by unfold Zv.back; rw [if_pos c']; omega
   rw [e, sT_back, hs1] at hs2
   exact hne (place_self (M := M) B (by exact_mod_cast hs2) (by omega))
  ·omega
include hK
theorem Stp.bit (hF : Faith M A) {x y t : Nat} (h : Stp M A x y t) : rbit (liftR N M A) x y = true := by
 have hm := aprs_rng B hK (h.mem B)
 have hx : x < K := by unfold nrm at hm; dsimp only at hm; omega
 exact ((liftR_is B hK).2 x hx).2.2 y |>.mpr ⟨h.ne B hF, h.mem B⟩
theorem stp_of_bit {x y : Nat} (h : rbit (liftR N M A) x y = true) : ∃ t, Stp M A x y t := by
 obtain ⟨hx, hy⟩ := rbit_lt (lift_gv B hK).rok h
 obtain ⟨_, hm⟩ := (((liftR_is B hK).2 x hx).2.2 y).mp h
 obtain ⟨a, ha, i, hi, e, _, _⟩ := aprs_mem B hK hm
 obtain ⟨k, hk, rfl⟩ := List.getElem_of_mem ha
 obtain ⟨o1, o2, o3, o4, o5, o6⟩ := B.ok _ ha
 have hM := B.m1
 unfold aP at e
 have key : ∀ x y, x = aV M A[k] i → y = aW M A[k] i → Stp M A x y (2 * k) := by
  rintro x y rfl rfl
  have d1 : (2 * k) / 2 = k := by omega
  unfold Stp sF sT sN sV aV aW
  rw [d1, getD_atG hk, if_pos (by omega), if_pos (by omega), if_pos (by omega)]
  obtain ⟨p1, p2⟩ := place_div (t := A[k].f.toNat) hi
  obtain ⟨p3, p4⟩ := place_div (t := A[k].t.toNat) (Nat.mod_lt (i + A[k].v.toNat) (show M > 0 by omega))
  rw [p1, p2, p3, p4]
  exact ⟨by omega, by omega, by omega, rfl⟩
 rcases nrm_eq.mp e with ⟨e1, e2⟩ | ⟨e1, e2⟩
 ·exact ⟨_, key x y e1 e2⟩
 ·exact ⟨_, (key y x e2 e1).back B⟩
end
end

/- Covers; the law of IsCover. -/
section
open Go
variable {nro : Nat}
theorem bit_clear {m : Nat} {x : Int} (hm : m < 2 ^ 62) (h1 : x ≤ 62) : iand .i64 (m : Int) (ishl .i64 1 x) = 0 ↔ m.testBit x.toNat = false := by
 rw [ishl_one h1, iand_nat (by omega) (by have : 2 ^ x.toNat ≤ 2 ^ 62 := Nat.pow_le_pow_right (by omega) (by omega); omega)]
 have : m &&& 2 ^ x.toNat = 0 ↔ m.testBit x.toNat = false := by
  constructor
  ·intro h
   have := congrArg (·.testBit x.toNat) h
   simpa [Nat.testBit_and, Nat.testBit_two_pow] using this
  ·intro h
   apply Nat.eq_of_testBit_eq
   intro i
   rw [Nat.testBit_and, Nat.testBit_two_pow]
   by_cases e : x.toNat = i
   ·subst e; simp [h]
   ·simp [e]
 rw [← this]
 omega
theorem bit_put {m : Nat} {x : Int} (hm : m < 2 ^ 62) (h1 : x ≤ 61) : ior .i64 (m : Int) (ishl .i64 1 x) = ((m ||| 2 ^ x.toNat : Nat) : Int) := by
 have : 2 ^ x.toNat ≤ 2 ^ 61 := Nat.pow_le_pow_right (by omega) (by omega)
 rw [ishl_one (by omega), ior_nat (by omega) (by omega)]
theorem put_lt {m : Nat} {x : Int} (hm : m < 2 ^ 62) (h1 : x ≤ 61) : m ||| 2 ^ x.toNat < 2 ^ 62 := by
 have : 2 ^ x.toNat < 2 ^ 62 := Nat.pow_lt_pow_right (by omega) (by omega)
 exact Nat.or_lt_two_pow hm this
theorem pc_or_bit : ∀ (b m : Nat), pc (m ||| 2 ^ b) = pc m + if m.testBit b then 0 else 1
 | 0, m => by
  rw [pc_step (m ||| 2 ^ 0), pc_step m]
  have h1 : (m ||| 2 ^ 0) / 2 = m / 2 := by
   have := Nat.or_div_two_pow (a := m) (b := 1) (n := 1)
   simpa using this
  have h2 : (m ||| 2 ^ 0) % 2 = 1 := by
   have := Nat.or_mod_two_pow (a := m) (b := 1) (n := 1)
   simp at this
   rw [Nat.pow_zero, this]
   rcases Nat.mod_two_eq_zero_or_one m with e | e <;> rw [e] <;> rfl
  rw [h1, h2, Nat.testBit_zero]
  rcases Nat.mod_two_eq_zero_or_one m with e | e <;> simp [e] <;> omega
 | b + 1, m => by
  rw [pc_step (m ||| 2 ^ (b + 1)), pc_step m]
  have h1 : (m ||| 2 ^ (b + 1)) / 2 = m / 2 ||| 2 ^ b := by
   have := Nat.or_div_two_pow (a := m) (b := 2 ^ (b + 1)) (n := 1)
   simpa [Nat.pow_succ] using this
  have h2 : (m ||| 2 ^ (b + 1)) % 2 = m % 2 := by
   have := Nat.or_mod_two_pow (a := m) (b := 2 ^ (b + 1)) (n := 1)
   simpa [Nat.pow_succ] using this
  rw [h1, h2, pc_or_bit b (m / 2), Nat.testBit_succ]
  omega
def covGo (xs : List Int) : List Int → Nat → Option Nat
 | [], m => some m
 | w :: r, m => if m.testBit (xs.getD w.toNat 0).toNat then none else covGo xs r (m ||| 2 ^ (xs.getD w.toNat 0).toNat)
def imgs (xs : List Int) : List Int → Nat → Nat
 | [], m => m
 | w :: r, m => imgs xs r (m ||| 2 ^ (xs.getD w.toNat 0).toNat)
theorem imgs_pc (xs : List Int) : ∀ (r : List Int) (m : Nat), pc (imgs xs r m) ≤ pc m + r.length
 | [], m => by simp [imgs]
 | w :: r, m => by
  have := imgs_pc xs r (m ||| 2 ^ (xs.getD w.toNat 0).toNat)
  rw [pc_or_bit] at this
  simp only [imgs, List.length_cons]
  split at this <;> omega
theorem covGo_iff (xs : List Int) : ∀ (r : List Int) (m z : Nat), covGo xs r m = some z ↔ imgs xs r m = z ∧ pc (imgs xs r m) = pc m + r.length
 | [], m, z => by simp [covGo, imgs]
 | w :: r, m, z => by
  have e1 : imgs xs (w :: r) m = imgs xs r (m ||| 2 ^ (xs.getD w.toNat 0).toNat) := rfl
  have e2 : covGo xs (w :: r) m = if m.testBit (xs.getD w.toNat 0).toNat then none else covGo xs r (m ||| 2 ^ (xs.getD w.toNat 0).toNat) := rfl
  have h1 := pc_or_bit (xs.getD w.toNat 0).toNat m
  rw [e1, e2, List.length_cons]
  by_cases hb : m.testBit (xs.getD w.toNat 0).toNat = true
  ·rw [if_pos hb] at h1 ⊢
   have := imgs_pc xs r (m ||| 2 ^ (xs.getD w.toNat 0).toNat)
   constructor
   ·intro e; cases e
   ·rintro ⟨_, e⟩; omega
  ·rw [if_neg hb] at h1 ⊢
   rw [covGo_iff xs r, h1, show pc m + 1 + r.length = pc m + (r.length + 1) by omega]
theorem nbF_pc (rows : List Int) (v : Nat) (x : Nat) (hx : x = (rows.getD v 0).toNat) (n w : Nat) (hn : x < 2 ^ n) (hw : w ≤ n) : (nbF rows v n w).length = pc (x / 2 ^ w) := by
  by_cases h : w < n
  · rw [nbF_step h, List.length_append, nbF_pc rows v x hx n (w + 1) hn h, pc_step (x / 2 ^ w), Nat.div_div_eq_div_mul, ← Nat.pow_succ]
    have : rbit rows v w = decide (x / 2 ^ w % 2 = 1) := by
      unfold rbit
      rw [← hx, Nat.testBit_eq_decide_div_mod_eq]
    rw [this]
    rcases Nat.mod_two_eq_zero_or_one (x / 2 ^ w) with e | e <;> simp [e]
  · have : w = n := by omega
    subst this
    rw [nbF_end h, Nat.div_eq_of_lt hn, pc_zero]
    rfl
 termination_by n - w
theorem nb_pc {n : Int} {rows : List Int} (g : GV n rows) {v : Nat} (hv : v < rows.length) : (nb rows v n.toNat).length = pc (rows.getD v 0).toNat := by
 obtain ⟨g1, g2, _⟩ := g.row v hv
 have := nbF_pc rows v _ rfl n.toNat 0 (by
  have h2 : ((2 ^ n.toNat : Nat) : Int) = (2 : Int) ^ n.toNat := by simp
  omega) (by omega)
 simpa [nb] using this
def covAt (n : Int) (rows hrows xs : List Int) (v : Nat) : Prop := covGo xs (nb rows v n.toNat) 0 = some (hrows.getD (xs.getD v 0).toNat 0).toNat
theorem covAt_iff {n : Int} {rows hrows xs : List Int} (g : GV n rows) {v : Nat} (hv : v < rows.length) : covAt n rows hrows xs v ↔ imgs xs (nb rows v n.toNat) 0 = (hrows.getD (xs.getD v 0).toNat 0).toNat ∧ pc (imgs xs (nb rows v n.toNat) 0) = pc (rows.getD v 0).toNat := by
 unfold covAt
 rw [covGo_iff, pc_zero, Nat.zero_add, nb_pc g hv]
open Classical in
noncomputable def coverAns (n : Int) (rows : List Int) (m : Int) (hrows xs : List Int) : Bool × Int :=
 if ¬ (GV n rows ∧ GV m hrows) then (false, 1) else if (xs.length : Int) ≠ n ∨ badV m xs then (false, 2) else (decide (∀ v, v < rows.length → covAt n rows hrows xs v), 0)
theorem l_zz53_2 (u q x3 x4 x9 : Value) (xs L : List Int) (H : VH) (hu : Sli H u xs) (hq : Sli H q L) (h3 : Old H.length x3) (h4 : Old H.length x4) (h9 : Old H.length x9) (hL : ∀ w ∈ L, 0 ≤ w ∧ w < xs.length) (hx : ∀ j : Nat, j < xs.length → 0 ≤ xs.getD j 0 ∧ xs.getD j 0 ≤ 61) (hl : L.length ≤ 1000) (i : Nat) (hi : i ≤ L.length) (m : Nat) (hm : m < 2 ^ 62) :
    floop (vcall F nro) nro [2, 3, 4, 9, 10, 11, 12] i_zz53_B2 H [u, x3, x4, x9, q, .int .i64 m, .int .i64 i] H =
      match covGo xs (L.drop i) m with
      | none => some (.ret, fl [(6, .bool false), (7, .int .i64 0)], H)
      | some m' => some (.exit 4, fl [(2, u), (3, x3), (4, x4), (9, x9), (11, .int .i64 m')], H) := by
  have huo := hu.old
  have hqo := hq.old
  rw [floop_at i_zz53_B2.eq_1]
  by_cases hlt : i < L.length
  · have hlt' : (i : Int) < L.length := by omega
    obtain ⟨w1, w2⟩ := hL L[i] (List.getElem_mem _)
    obtain ⟨x1, x2⟩ := hx L[i].toNat (by omega)
    have e1 : xs.getD L[i].toNat 0 = xs[L[i].toNat]'(by omega) := getD_at _ (by omega)
    rw [List.drop_eq_getElem_cons hlt, covGo]
    rw [e1] at x1 x2 ⊢
    have c1 := bit_clear (m := m) (x := xs[L[i].toNat]'(by omega)) hm (by omega)
    have c2 := bit_put (m := m) (x := xs[L[i].toNat]'(by omega)) hm (by omega)
    by_cases hb : m.testBit (xs[L[i].toNat]'(by omega)).toNat = true
    · have c3 := mt c1.mp (by rw [hb]; simp)
      rw [if_pos hb]
      simp (disch := first | assumption | omega | (simp [*] <;> omega) | fail) [hu.vidx, hu.vload, hq.vlen, hq.vidx, hq.vload, wrapu64, hlt', c3]
    · have c3 := c1.mpr (by simpa using hb)
      have ih := l_zz53_2 u q x3 x4 x9 xs L H hu hq h3 h4 h9 hL hx hl (i + 1) hlt _ (put_lt hm (show xs[L[i].toNat]'(by omega) ≤ 61 by omega))
      rw [show ((i + 1 : Nat) : Int) = (i : Int) + 1 by omega] at ih
      rw [if_neg hb]
      simp (disch := first | assumption | omega | (simp [*] <;> omega) | fail) [hu.vidx, hu.vload, hq.vlen, hq.vidx, hq.vload, wrapu64, wrap64, hlt', c3, c2, ih]
  · have hlt' : ¬ (i : Int) < L.length := by omega
    rw [List.drop_eq_nil_of_le (by omega), covGo]
    simp (disch := first | assumption | omega | (simp [*] <;> omega) | fail) [hq.vlen, hlt']
 termination_by L.length - i
abbrev cH (h : VH) (n : Int) (s : Value) (m : Int) (t : Value) : VH := h ++ [⟨0, [.int .i64 n, s]⟩, ⟨0, [.int .i64 m, t]⟩]
open Classical in
theorem l_zz53_1 (n m : Int) (s t u : Value) (xs : List Int) (h : VH) (hu : Sli h u xs) (hsc : ∀ k, OldC (h.length + k) s) (htc : ∀ k, OldC (h.length + k) t) (hl : xs.length ≤ 9223372036854775806) (hm : 1 ≤ m) (hm2 : m ≤ 62) :
  floop (vcall F nro) nro [2, 3, 4, 8] i_zz53_B1 (cH h n s m t) [u, bp h, cp h, .int .i64 0] (cH h n s m t) =
   if badV m xs then some (.ret, fl [(6, .bool false), (7, .int .i64 2)], cH h n s m t) else some (.exit 0, fl [(2, u), (3, bp h), (4, cp h)], cH h n s m t) := by
 have huo := fun k => hu.oldk (k := k)
 refine search (fun i => floop (vcall F nro) nro [2, 3, 4, 8] i_zz53_B1 (cH h n s m t) [u, bp h, cp h, .int .i64 i] (cH h n s m t)) (fun i => ¬ (0 ≤ xs.getD i.toNat 0 ∧ xs.getD i.toNat 0 < m)) _ _ xs.length 0 ?_ ?_ 0 (by omega)
 ·intro i hi hlt
  have e1 : xs.getD i.toNat 0 = xs[i.toNat]'(by omega) := getD_at _ (by omega)
  have hc := fun L (x a b : Int) => c_zz75 (nro := nro) x a b (h ++ L)
  rw [floop_at i_zz53_B1.eq_1, e1]
  have e2 : xs[i.toNat]'(by omega) ≤ m - 1 ↔ xs[i.toNat]'(by omega) < m := by omega
  constructor <;> intro hb
  ·by_cases h0 : 0 ≤ xs[i.toNat]'(by omega)
   ·have h1 : ¬ xs[i.toNat]'(by omega) < m := fun h1 => hb ⟨h0, h1⟩
    simp (disch := first | assumption | omega | (simp [*] <;> omega) | fail) [hu.vlen', hu.vidx', hu.vload', wrap64, hlt, h0, h1, hc, e2]
   ·simp (disch := first | assumption | omega | (simp [*] <;> omega) | fail) [hu.vlen', hu.vidx', hu.vload', wrap64, hlt, h0, hc, e2]
  ·obtain ⟨h0, h1⟩ := Classical.not_not.mp hb
   simp (disch := first | assumption | omega | (simp [*] <;> omega) | fail) [hu.vlen', hu.vidx', hu.vload', wrap64, hlt, h0, h1, hc, e2]
 ·intro i hi hlt
  rw [floop_at i_zz53_B1.eq_1]
  simp (disch := first | assumption | omega | (simp [*] <;> omega) | fail) [hu.vlen', hlt]
theorem mem_nb {n : Int} {rows : List Int} {v : Nat} (g : GV n rows) {w : Int} (h : w ∈ nb rows v n.toNat) : 0 ≤ w ∧ w < n := by
 have := (nbF_mem rows v n.toNat 0 w).mp h
 have := g.lo
 omega
theorem notBad {m : Int} {xs : List Int} (h : ¬ badV m xs) (j : Nat) (hj : j < xs.length) : 0 ≤ xs.getD j 0 ∧ xs.getD j 0 < m := by
 apply Classical.byContradiction
 intro hb
 exact h ⟨j, by omega, by omega, by simpa using hb⟩
theorem nb_len {n : Int} {rows : List Int} {v : Nat} (g : GV n rows) : (nb rows v n.toNat).length ≤ 62 := by
 have := nbF_len rows v n.toNat 0 (by omega)
 have := g.hi
 unfold nb
 omega
theorem search2 {α : Type} (f : Int → α) (bad : Int → Prop) (R : α → Prop) (d : α) (n lo : Int) (hstep : ∀ i, lo ≤ i → i < n → (bad i → R (f i)) ∧ (¬ bad i → f i = f (i + 1))) (hend : ∀ i, lo ≤ i → ¬ i < n → f i = d) (i : Int) (hi : lo ≤ i) :
    ((∃ j, i ≤ j ∧ j < n ∧ bad j) → R (f i)) ∧ ((¬ ∃ j, i ≤ j ∧ j < n ∧ bad j) → f i = d) := by
  by_cases hlt : i < n
  · by_cases hb : bad i
    · exact ⟨fun _ => (hstep i hi hlt).1 hb, fun h => absurd ⟨i, Int.le_refl _, hlt, hb⟩ h⟩
    · rw [(hstep i hi hlt).2 hb]
      have ih := search2 f bad R d n lo hstep hend (i + 1) (by omega)
      have : (∃ j, i + 1 ≤ j ∧ j < n ∧ bad j) ↔ ∃ j, i ≤ j ∧ j < n ∧ bad j := by
        constructor
        · rintro ⟨j, h1, h2, h3⟩; exact ⟨j, by omega, h2, h3⟩
        · rintro ⟨j, h1, h2, h3⟩
          refine ⟨j, ?_, h2, h3⟩
          have : j ≠ i := fun e => hb (e ▸ h3)
          omega
      rw [this] at ih
      exact ih
  · refine ⟨?_, fun _ => hend i hi hlt⟩
    rintro ⟨j, h1, h2, _⟩
    omega
 termination_by (n - i).toNat
theorem l_zz53_3 (n m : Int) (s t u : Value) (rows hrows xs : List Int) (h : VH) (hs : Sli h s rows) (ht : Sli h t hrows) (hu : Sli h u xs) (hn : nro ≤ h.length) (g : GV n rows) (gm : GV m hrows) (hl : (xs.length : Int) = n) (hb : ¬ badV m xs) :
  ((∃ j : Int, 0 ≤ j ∧ j < n ∧ ¬ covAt n rows hrows xs j.toNat) → ∃ M, floop (vcall F nro) nro [2, 3, 4, 9] i_zz53_B3 (cH h n s m t) [u, bp h, cp h, .int .i64 0] (cH h n s m t) = some (.ret, fl [(6, .bool false), (7, .int .i64 0)], h ++ M)) ∧
  ((¬ ∃ j : Int, 0 ≤ j ∧ j < n ∧ ¬ covAt n rows hrows xs j.toNat) → floop (vcall F nro) nro [2, 3, 4, 9] i_zz53_B3 (cH h n s m t) [u, bp h, cp h, .int .i64 0] (cH h n s m t) = some (.exit 2, fl [], cH h n s m t)) := by
 have huo := fun k => hu.oldk (k := k)
 have hsc := fun k => hs.oldCk (k := k)
 have htc := fun k => ht.oldCk (k := k)
 have hn' := fun k => Nat.le_trans hn (Nat.le_add_right h.length k)
 have g0 := g.hi
 have gm0 := gm.hi
 have gml := gm.len
 refine search2 (fun i => floop (vcall F nro) nro [2, 3, 4, 9] i_zz53_B3 (cH h n s m t) [u, bp h, cp h, .int .i64 i] (cH h n s m t)) (fun i => ¬ covAt n rows hrows xs i.toNat) (fun z => ∃ M, z = some (.ret, fl [(6, .bool false), (7, .int .i64 0)], h ++ M)) _ n 0 ?_ ?_ 0 (by omega)
 ·intro i hi hlt
  obtain ⟨L, hL⟩ : ∃ L, L = nb rows i.toNat n.toNat := ⟨_, rfl⟩
  have hc := c_zz10 (nro := nro) n s rows (cH h n s m t) (hs.app _) (by simp; omega) g i hi hlt
  have hl2 := l_zz53_2 (nro := nro) u (.slice (some ⟨h.length + 2, 0, none⟩) L.length L.length) (bp h) (cp h) (.int .i64 i) xs L (cH h n s m t ++ [⟨1, ints L⟩]) ((hu.app _).app _) (sli_at (by simp)) (by simp) (by simp) (by simp)
   (fun w hw => by have := mem_nb g (hL ▸ hw); omega) (fun j hj => by have := notBad hb j hj; omega) (by have := nb_len (v := i.toNat) g; rw [hL]; omega) 0 (by omega) 0 (by omega)
  obtain ⟨x1, x2⟩ := notBad hb i.toNat (by omega)
  have e1 : xs.getD i.toNat 0 = xs[i.toNat]'(by omega) := getD_at _ (by omega)
  obtain ⟨r1, _, _⟩ := gm.row (xs.getD i.toNat 0).toNat (by omega)
  have hcov : covAt n rows hrows xs i.toNat ↔ covGo xs L 0 = some (hrows.getD (xs.getD i.toNat 0).toNat 0).toNat := by rw [hL]; rfl
  rw [e1] at x1 x2 r1
  have e2 : hrows.getD (xs[i.toNat]'(by omega)).toNat 0 = hrows[(xs[i.toNat]'(by omega)).toNat]'(by omega) := getD_at _ (by omega)
  rw [e1, e2] at hcov
  rw [e2] at r1
  rw [floop_at i_zz53_B3.eq_1, hcov]
  rw [← hL] at hc
  simp at hc hl2
  cases hg : covGo xs L 0 with
  | none =>
   rw [hg] at hl2
   simp at hl2
   constructor <;> intro hb2
   ·refine ⟨[⟨0, [.int .i64 n, s]⟩, ⟨0, [.int .i64 m, t]⟩, ⟨1, ints L⟩], ?_⟩
    simp (disch := first | assumption | omega | (simp [*] <;> omega) | fail) [wrap64, hlt, hc, hl2, hn', hsc, htc]
   ·simp at hb2
  | some z =>
   rw [hg] at hl2
   simp at hl2
   have e3 : ((z : Int) = hrows[(xs[i.toNat]'(by omega)).toNat]'(by omega)) ↔ z = (hrows[(xs[i.toNat]'(by omega)).toNat]'(by omega)).toNat := by omega
   constructor <;> intro hb2
   ·have hb3 : ¬ (z : Int) = hrows[(xs[i.toNat]'(by omega)).toNat]'(by omega) := by
     rw [e3]; intro e; exact hb2 (by rw [e])
    refine ⟨[⟨0, [.int .i64 n, s]⟩, ⟨0, [.int .i64 m, t]⟩, ⟨1, ints L⟩], ?_⟩
    simp (disch := first | assumption | omega | (simp [*] <;> omega) | fail) [wrap64, hlt, hc, hl2, hn', hsc, htc, hu.vidx', hu.vload', ht.vidx', ht.vload', hb3]
   ·have hb3 : (z : Int) = hrows[(xs[i.toNat]'(by omega)).toNat]'(by omega) := by
     rw [e3]; have := Classical.not_not.mp hb2; exact Option.some.inj this
    simp (disch := first | assumption | omega | (simp [*] <;> omega) | fail) [wrap64, hlt, hc, hl2, hn', hsc, htc, hu.vidx', hu.vload', ht.vidx', ht.vload', hb3]
 ·intro i hi hlt
  rw [floop_at i_zz53_B3.eq_1]
  simp (disch := first | assumption | omega | (simp [*] <;> omega) | fail) [hlt]
theorem cov_all {n : Int} {rows hrows xs : List Int} (g : GV n rows) : (∀ v, v < rows.length → covAt n rows hrows xs v) ↔ ¬ ∃ j : Int, 0 ≤ j ∧ j < n ∧ ¬ covAt n rows hrows xs j.toNat := by
 have hlen := g.len
 constructor
 ·rintro h1 ⟨j, h2, h3, h4⟩; exact h4 (h1 _ (by omega))
 ·intro h1 v hv
  apply Classical.byContradiction
  intro h2
  exact h1 ⟨v, by omega, by omega, by simpa using h2⟩
open Classical in
theorem c_zz53 (n m : Int) (s t u : Value) (rows hrows xs : List Int) (h : VH) (hs : Sli h s rows) (ht : Sli h t hrows) (hu : Sli h u xs) (hl : xs.length ≤ 9223372036854775806) (hn : nro ≤ h.length) :
  vcall F nro k_zz53 [gv n s, gv m t, u] h = some (.tuple #[.bool (coverAns n rows m hrows xs).1, .int .i64 (coverAns n rows m hrows xs).2], h) := by
 refine v_zz53 (by simp [i_zz53]) ?_
 rw [fbody_eq]
 have hsc := fun k => hs.oldCk (k := k)
 have htc := fun k => ht.oldCk (k := k)
 have hn' := fun k => Nat.le_trans hn (Nat.le_add_right h.length k)
 have hc1 := c_zz76 (nro := nro) n s rows (cH h n s m t) (hs.app _)
 have hc2 := c_zz76 (nro := nro) m t hrows (cH h n s m t) (ht.app _)
 by_cases g : GV n rows
 ·by_cases gm : GV m hrows
  ·by_cases hx : (xs.length : Int) = n
   ·have l1 := l_zz53_1 (nro := nro) n m s t u xs h hu hsc htc hl gm.lo gm.hi
    by_cases hb : badV m xs
    ·have e : coverAns n rows m hrows xs = (false, 2) := by simp [coverAns, g, gm, hb]
     rw [if_pos hb] at l1
     simp (disch := first | assumption | omega | (simp [*] <;> omega) | fail) [i_zz53, hc1, hc2, g, gm, hu.vlen', hx, l1, e]
    ·have l3 := l_zz53_3 (nro := nro) n m s t u rows hrows xs h hs ht hu hn g gm hx hb
     have hiff := cov_all (hrows := hrows) (xs := xs) g
     rw [if_neg hb] at l1
     by_cases hc : ∃ j : Int, 0 ≤ j ∧ j < n ∧ ¬ covAt n rows hrows xs j.toNat
     ·obtain ⟨M, l4⟩ := l3.1 hc
      have e : coverAns n rows m hrows xs = (false, 0) := by
       have := mt hiff.mp (Classical.not_not.mpr hc)
       simp only [coverAns, g, gm, hb, hx, this]
       simp
      clear l3 hiff hc
      simp (disch := first | assumption | omega | (simp [*] <;> omega) | fail) [i_zz53, hc1, hc2, g, gm, hu.vlen', hx, l1, l4, e]
     ·have l4 := l3.2 hc
      have e : coverAns n rows m hrows xs = (true, 0) := by
       have := hiff.mpr hc
       simp only [coverAns, g, gm, hb, hx]
       simp
       exact this
      clear l3 hiff hc
      simp (disch := first | assumption | omega | (simp [*] <;> omega) | fail) [i_zz53, hc1, hc2, g, gm, hu.vlen', hx, l1, l4, e]
   ·have e : coverAns n rows m hrows xs = (false, 2) := by simp [coverAns, g, gm, hx]
    simp (disch := first | assumption | omega | (simp [*] <;> omega) | fail) [i_zz53, hc1, hc2, g, gm, hu.vlen', hx, e]
  ·have e : coverAns n rows m hrows xs = (false, 1) := by simp [coverAns, gm]
   simp (disch := first | assumption | omega | (simp [*] <;> omega) | fail) [i_zz53, hc1, hc2, g, gm, e]
 ·have e : coverAns n rows m hrows xs = (false, 1) := by simp [coverAns, g]
  simp (disch := first | assumption | omega | (simp [*] <;> omega) | fail) [i_zz53, hc1, hc2, g, e]
theorem imgs_lt (xs : List Int) (hx : ∀ j : Nat, j < xs.length → 0 ≤ xs.getD j 0 ∧ xs.getD j 0 ≤ 61) : ∀ (r : List Int) (m : Nat), (∀ w ∈ r, 0 ≤ w ∧ w < xs.length) → m < 2 ^ 62 → imgs xs r m < 2 ^ 62
 | [], m, _, hm => hm
 | w :: r, m, hr, hm => by
  obtain ⟨h1, h2⟩ := hr w (by simp)
  obtain ⟨h3, h4⟩ := hx w.toNat (by omega)
  exact imgs_lt xs hx r _ (fun v hv => hr v (List.mem_cons_of_mem _ hv)) (put_lt hm h4)
abbrev cA (h : VH) (n : Int) (s : Value) (m : Int) (t : Value) : VH := h ++ [⟨0, [.int .i64 n, s]⟩, ⟨0, [.int .i64 m, t]⟩, ⟨2, [.int .i64 n, s, .int .i64 m, t]⟩]
theorem l_zz48_1 (n m : Int) (s t u : Value) (rows xs : List Int) (h : VH) (hs : Sli h s rows) (hu : Sli h u xs) (hsc : ∀ k, OldC (h.length + k) s) (htc : ∀ k, OldC (h.length + k) t) (g : GV n rows) (hl : (xs.length : Int) = n) (hx : ∀ j : Nat, j < xs.length → 0 ≤ xs.getD j 0 ∧ xs.getD j 0 ≤ 61) (v : Int) (hv : 0 ≤ v) (hvn : v < n) (w : Nat) (hw : w ≤ n.toNat) (z : Nat) (hz : z < 2 ^ 62) :
    floop (vcall F nro) nro [2, 3, 4, 8, 9, 28, 29, 33, 34] i_zz48_B1 (cA h n s m t) [u, bp h, cp h, .int .i64 v, .int .i64 z, .int .i64 n, .int .i64 v, .int .i64 n, .int .i64 w] (cA h n s m t) =
      some (.exit 2, fl [(2, u), (3, bp h), (4, cp h), (8, .int .i64 v), (9, .int .i64 (imgs xs (nbF rows v.toNat n.toNat w) z : Nat)), (28, .int .i64 n), (29, .int .i64 v)], cA h n s m t) := by
  have huo := fun k => hu.oldk (k := k)
  have g0 := g.hi
  have hlen := g.len
  have hp := pow_le62 g.hi
  obtain ⟨g1, g2, _⟩ := g.row v.toNat (by omega)
  rw [floop_at i_zz48_B1.eq_1]
  by_cases hlt : w < n.toNat
  · have hlt' : (w : Int) < n := by omega
    have hc := c_zz27 (nro := nro) n v w s rows (cA h n s m t) (hs.app _) hv (by omega) (by omega) (by omega) g1 (by omega)
    rw [nbF_step hlt]
    by_cases hb : rbit rows v.toNat w = true
    · obtain ⟨x1, x2⟩ := hx w (by omega)
      have e1 : xs.getD w 0 = xs[w]'(by omega) := getD_at _ (by omega)
      rw [e1] at x1 x2
      have c2 := bit_put (m := z) (x := xs[w]'(by omega)) hz x2
      have ih := l_zz48_1 n m s t u rows xs h hs hu hsc htc g hl hx v hv hvn (w + 1) hlt (z ||| 2 ^ (xs[w]'(by omega)).toNat) (put_lt hz x2)
      rw [show ((w + 1 : Nat) : Int) = (w : Int) + 1 by omega] at ih
      have e2 : imgs xs ([(w : Int)] ++ nbF rows v.toNat n.toNat (w + 1)) z = imgs xs (nbF rows v.toNat n.toNat (w + 1)) (z ||| 2 ^ (xs[w]'(by omega)).toNat) := by
        simp only [List.cons_append, List.nil_append, imgs, Int.toNat_natCast, e1]
      rw [if_pos hb, e2]
      simp (disch := first | assumption | omega | (simp [*] <;> omega) | fail) [wrap64, hlt', hc, hb, hsc, htc, hu.vidx', hu.vload', c2, ih]
    · have ih := l_zz48_1 n m s t u rows xs h hs hu hsc htc g hl hx v hv hvn (w + 1) hlt z hz
      rw [show ((w + 1 : Nat) : Int) = (w : Int) + 1 by omega] at ih
      rw [if_neg hb]
      simp (disch := first | assumption | omega | (simp [*] <;> omega) | fail) [wrap64, hlt', hc, hb, hsc, htc, ih]
  · have hlt' : ¬ (w : Int) < n := by omega
    rw [nbF_end hlt]
    simp (disch := first | assumption | omega | (simp [*] <;> omega) | fail) [hlt', imgs]
 termination_by n.toNat - w
theorem l_zz48_2 (n m : Int) (s t u : Value) (rows hrows xs : List Int) (h : VH) (hs : Sli h s rows) (ht : Sli h t hrows) (hu : Sli h u xs) (g : GV n rows) (gm : GV m hrows) (hl : (xs.length : Int) = n) (hb : ¬ badV m xs) :
  ((∃ j : Int, 0 ≤ j ∧ j < n ∧ ¬ covAt n rows hrows xs j.toNat) → ∃ M, floop (vcall F nro) nro [2, 3, 4, 28, 29] i_zz48_B2 (cA h n s m t) [u, bp h, cp h, .int .i64 n, .int .i64 0] (cA h n s m t) = some (.ret, fl [(6, .bool false), (7, .int .i64 0)], h ++ M)) ∧
  ((¬ ∃ j : Int, 0 ≤ j ∧ j < n ∧ ¬ covAt n rows hrows xs j.toNat) → floop (vcall F nro) nro [2, 3, 4, 28, 29] i_zz48_B2 (cA h n s m t) [u, bp h, cp h, .int .i64 n, .int .i64 0] (cA h n s m t) = some (.exit 0, fl [], cA h n s m t)) := by
 have huo := fun k => hu.oldk (k := k)
 have hsc := fun k => hs.oldCk (k := k)
 have htc := fun k => ht.oldCk (k := k)
 have g0 := g.hi
 have hlen := g.len
 have gm0 := gm.hi
 have gml := gm.len
 have hp := pow_le62 g.hi
 have hpm := pow_le62 gm.hi
 refine search2 (fun i => floop (vcall F nro) nro [2, 3, 4, 28, 29] i_zz48_B2 (cA h n s m t) [u, bp h, cp h, .int .i64 n, .int .i64 i] (cA h n s m t)) (fun i => ¬ covAt n rows hrows xs i.toNat) (fun z => ∃ M, z = some (.ret, fl [(6, .bool false), (7, .int .i64 0)], h ++ M)) _ n 0 ?_ ?_ 0 (by omega)
 ·intro i hi hlt
  have hx : ∀ j : Nat, j < xs.length → 0 ≤ xs.getD j 0 ∧ xs.getD j 0 ≤ 61 := fun j hj => by have := notBad hb j hj; omega
  have hl2 := l_zz48_1 (nro := nro) n m s t u rows xs h hs hu hsc htc g hl hx i hi hlt 0 (by omega) 0 (by omega)
  have hzl := imgs_lt xs hx (nb rows i.toNat n.toNat) 0 (fun w hw => by have := mem_nb g hw; omega) (by omega)
  obtain ⟨z, hz⟩ : ∃ z, z = imgs xs (nb rows i.toNat n.toNat) 0 := ⟨_, rfl⟩
  have hcov := covAt_iff (hrows := hrows) (xs := xs) g (v := i.toNat) (by omega)
  unfold nb at hz
  rw [← hz] at hl2
  unfold nb at hzl hcov
  rw [← hz] at hzl hcov
  obtain ⟨x1, x2⟩ := notBad hb i.toNat (by omega)
  have e1 : xs.getD i.toNat 0 = xs[i.toNat]'(by omega) := getD_at _ (by omega)
  obtain ⟨r1, _, _⟩ := gm.row (xs.getD i.toNat 0).toNat (by omega)
  obtain ⟨g1, g2, _⟩ := g.row i.toNat (by omega)
  rw [e1] at x1 x2 r1 hcov
  have e2 : hrows.getD (xs[i.toNat]'(by omega)).toNat 0 = hrows[(xs[i.toNat]'(by omega)).toNat]'(by omega) := getD_at _ (by omega)
  rw [e2] at r1 hcov
  have hs1 := c_zz80 (nro := nro) z (cA h n s m t) (by omega) (by omega)
  have hd1 := c_zz12 (nro := nro) n i s rows (cA h n s m t) (hs.app _) hi (by omega) g1 (by omega)
  rw [Int.toNat_natCast] at hs1
  have hrow : (z : Int) = hrows[(xs[i.toNat]'(by omega)).toNat]'(by omega) ↔ z = (hrows[(xs[i.toNat]'(by omega)).toNat]'(by omega)).toNat := by omega
  rw [floop_at i_zz48_B2.eq_1, hcov, ← hrow]
  obtain ⟨dg, hdg⟩ : ∃ dg, dg = pc (rows.getD i.toNat 0).toNat := ⟨_, rfl⟩
  rw [← hdg] at hd1 ⊢
  simp at hl2
  constructor <;> intro hb2
  ·refine ⟨[⟨0, [.int .i64 n, s]⟩, ⟨0, [.int .i64 m, t]⟩, ⟨2, [.int .i64 n, s, .int .i64 m, t]⟩], ?_⟩
   by_cases h1 : (z : Int) = hrows[(xs[i.toNat]'(by omega)).toNat]'(by omega)
   ·have h2 : ¬ pc z = dg := fun h2 => hb2 ⟨h1, h2⟩
    simp (disch := first | assumption | omega | (simp [*] <;> omega) | fail) [wrap64, hlt, hl2, hsc, htc, hu.vidx', hu.vload', ht.vidx', ht.vload', h1.symm, hs1, hd1, h2]
    intro h3
    omega
   ·simp (disch := first | assumption | omega | (simp [*] <;> omega) | fail) [wrap64, hlt, hl2, hsc, htc, hu.vidx', hu.vload', ht.vidx', ht.vload', h1]
  ·obtain ⟨h1, h2⟩ := Classical.not_not.mp hb2
   simp (disch := first | assumption | omega | (simp [*] <;> omega) | fail) [wrap64, hlt, hl2, hsc, htc, hu.vidx', hu.vload', ht.vidx', ht.vload', h1.symm, hs1, hd1, h2]
 ·intro i hi hlt
  rw [floop_at i_zz48_B2.eq_1]
  simp (disch := first | assumption | omega | (simp [*] <;> omega) | fail) [hlt]
theorem Sli.nj {h : VH} {v : Value} {xs : List Int} (hs : Sli h v xs) : isJunk v = false := by
 cases v <;> first | rfl | (simp [Sli, Sl, vsrc] at hs)
theorem c_impl_areGraphs2 (n m : Int) (s t : Value) (rows hrows : List Int) (b : Nat) (h : VH) (hs : Sli h s rows) (ht : Sli h t hrows) (hb : h[b]? = some ⟨2, [.int .i64 n, s, .int .i64 m, t]⟩) (hn : nro ≤ h.length) :
  vcall F nro k_zz31 [.slice (some ⟨b, 0, none⟩) 2 4] h = some (.bool (open Classical in decide (GV n rows ∧ GV m hrows)), h) := by
 refine v_zz31 (by simp [i_zz31]) ?_
 rw [fbody_eq]
 have hbl := (List.getElem?_eq_some_iff.mp hb).1
 have ho : ∀ k, Old (h.length + k) (.slice (some ⟨b, 0, none⟩) 2 4) := fun k r hr => by simp [trefs, vrefs, crefs, arefs] at hr; omega
 have ho0 : Old h.length (.slice (some ⟨b, 0, none⟩) 2 4) := ho 0
 have hn' := fun k => Nat.le_trans hn (Nat.le_add_right h.length k)
 clear hbl
 have js := hs.nj
 have jt := ht.nj
 unfold isJunk at js jt
 have hc1 := fun L => c_zz49 (nro := nro) n s rows (h ++ L) (hs.app _)
 have hc2 := fun L => c_zz49 (nro := nro) m t hrows (h ++ L) (ht.app _)
 have l2 : floop (vcall F nro) nro [5, 6, 7] i_zz31_B1 h [.slice (some ⟨b, 0, none⟩) 2 4, .int .i64 2, .int .i64 2] h = some (.exit 0, fl [], h) := by
  rw [floop_at i_zz31_B1.eq_1]
  simp (disch := first | assumption | omega | (simp [*] <;> omega) | fail) []
 by_cases g : GV n rows
 ·by_cases gm : GV m hrows
  ·have l1 : floop (vcall F nro) nro [5, 6, 7] i_zz31_B1 h [.slice (some ⟨b, 0, none⟩) 2 4, .int .i64 2, .int .i64 1] h = some (.exit 0, fl [], h) := by
    rw [floop_at i_zz31_B1.eq_1]
    simp (disch := first | assumption | omega | (simp [*] <;> omega) | fail) [hget_old hb, hb, hc2, gm, wrap64, l2, hn', hn, js, jt]
   have l0 : floop (vcall F nro) nro [5, 6, 7] i_zz31_B1 h [.slice (some ⟨b, 0, none⟩) 2 4, .int .i64 2, .int .i64 0] h = some (.exit 0, fl [], h) := by
    rw [floop_at i_zz31_B1.eq_1]
    simp (disch := first | assumption | omega | (simp [*] <;> omega) | fail) [hget_old hb, hb, hc1, g, wrap64, l1, hn', hn, js, jt]
   simp (disch := first | assumption | omega | (simp [*] <;> omega) | fail) [i_zz31, hb, l0, g, gm]
  ·have l1 : ∃ M, floop (vcall F nro) nro [5, 6, 7] i_zz31_B1 h [.slice (some ⟨b, 0, none⟩) 2 4, .int .i64 2, .int .i64 1] h = some (.ret, fl [(2, .bool false)], h ++ M) := by
    refine ⟨[⟨0, [.int .i64 m, t]⟩], ?_⟩
    rw [floop_at i_zz31_B1.eq_1]
    simp (disch := first | assumption | omega | (simp [*] <;> omega) | fail) [hget_old hb, hb, hc2, gm, wrap64, hn', hn, js, jt]
   obtain ⟨M, l1⟩ := l1
   have l0 : floop (vcall F nro) nro [5, 6, 7] i_zz31_B1 h [.slice (some ⟨b, 0, none⟩) 2 4, .int .i64 2, .int .i64 0] h = some (.ret, fl [(2, .bool false)], h ++ M) := by
    rw [floop_at i_zz31_B1.eq_1]
    simp (disch := first | assumption | omega | (simp [*] <;> omega) | fail) [hget_old hb, hb, hc1, g, wrap64, l1, hn', hn, js, jt]
   simp (disch := first | assumption | omega | (simp [*] <;> omega) | fail) [i_zz31, hb, l0, g, gm]
 ·have l0 : ∃ M, floop (vcall F nro) nro [5, 6, 7] i_zz31_B1 h [.slice (some ⟨b, 0, none⟩) 2 4, .int .i64 2, .int .i64 0] h = some (.ret, fl [(2, .bool false)], h ++ M) := by
   refine ⟨[⟨0, [.int .i64 n, s]⟩], ?_⟩
   rw [floop_at i_zz31_B1.eq_1]
   simp (disch := first | assumption | omega | (simp [*] <;> omega) | fail) [hget_old hb, hb, hc1, g, wrap64, hn', hn, js, jt]
  obtain ⟨M, l0⟩ := l0
  simp (disch := first | assumption | omega | (simp [*] <;> omega) | fail) [i_zz31, hb, l0, g]
open Classical in
theorem c_zz48 (n m : Int) (s t u : Value) (rows hrows xs : List Int) (h : VH) (hs : Sli h s rows) (ht : Sli h t hrows) (hu : Sli h u xs) (hl : xs.length ≤ 9223372036854775806) (hn : nro ≤ h.length) :
  vcall F nro k_zz48 [gv n s, gv m t, u] h = some (.tuple #[.bool (coverAns n rows m hrows xs).1, .int .i64 (coverAns n rows m hrows xs).2], h) := by
 refine v_zz48 (by simp [i_zz48]) ?_
 rw [fbody_eq]
 have hsc := fun k => hs.oldCk (k := k)
 have htc := fun k => ht.oldCk (k := k)
 have hn' := fun k => Nat.le_trans hn (Nat.le_add_right h.length k)
 let A : VO := ⟨2, [.int .i64 n, s, .int .i64 m, t]⟩
 have hc1 := c_impl_areGraphs2 (nro := nro) n m s t rows hrows (h.length + 2) (h ++ [⟨0, [.int .i64 n, s]⟩, ⟨0, [.int .i64 m, t]⟩, A]) (hs.app _) (ht.app _) (by simp [A]) (by simp; omega)
 have hc2 := fun L => c_zz33 (nro := nro) m t u hrows xs (h ++ L) (ht.app _) (hu.app _) hl
 have js := hs.nj
 have jt := ht.nj
 unfold isJunk at js jt
 simp only [A] at hc1
 by_cases gg : GV n rows ∧ GV m hrows
 ·obtain ⟨g, gm⟩ := gg
  by_cases hx : (xs.length : Int) = n
  ·by_cases hb : badV m xs
   ·have e : coverAns n rows m hrows xs = (false, 2) := by simp [coverAns, g, gm, hb]
    have e2 : vtxCode m hrows xs = 2 := by simp [vtxCode, gm, hb]
    simp (disch := first | assumption | omega | (simp [*] <;> omega) | fail) [i_zz48, hc1, hc2, g, gm, hu.vlen', hx, e, e2, js, jt]
   ·have e2 : vtxCode m hrows xs = 0 := by simp [vtxCode, gm, hb]
    have l3 := l_zz48_2 (nro := nro) n m s t u rows hrows xs h hs ht hu g gm hx hb
    by_cases hc : ∃ j : Int, 0 ≤ j ∧ j < n ∧ ¬ covAt n rows hrows xs j.toNat
    ·obtain ⟨M, l4⟩ := l3.1 hc
     have e : coverAns n rows m hrows xs = (false, 0) := by
      have := mt (cov_all g).mp (Classical.not_not.mpr hc)
      simp only [coverAns, g, gm, hb, hx, this]
      simp
     clear l3 hc
     simp (disch := first | assumption | omega | (simp [*] <;> omega) | fail) [i_zz48, hc1, hc2, g, gm, hu.vlen', hx, l4, e, e2, js, jt]
    ·have l4 := l3.2 hc
     have e : coverAns n rows m hrows xs = (true, 0) := by
      have := (cov_all g).mpr hc
      simp only [coverAns, g, gm, hb, hx]
      simp
      exact this
     clear l3 hc
     simp (disch := first | assumption | omega | (simp [*] <;> omega) | fail) [i_zz48, hc1, hc2, g, gm, hu.vlen', hx, l4, e, e2, js, jt]
  ·have e : coverAns n rows m hrows xs = (false, 2) := by simp [coverAns, g, gm, hx]
   simp (disch := first | assumption | omega | (simp [*] <;> omega) | fail) [i_zz48, hc1, hc2, g, gm, hu.vlen', hx, e, js, jt]
 ·have e : coverAns n rows m hrows xs = (false, 1) := by simp only [coverAns]; rw [if_pos gg]
  rw [decide_eq_false gg] at hc1
  simp (disch := first | assumption | omega | (simp [*] <;> omega) | fail) [i_zz48, hc1, e, js, jt]
end

/- Lifts of plain bases cover them. -/
section
open Go
theorem imgs_bit (xs : List Int) (j : Nat) : ∀ (r : List Int) (m : Nat), (imgs xs r m).testBit j = true ↔ m.testBit j = true ∨ ∃ w ∈ r, (xs.getD w.toNat 0).toNat = j
 | [], m => by simp [imgs]
 | w :: r, m => by
  have e1 : imgs xs (w :: r) m = imgs xs r (m ||| 2 ^ (xs.getD w.toNat 0).toNat) := rfl
  rw [e1, imgs_bit xs j r, Nat.testBit_or, Bool.or_eq_true, Nat.testBit_two_pow, decide_eq_true_iff, or_assoc]
  refine or_congr_right ?_
  constructor
  ·rintro (h | ⟨u, hu, h⟩)
   ·exact ⟨w, List.mem_cons_self, h⟩
   ·exact ⟨u, List.mem_cons_of_mem _ hu, h⟩
  ·rintro ⟨u, hu, h⟩
   rcases List.mem_cons.mp hu with rfl | hu
   ·exact .inl h
   ·exact .inr ⟨u, hu, h⟩
theorem covGo_ok (xs : List Int) : ∀ (r : List Int) (m : Nat), (∀ w ∈ r, ¬ m.testBit (xs.getD w.toNat 0).toNat = true) → r.Pairwise (fun u w => (xs.getD u.toNat 0).toNat ≠ (xs.getD w.toNat 0).toNat) → covGo xs r m = some (imgs xs r m)
 | [], m, _, _ => rfl
 | w :: r, m, h1, h2 => by
  have e1 : imgs xs (w :: r) m = imgs xs r (m ||| 2 ^ (xs.getD w.toNat 0).toNat) := rfl
  have e2 : covGo xs (w :: r) m = if m.testBit (xs.getD w.toNat 0).toNat then none else covGo xs r (m ||| 2 ^ (xs.getD w.toNat 0).toNat) := rfl
  rw [List.pairwise_cons] at h2
  rw [e1, e2, if_neg (h1 w List.mem_cons_self)]
  refine covGo_ok xs r _ (fun u hu => ?_) h2.2
  rw [Nat.testBit_or, Bool.or_eq_true, Nat.testBit_two_pow, decide_eq_true_iff]
  rintro (h | h)
  ·exact h1 u (List.mem_cons_of_mem _ hu) h
  ·exact h2.1 u hu h
theorem nbF_pw {rows : List Int} {v n : Nat} {p : Int → Int → Prop} (h : ∀ a b : Nat, rbit rows v a = true → rbit rows v b = true → a < b → b < n → p a b) (w : Nat) : (nbF rows v n w).Pairwise p := by
  by_cases hw : w < n
  · rw [nbF_step hw, List.pairwise_append]
    refine ⟨by split <;> simp, nbF_pw h (w + 1), ?_⟩
    intro a ha b hb
    split at ha
    · rename_i hb2
      rw [List.mem_singleton] at ha
      subst ha
      obtain ⟨b1, b2, b3⟩ := (nbF_mem rows v n (w + 1) b).mp hb
      obtain ⟨c, rfl⟩ : ∃ c : Nat, b = c := ⟨b.toNat, by omega⟩
      exact h w c hb2 (by simpa using b3) (by omega) (by omega)
    · simp at ha
  · rw [nbF_end hw]; exact List.Pairwise.nil
 termination_by n - w
def bse (a : Ar) : List Int := [if a.f ≤ a.t then a.f else a.t, if a.f ≤ a.t then a.t else a.f]
def Pln (A : List Ar) : Prop := (∀ a ∈ A, a.f ≠ a.t) ∧ (A.map bse).Nodup
def adjB (es : List (List Int)) (x y : Nat) : Prop := ∃ e ∈ es, joins (e.getD 0 0).toNat (e.getD 1 0).toNat x y
section
variable {N M K : Nat} {A : List Ar} (B : IsB N M A) (hK : K = N * M)
include B
theorem adjB_stp {x y : Nat} : adjB (A.map bse) x y ↔ ∃ t, t < 2 * A.length ∧ sF A t = (x : Int) ∧ sT A t = (y : Int) := by
 constructor
 ·rintro ⟨e, he, hj⟩
  obtain ⟨a, ha, rfl⟩ := List.mem_map.mp he
  obtain ⟨k, hk, rfl⟩ := List.getElem_of_mem ha
  obtain ⟨o1, o2, o3, o4, o5, o6⟩ := B.ok _ ha
  have e1 : sF A (2 * k) = A[k].f := by unfold sF; rw [if_pos (by omega), show 2 * k / 2 = k by omega, getD_atG hk]
  have e2 : sT A (2 * k) = A[k].t := by unfold sT; rw [if_pos (by omega), show 2 * k / 2 = k by omega, getD_atG hk]
  have e3 : sF A (2 * k + 1) = A[k].t := by unfold sF; rw [if_neg (by omega), show (2 * k + 1) / 2 = k by omega, getD_atG hk]
  have e4 : sT A (2 * k + 1) = A[k].f := by unfold sT; rw [if_neg (by omega), show (2 * k + 1) / 2 = k by omega, getD_atG hk]
  unfold joins bse at hj
  simp only [List.getD_cons_zero, List.getD_cons_succ] at hj
  by_cases c : ((x : Int) = A[k].f ∧ (y : Int) = A[k].t)
  ·exact ⟨2 * k, by omega, by rw [e1, c.1], by rw [e2, c.2]⟩
  ·refine ⟨2 * k + 1, by omega, ?_, ?_⟩
   ·rw [e3]; split at hj <;> omega
   ·rw [e4]; split at hj <;> omega
 ·rintro ⟨t, ht, h1, h2⟩
  have hk : t / 2 < A.length := by omega
  refine ⟨bse A[t / 2], List.mem_map.mpr ⟨_, List.getElem_mem hk, rfl⟩, ?_⟩
  unfold sF at h1
  unfold sT at h2
  rw [getD_atG hk] at h1 h2
  unfold joins bse
  simp only [List.getD_cons_zero, List.getD_cons_succ]
  split at h1 <;> rename_i c
  ·rw [if_pos c] at h2
   split <;> omega
  ·rw [if_neg c] at h2
   split <;> omega
omit B in
theorem stp_same (hP : Pln A) {t t' : Nat} (ht : t < 2 * A.length) (ht' : t' < 2 * A.length) (h1 : sF A t = sF A t') (h2 : sT A t = sT A t') : t = t' := by
 have hk : t / 2 < A.length := by omega
 have hk' : t' / 2 < A.length := by omega
 have nd := hP.2
 unfold List.Nodup at nd
 rw [List.pairwise_map] at nd
 have key : ∀ k k' (h : k < A.length) (h' : k' < A.length), k < k' → bse A[k] ≠ bse A[k'] := fun k k' h h' hlt => List.pairwise_iff_getElem.mp nd k k' h h' hlt
 unfold sF at h1
 unfold sT at h2
 rw [getD_atG hk, getD_atG hk'] at h1 h2
 have eb : bse A[t / 2] = bse A[t' / 2] := by
  unfold bse
  congr 1
  ·split at h1 <;> rename_i c <;> split at h1 <;> rename_i c' <;> simp only [if_pos, if_neg, c, c', not_false_eq_true] at h2 <;> split <;> split <;> omega
  ·congr 1
   split at h1 <;> rename_i c <;> split at h1 <;> rename_i c' <;> simp only [if_pos, if_neg, c, c', not_false_eq_true] at h2 <;> split <;> split <;> omega
 have ek : t / 2 = t' / 2 := by
  rcases Nat.lt_trichotomy (t / 2) (t' / 2) with c | c | c
  ·exact absurd eb (key _ _ hk hk' c)
  ·exact c
  ·exact absurd eb.symm (key _ _ hk' hk c)
 have hne := hP.1 _ (List.getElem_mem hk)
 simp only [← ek] at h1 h2
 by_cases c : t % 2 = 0 <;> by_cases c' : t' % 2 = 0
 ·omega
 ·rw [if_pos c, if_neg c'] at h1
  exact absurd h1 hne
 ·rw [if_neg c, if_pos c'] at h1
  exact absurd h1.symm hne
 ·omega
theorem base_is : IsAdj N (adjRows N (adjB (A.map bse))) (adjB (A.map bse)) := by
 have hn := B.n2
 refine adjRows_is fun v w _ h => ?_
 obtain ⟨t, ht, _, h2⟩ := (adjB_stp B).mp h
 obtain ⟨f, f1, f2⟩ := sT_nat B ht
 omega
theorem base_gv (hP : Pln A) : GV N (adjRows N (adjB (A.map bse))) := by
 have hn := B.n2
 have hn1 := B.n1
 refine GV.of (base_is B) (by omega) (by omega) (fun v w _ h => ?_) (fun v h => ?_) (fun v w h => ?_)
 ·obtain ⟨t, ht, _, h2⟩ := (adjB_stp B).mp h
  obtain ⟨f, f1, f2⟩ := sT_nat B ht
  omega
 ·obtain ⟨t, ht, h1, h2⟩ := (adjB_stp B).mp h
  have hk : t / 2 < A.length := by omega
  have hne := hP.1 _ (List.getElem_mem hk)
  unfold sF at h1
  unfold sT at h2
  rw [getD_atG hk] at h1 h2
  split at h1 <;> rename_i c
  ·rw [if_pos c] at h2; exact hne (h1.trans h2.symm)
  ·rw [if_neg c] at h2; exact hne (h2.trans h1.symm)
 ·obtain ⟨t, ht, h1, h2⟩ := (adjB_stp B).mp h
  exact (adjB_stp B).mpr ⟨back t, back_lt ht, by rw [sF_back]; exact h2, by rw [sT_back]; exact h1⟩
include hK
theorem cov_law (hF : Faith M A) (hP : Pln A) : coverAns K (liftR N M A) N (adjRows N (adjB (A.map bse))) (covL N M) = (true, 0) := by
 classical
 have g := lift_gv B hK
 have hI := liftR_is B hK
 have hM := B.m1
 have gb := base_gv B hP
 have hget : ∀ v : Nat, v < K → (covL N M).getD v 0 = ((v / M : Nat) : Int) := fun v hv => by
  unfold covL
  rw [getD_at _ (by simp; omega)]
  simp
 have hdiv : ∀ v : Nat, v < K → v / M < N := fun v hv => Nat.div_lt_of_lt_mul (by rw [Nat.mul_comm, ← hK]; exact hv)
 unfold coverAns
 rw [if_neg (fun h => h ⟨g, gb⟩), if_neg]
 ·congr 1
  rw [decide_eq_true_iff]
  intro v hv
  rw [hI.1] at hv
  unfold covAt
  rw [hget v hv, Int.toNat_natCast, Int.toNat_natCast]
  have mem : ∀ w : Int, w ∈ nb (liftR N M A) v K ↔ ∃ u : Nat, w = u ∧ u < K ∧ rbit (liftR N M A) v u = true := fun w => by
   unfold nb
   rw [nbF_mem]
   constructor
   ·rintro ⟨h1, h2, h3⟩
    exact ⟨w.toNat, by omega, by omega, h3⟩
   ·rintro ⟨u, rfl, h2, h3⟩
    exact ⟨by omega, by omega, by simpa using h3⟩
  rw [covGo_ok]
  ·congr 1
   have hb2 := ((base_is B).2 (v / M) (hdiv v hv)).2.2
   apply Nat.eq_of_testBit_eq
   intro j
   have : ∀ a b : Bool, (a = true ↔ b = true) → a = b := by decide
   refine this _ _ ?_
   rw [imgs_bit]
   have hbj := hb2 j
   unfold rbit at hbj
   rw [hbj, adjB_stp B]
   constructor
   ·rintro (h | ⟨w, hw, h⟩)
    ·simp at h
    ·obtain ⟨u, rfl, hu, hbit⟩ := (mem w).mp hw
     rw [Int.toNat_natCast, hget u hu, Int.toNat_natCast] at h
     obtain ⟨t, s1, s2, s3, _⟩ := stp_of_bit B hK hbit
     exact ⟨t, s1, s2, by rw [s3, h]⟩
   ·rintro ⟨t, h1, h2, h3⟩
    obtain ⟨f, f1, f2⟩ := sT_nat B h1
    have hjN : j < N := by omega
    have hlt : (v % M + sN M A t) % M < M := Nat.mod_lt _ (by omega)
    obtain ⟨p1, p2⟩ := place_div (t := j) hlt
    have S : Stp M A v (j * M + (v % M + sN M A t) % M) t := ⟨h1, h2, by rw [p1]; exact h3, p2⟩
    have hu : j * M + (v % M + sN M A t) % M < K := by rw [hK]; exact plc_lt hjN hlt
    refine .inr ⟨((j * M + (v % M + sN M A t) % M : Nat) : Int), (mem _).mpr ⟨_, rfl, hu, S.bit B hK hF⟩, ?_⟩
    rw [Int.toNat_natCast, hget _ hu, Int.toNat_natCast, p1]
  ·intro w _ h
   simp at h
  ·refine nbF_pw (fun a b ha hb hab hbK => ?_) 0
   rw [Int.toNat_natCast, Int.toNat_natCast, hget a (by omega), hget b hbK, Int.toNat_natCast, Int.toNat_natCast]
   intro e
   obtain ⟨t, sa⟩ := stp_of_bit B hK ha
   obtain ⟨t', sb⟩ := stp_of_bit B hK hb
   have : t = t' := stp_same hP sa.1 sb.1 (sa.2.1.trans sb.2.1.symm) (by rw [sa.2.2.1, sb.2.2.1, e])
   subst this
   have := sa.unique B sb
   omega
 ·rintro (h | ⟨j, h1, h2, h3⟩)
  ·exact h (by rw [covL_len, hK])
  ·rw [covL_len, ← hK] at h2
   obtain ⟨v, rfl⟩ : ∃ v : Nat, j = v := ⟨j.toNat, by omega⟩
   rw [Int.toNat_natCast, hget v (by omega)] at h3
   have := hdiv v (by omega)
   exact h3 ⟨Int.natCast_nonneg _, by exact_mod_cast this⟩
end
end

/- The search for regular graphs: both searches are one. -/
section
open Go
variable {nro : Nat}
theorem GV.put2 {n : Nat} {r : List Int} (g : GV n r) {v w : Nat} (hv : v < n) (hw : w < n) (hne : v ≠ w) : GV n (put2 r v w) := by
 have hlo := g.lo
 have R := g.rok
 have h := R.isAdj.put2 (a := (v : Int)) (b := (w : Int)) (by omega) (by omega) (by omega) (by omega) R.le
 simp only [Int.toNat_natCast] at h
 have R2 := R.put2 hv hw
 refine ⟨by omega, g.hi, by rw [h.1], fun x hx => ?_, fun x y hx hy => ?_⟩
 ·rw [h.1] at hx
  obtain ⟨r1, r2⟩ := R2.row x hx
  refine ⟨r1, ?_, ?_⟩
  ·have e : ((2 ^ n : Nat) : Int) = (2 : Int) ^ ((n : Int).toNat) := by simp
   rw [← e]; omega
  ·have := (h.2 x hx).2.2 x
   cases hb : rbit (Zv.put2 r v w) x x
   ·rfl
   ·rcases this.mp hb with h1 | ⟨h1, h2⟩ | ⟨h1, h2⟩
    ·exact absurd rfl (g.ne h1)
    ·omega
    ·omega
 ·rw [h.1] at hx hy
  have a := (h.2 x hx).2.2 y
  have b := (h.2 y hy).2.2 x
  rw [Bool.eq_iff_iff, a, b]
  constructor
  ·rintro (h1 | ⟨h1, h2⟩ | ⟨h1, h2⟩)
   ·exact .inl (g.sym' h1)
   ·exact .inr (.inr ⟨h2, h1⟩)
   ·exact .inr (.inl ⟨h2, h1⟩)
  ·rintro (h1 | ⟨h1, h2⟩ | ⟨h1, h2⟩)
   ·exact .inl (g.sym' h1)
   ·exact .inr (.inr ⟨h2, h1⟩)
   ·exact .inr (.inl ⟨h2, h1⟩)
def lefto (r : List Int) (o : Option (List Int)) : List Int := o.getD r
@[simp] theorem lefto_some (r r' : List Int) : lefto r (some r') = r' := rfl
@[simp] theorem lefto_none (r : List Int) : lefto r none = r := rfl
end

/- What the search finds is regular and has no short cycle. -/
section
open Go
section
variable {n : Nat} {r : List Int} (g : GV n r)
include g
omit g in
theorem Wk.mono {rows rows' : List Int} (h : ∀ x y, rbit rows x y = true → rbit rows' x y = true) : ∀ {k a b : Nat}, Wk rows k a b → Wk rows' k a b
 | 0, _, _, e => e
 | _ + 1, _, _, ⟨c, h1, h2⟩ => ⟨c, Wk.mono h h1, h _ _ h2⟩
end
end

/- The first cage graph: the program's and the reference's answers. -/
section
open Go
variable {nro : Nat}
theorem GV.zero {n : Nat} (h1 : 1 ≤ n) (h2 : n ≤ 62) : GV n (List.replicate n 0) := by
 have hr : ∀ v w, rbit (List.replicate n 0) v w = false := fun v w => by
  unfold rbit
  rw [List.getD_eq_getElem?_getD, List.getElem?_replicate]
  split <;> simp
 refine ⟨by omega, by omega, by simp, fun v hv => ⟨?_, ?_, hr v v⟩, fun v w _ _ => by rw [hr, hr]⟩
 ·rw [List.getD_eq_getElem?_getD, List.getElem?_replicate]; split <;> simp
 ·rw [List.getD_eq_getElem?_getD, List.getElem?_replicate]
  have : (0 : Int) < 2 ^ n := Int.pow_pos (by omega)
  split <;> simpa using this
def prS (n : Nat) (k c : Int) : Prop := (n * k) % 2 ≠ 0 ∨ n ≤ k ∨ (1 < k ∧ n < c)
def prI (n : Nat) (k c : Int) : Prop := (n * k) % 2 ≠ 0 ∨ n ≤ k ∨ (2 ≤ k ∧ n < gB k c.toNat)
instance (n : Nat) (k c : Int) : Decidable (prS n k c) := by unfold prS; infer_instance
instance (n : Nat) (k c : Int) : Decidable (prI n k c) := by unfold prI; infer_instance
end

/- Draws of graphs: graphs of so many vertices. -/
section
open Go
variable {nro : Nat}
theorem cleanup_one_upd {h h' L : VH} {v : Value} {k : Nat} {o : VO} (hu : Upd h h') (hv : trefs v = [h.length + k]) (hk : L[k]? = some o) (hf : flatO h.length o) :
  kclean h [v] (h' ++ L) = ([tren (renOf h.length [h.length + k]) v], h' ++ [o]) := by
 have e : keepL h.length [v] = [h.length + k] := by
  unfold keepL
  simp [hv, dedup]
 have hl : h'.length = h.length := hu.1
 have hg : (h' ++ L)[h.length + k]? = some o := by rw [← hl, hgetk]; exact hk
 have htake : (h' ++ L).take h.length = h' := by rw [← hl]; simp
 have hc : okT h.length h ((h' ++ L).take h.length) ∧ flatL h.length [h.length + k] (h' ++ L) := by
  refine ⟨by rw [htake]; exact hu.2, fun i hi => ⟨o, ?_, hf⟩⟩
  simp only [List.mem_singleton] at hi
  rw [hi]; exact hg
 unfold kclean cleanup
 rw [e, if_pos hc, htake]
 simp [hg]
theorem hgetS (H L : VH) (b : Nat) (o : VO) (k : Nat) : (H.set b o ++ L)[H.length + k]? = L[k]? := by
 rw [show H.length = (H.set b o).length by simp, hgetk]
theorem hsetS (H L : VH) (b : Nat) (o : VO) (k : Nat) (p : VO) : (H.set b o ++ L).set (H.length + k) p = H.set b o ++ L.set k p := by
 rw [show H.length = (H.set b o).length by simp, hsetk]
theorem hgetS0 (H L : VH) (b : Nat) (o : VO) : (H.set b o ++ L)[H.length]? = L[0]? := hgetS H L b o 0
theorem hsetS0 (H L : VH) (b : Nat) (o : VO) (p : VO) : (H.set b o ++ L).set H.length p = H.set b o ++ L.set 0 p := hsetS H L b o 0 p
section
variable {H : VH} {b : Nat} {cd : Value} {xs : List Int} {s : SS} (S : Srce nro H b cd xs s)
include S
def dgH (H : VH) (b : Nat) (cd : Value) (A B C : VO) (s : SS) (r : List Int) : VH := H.set b (srcO cd s) ++ [A, ⟨1, ints r⟩, B, C]
theorem dg_upd (A B C : VO) (s0 s1 : SS) (r0 r1 : List Int) : Upd (dgH H b cd A B C s0 r0) (dgH H b cd A B C s1 r1) := by
 have hlt := S.lt
 have hself : H.set b (srcO cd s) = H := hset_self S.at'
 have ho : Old H.length cd := by
  have := (S.sl (srcO cd s)).old
  rwa [hself] at this
 have h1 := ((Upd.rfl' (dgH H b cd A B C s0 r0)).set' (b := b) (o := srcO cd s1) (flatO_src (ho.le (by simp [dgH])) _)).set' (b := H.length + 1) (o := ⟨1, ints r1⟩) (flatO_ints _ _ _)
 have e : ((dgH H b cd A B C s0 r0).set b (srcO cd s1)).set (H.length + 1) ⟨1, ints r1⟩ = dgH H b cd A B C s1 r1 := by
  unfold dgH
  rw [List.set_append_left _ _ (by simpa using hlt), List.set_set, show H.length + 1 = (H.set b (srcO cd s1)).length + 1 by simp, hsetk]
  rfl
 rwa [e] at h1
theorem dg_clean {A B C : VO} {s0 s1 : SS} {r0 r1 : List Int} {vs : List Value} (hv : ∀ v ∈ vs, Old (H.length + 4) v) : kclean (dgH H b cd A B C s0 r0) vs (dgH H b cd A B C s1 r1) = (vs, dgH H b cd A B C s1 r1) := by
 have := cleanup_upd (L := []) (dg_upd S A B C s0 s1 r0 r1) (vs := vs) (fun v h => by simpa [dgH] using hv v h)
 rwa [List.append_nil] at this
theorem dg_next {A B C : VO} {s1 : SS} (h : SOK xs s1) (r : List Int) (n : Int) (h1 : n ≤ 9223372036854775807) : vcall F nro k_zz57 [.pointer (some ⟨b, 0, some 3⟩), .int .i64 n] (dgH H b cd A B C s1 r) = some (.int .i64 (srcN xs s1 n), dgH H b cd A B C (srcS xs s1 n) r) := S.nextA h _ n h1
theorem dg_put {A B C : VO} {s1 : SS} {N : Nat} {r : List Int} (hl : r.length = N) (hN : N ≤ 62) (v w : Nat) (hv : v < N) (hw : w < N) :
  vcall F nro k_zz70 [gv N (.slice (some ⟨H.length + 1, 0, none⟩) N N), .int .i64 v, .int .i64 w] (dgH H b cd A B C s1 r) = some (.tuple #[], dgH H b cd A B C s1 (put2 r v w)) := by
 have hn := S.nr
 have hlt := S.lt
 have hg : (dgH H b cd A B C s1 r)[H.length + 1]? = some ⟨1, ints r⟩ := by
  unfold dgH
  rw [show H.length + 1 = (H.set b (srcO cd s1)).length + 1 by simp, hgetk]; rfl
 rw [c_zz70 (nro := nro) N (H.length + 1) N v w r _ hg hl (by omega) (by omega) (by omega) (by omega) (by omega) hN]
 unfold dgH
 rw [show H.length + 1 = (H.set b (srcO cd s1)).length + 1 by simp, hsetk]; rfl
theorem l_l01DrawOf_1 {A B : VO} (s0 : SS) (o0 : SOK xs s0) (N : Nat) (h62 : N ≤ 62) (r0 : List Int) (g0 : GV N r0) (few : Int) (v : Nat) (hv : v < N) :
  ∃ s1 r1, SOK xs s1 ∧ GV N r1 ∧ floop (vcall F nro) nro [0, 1, 4, 5, 6, 7, 8] i_zz36_B1 (dgH H b cd A B ⟨0, [.int .i64 N, .slice (some ⟨H.length + 1, 0, none⟩) N N]⟩ s0 r0) [.pointer (some ⟨b, 0, some 3⟩), .int .i64 N, .pointer (some ⟨H.length, 0, some 2⟩), .pointer (some ⟨H.length + 3, 0, some 2⟩), .int .i64 few, .int .i64 v, .int .i64 0] (dgH H b cd A B ⟨0, [.int .i64 N, .slice (some ⟨H.length + 1, 0, none⟩) N N]⟩ s0 r0) =
   some (.exit 2, fl [(0, .pointer (some ⟨b, 0, some 3⟩)), (1, .int .i64 N), (4, .pointer (some ⟨H.length, 0, some 2⟩)), (5, .pointer (some ⟨H.length + 3, 0, some 2⟩)), (6, .int .i64 few), (7, .int .i64 v)], dgH H b cd A B ⟨0, [.int .i64 N, .slice (some ⟨H.length + 1, 0, none⟩) N N]⟩ s1 r1) := by
 have hlt := S.lt
 refine Exists.elim (for_upR (call := vcall F nro) (nro := nro) (live := [0, 1, 4, 5, 6, 7, 8]) (c := i_zz36_B1) (h0 := dgH H b cd A B ⟨0, [.int .i64 N, .slice (some ⟨H.length + 1, 0, none⟩) N N]⟩ s0 r0) (n := v) (fun w (_ : SS × List Int) => [.pointer (some ⟨b, 0, some 3⟩), .int .i64 N, .pointer (some ⟨H.length, 0, some 2⟩), .pointer (some ⟨H.length + 3, 0, some 2⟩), .int .i64 few, .int .i64 v, .int .i64 w]) (fun _ p => dgH H b cd A B ⟨0, [.int .i64 N, .slice (some ⟨H.length + 1, 0, none⟩) N N]⟩ p.1 p.2)
  (fun _ p => SOK xs p.1 ∧ GV N p.2) (fun p => some (.exit 2, fl [(0, .pointer (some ⟨b, 0, some 3⟩)), (1, .int .i64 N), (4, .pointer (some ⟨H.length, 0, some 2⟩)), (5, .pointer (some ⟨H.length + 3, 0, some 2⟩)), (6, .int .i64 few), (7, .int .i64 v)], dgH H b cd A B ⟨0, [.int .i64 N, .slice (some ⟨H.length + 1, 0, none⟩) N N]⟩ p.1 p.2)) ?_ ?_ 0 (s0, r0) (Nat.zero_le _) ⟨o0, g0⟩) ?_
 ·rintro w ⟨s1, r1⟩ hw hw2 ⟨o1, g1⟩
  dsimp only at o1 g1 ⊢
  have e1 := dg_next (nro := nro) S (A := A) (B := B) (C := ⟨0, [.int .i64 N, .slice (some ⟨H.length + 1, 0, none⟩) N N]⟩) o1 r1 N (by omega)
  have o2 := srcS_ok o1 (N : Int)
  obtain ⟨x, hx⟩ : ∃ x, x = srcN xs s1 N := ⟨_, rfl⟩
  obtain ⟨s2, hs2⟩ : ∃ q, q = srcS xs s1 N := ⟨_, rfl⟩
  rw [← hx, ← hs2] at e1
  rw [← hs2] at o2
  have w1 : IntKind.i64.wrap ((w : Int) + 1) = (w : Int) + 1 := wrap64 (by omega) (by omega)
  have hcl := fun (r : List Int) (vs : List Value) => dg_clean S (A := A) (B := B) (C := ⟨0, [.int .i64 N, .slice (some ⟨H.length + 1, 0, none⟩) N N]⟩) (s0 := s0) (s1 := s2) (r0 := r0) (r1 := r) (vs := vs)
  have hg5 : ∀ (s1 : SS) (r : List Int), (dgH H b cd A B ⟨0, [.int .i64 N, .slice (some ⟨H.length + 1, 0, none⟩) N N]⟩ s1 r)[H.length + 3]? = some ⟨0, [.int .i64 N, .slice (some ⟨H.length + 1, 0, none⟩) N N]⟩ := fun s1 r => by
   unfold dgH
   rw [show H.length + 3 = (H.set b (srcO cd s1)).length + 3 by simp, hgetk]; rfl
  have hlen : (dgH H b cd A B ⟨0, [.int .i64 N, .slice (some ⟨H.length + 1, 0, none⟩) N N]⟩ s0 r0).length = H.length + 4 := by simp [dgH]
  have hb4 : b < H.length + 4 := by omega
  by_cases c : x < few
  ·have e2 := dg_put (nro := nro) S (A := A) (B := B) (C := ⟨0, [.int .i64 N, .slice (some ⟨H.length + 1, 0, none⟩) N N]⟩) (s1 := s2) g1.rok.len h62 v w hv (by omega)
   have g2 := g1.put2 hv (show w < N by omega) (by omega)
   refine ⟨(s2, put2 r1 v w), ⟨o2, g2⟩, ?_⟩
   obtain ⟨r2, hr2⟩ : ∃ r, r = put2 r1 v w := ⟨_, rfl⟩
   rw [← hr2] at e2 ⊢
   clear hx hs2 hr2 g1 g2 g0 S
   rw [floop_at i_zz36_B1.eq_1]
   simp (disch := first | assumption | omega | (simp [*] <;> omega) | fail) [-getElem?_pos, List.getElem?_cons_zero, List.getElem?_cons_succ, hw, hw2, e1, e2, c, w1, hcl, hg5, hlen, hb4]
  ·refine ⟨(s2, r1), ⟨o2, g1⟩, ?_⟩
   clear hx hs2 g1 g0 S
   rw [floop_at i_zz36_B1.eq_1]
   simp (disch := first | assumption | omega | (simp [*] <;> omega) | fail) [-getElem?_pos, List.getElem?_cons_zero, List.getElem?_cons_succ, hw, hw2, e1, c, w1, hcl, hg5, hlen, hb4]
 ·rintro ⟨s1, r1⟩ _
  have hlen : (dgH H b cd A B ⟨0, [.int .i64 N, .slice (some ⟨H.length + 1, 0, none⟩) N N]⟩ s0 r0).length = H.length + 4 := by simp [dgH]
  rw [floop_at i_zz36_B1.eq_1]
  simp (disch := first | assumption | omega | (simp [*] <;> omega) | fail) [-getElem?_pos, List.getElem?_cons_zero, List.getElem?_cons_succ, hlen]
 ·rintro ⟨s1, r1⟩ ⟨⟨o1, g1⟩, hf⟩
  exact ⟨s1, r1, o1, g1, hf⟩
theorem l_l01DrawOf_2 {A B : VO} (s0 : SS) (o0 : SOK xs s0) (N : Nat) (h62 : N ≤ 62) (r0 : List Int) (g0 : GV N r0) (few : Int) :
  ∃ s1 r1, SOK xs s1 ∧ GV N r1 ∧ floop (vcall F nro) nro [0, 1, 4, 5, 6, 7] i_zz36_B2 (dgH H b cd A B ⟨0, [.int .i64 N, .slice (some ⟨H.length + 1, 0, none⟩) N N]⟩ s0 r0) [.pointer (some ⟨b, 0, some 3⟩), .int .i64 N, .pointer (some ⟨H.length, 0, some 2⟩), .pointer (some ⟨H.length + 3, 0, some 2⟩), .int .i64 few, .int .i64 0] (dgH H b cd A B ⟨0, [.int .i64 N, .slice (some ⟨H.length + 1, 0, none⟩) N N]⟩ s0 r0) =
   some (.exit 0, fl [(4, .pointer (some ⟨H.length, 0, some 2⟩)), (5, .pointer (some ⟨H.length + 3, 0, some 2⟩))], dgH H b cd A B ⟨0, [.int .i64 N, .slice (some ⟨H.length + 1, 0, none⟩) N N]⟩ s1 r1) := by
 have hlt := S.lt
 refine Exists.elim (for_upR (call := vcall F nro) (nro := nro) (live := [0, 1, 4, 5, 6, 7]) (c := i_zz36_B2) (h0 := dgH H b cd A B ⟨0, [.int .i64 N, .slice (some ⟨H.length + 1, 0, none⟩) N N]⟩ s0 r0) (n := N) (fun v (_ : SS × List Int) => [.pointer (some ⟨b, 0, some 3⟩), .int .i64 N, .pointer (some ⟨H.length, 0, some 2⟩), .pointer (some ⟨H.length + 3, 0, some 2⟩), .int .i64 few, .int .i64 v]) (fun _ p => dgH H b cd A B ⟨0, [.int .i64 N, .slice (some ⟨H.length + 1, 0, none⟩) N N]⟩ p.1 p.2)
  (fun _ p => SOK xs p.1 ∧ GV N p.2) (fun p => some (.exit 0, fl [(4, .pointer (some ⟨H.length, 0, some 2⟩)), (5, .pointer (some ⟨H.length + 3, 0, some 2⟩))], dgH H b cd A B ⟨0, [.int .i64 N, .slice (some ⟨H.length + 1, 0, none⟩) N N]⟩ p.1 p.2)) ?_ ?_ 0 (s0, r0) (Nat.zero_le _) ⟨o0, g0⟩) ?_
 ·rintro v ⟨s1, r1⟩ hv hv2 ⟨o1, g1⟩
  dsimp only at o1 g1 ⊢
  obtain ⟨s2, r2, o2, g2, lp⟩ := l_l01DrawOf_1 (nro := nro) S (A := A) (B := B) s1 o1 N h62 r1 g1 few v hv
  have w1 : IntKind.i64.wrap ((v : Int) + 1) = (v : Int) + 1 := wrap64 (by omega) (by omega)
  have hcl := fun (vs : List Value) => dg_clean S (A := A) (B := B) (C := ⟨0, [.int .i64 N, .slice (some ⟨H.length + 1, 0, none⟩) N N]⟩) (s0 := s0) (s1 := s2) (r0 := r0) (r1 := r2) (vs := vs)
  have hlen : ∀ s r, (dgH H b cd A B ⟨0, [.int .i64 N, .slice (some ⟨H.length + 1, 0, none⟩) N N]⟩ s r).length = H.length + 4 := fun s r => by simp [dgH]
  have hb4 : b < H.length + 4 := by omega
  refine ⟨(s2, r2), ⟨o2, g2⟩, ?_⟩
  clear g1 g2 g0 S
  rw [floop_at i_zz36_B2.eq_1]
  simp (disch := first | assumption | omega | (simp [*] <;> omega) | fail) [-getElem?_pos, List.getElem?_cons_zero, List.getElem?_cons_succ, hv, hv2, lp, w1, hcl, hlen, hb4]
 ·rintro ⟨s1, r1⟩ _
  have hlen : (dgH H b cd A B ⟨0, [.int .i64 N, .slice (some ⟨H.length + 1, 0, none⟩) N N]⟩ s0 r0).length = H.length + 4 := by simp [dgH]
  rw [floop_at i_zz36_B2.eq_1]
  simp (disch := first | assumption | omega | (simp [*] <;> omega) | fail) [-getElem?_pos, List.getElem?_cons_zero, List.getElem?_cons_succ, hlen]
 ·rintro ⟨s1, r1⟩ ⟨⟨o1, g1⟩, hf⟩
  exact ⟨s1, r1, o1, g1, hf⟩
theorem c_zz36 (N : Nat) (h1 : 1 ≤ N) (h62 : N ≤ 62) : ∃ rows s', SOK xs s' ∧ GV N rows ∧
  vcall F nro k_zz36 [.pointer (some ⟨b, 0, some 3⟩), .int .i64 N] H = some (gv N (.slice (some ⟨H.length, 0, none⟩) N N), H.set b (srcO cd s') ++ [⟨1, ints rows⟩]) := by
 have hlt := S.lt
 have hnb := S.nr
 have hn : nro ≤ H.length := by omega
 have hn' := fun k => Nat.le_trans hn (Nat.le_add_right H.length k)
 have hself : H.set b (srcO cd s) = H := hset_self S.at'
 have he := c_zz43 (nro := nro) N (H ++ [⟨0, [.int .i64 0, .slice none 0 0]⟩]) (by omega) (by omega) (by simp; omega)
 rw [Int.toNat_natCast] at he
 have o1 := srcS_ok S.ok ((5 : Nat) : Int)
 have e2 := S.pickA S.ok [⟨0, [.int .i64 0, .slice none 0 0]⟩, ⟨1, ints (List.replicate N 0)⟩, ⟨1, ints [1, 2, 3, 4, (N : Int)]⟩] 2 5 [1, 2, 3, 4, (N : Int)] rfl rfl (by omega) (by omega)
 obtain ⟨few, hfew⟩ : ∃ x, x = [1, 2, 3, 4, (N : Int)].getD (srcN xs s ((5 : Nat) : Int)).toNat 0 := ⟨_, rfl⟩
 obtain ⟨s1, hs1⟩ : ∃ q, q = srcS xs s ((5 : Nat) : Int) := ⟨_, rfl⟩
 rw [← hfew, ← hs1, hself] at e2
 rw [← hs1] at o1
 obtain ⟨s2, r2, o2, g2, lp⟩ := l_l01DrawOf_2 (nro := nro) S (A := ⟨0, [.int .i64 0, .slice none 0 0]⟩) (B := ⟨1, ints [1, 2, 3, 4, (N : Int)]⟩) s1 o1 N h62 (List.replicate N 0) (GV.zero h1 h62) few
 refine ⟨r2, s2, o2, g2, ?_⟩
 have hl2 := g2.rok.len
 have ho : Old H.length cd := by
  have := (S.sl (srcO cd s)).old
  rwa [hself] at this
 have hcl : ∀ (L : VH), L[1]? = some ⟨1, ints r2⟩ → kclean H [.agg #[.int .i64 N, .slice (some ⟨H.length + 1, 0, none⟩) N N]] (H.set b (srcO cd s2) ++ L) = ([.agg #[.int .i64 N, .slice (some ⟨H.length, 0, none⟩) N N]], H.set b (srcO cd s2) ++ [⟨1, ints r2⟩]) := fun L hL => by
  rw [cleanup_one_upd (k := 1) (o := ⟨1, ints r2⟩) ((Upd.rfl' H).set' (b := b) (flatO_src ho s2)) (by simp [trefs, vrefs, crefs, arefs]) hL (flatO_ints _ _ _)]
  simp [tren, vren, cren, aren, renOf_one]
 refine v_zz36 (by simp [i_zz36]) ?_
 rw [fbody_eq]
 unfold dgH at lp
 have hi5 : ints [1, 2, 3, 4, (N : Int)] = [.int .i64 1, .int .i64 2, .int .i64 3, .int .i64 4, .int .i64 N] := rfl
 rw [hi5] at e2 lp
 simp [-List.reduceReplicate] at he lp
 clear hfew hs1 g2 hi5 hself o1 o2 hl2 hnb
 simp (disch := first | assumption | omega | (simp [*] <;> omega) | fail) [-getElem?_pos, List.getElem?_cons_zero, List.getElem?_cons_succ, i_zz36, fresults, fresL, fres1, he, e2, lp, hgetS, hsetS, hgetS0, hsetS0, hcl, hn, hn']
end
end

/- Graphs made edge by edge: jump graphs, renumbered graphs. -/
section
open Go
variable {nro : Nat}
theorem mk_upd (P C : VH) (r0 r1 : List Int) : Upd (P ++ ⟨1, ints r0⟩ :: C) (P ++ ⟨1, ints r1⟩ :: C) := by
 have h1 := (Upd.rfl' (P ++ ⟨1, ints r0⟩ :: C)).set' (b := P.length) (o := ⟨1, ints r1⟩) (flatO_ints _ _ _)
 rwa [hset0] at h1
theorem mk_clean {P C : VH} {r0 r1 : List Int} {vs : List Value} (hv : ∀ v ∈ vs, Old (P ++ ⟨1, ints r0⟩ :: C).length v) : kclean (P ++ ⟨1, ints r0⟩ :: C) vs (P ++ ⟨1, ints r1⟩ :: C) = (vs, P ++ ⟨1, ints r1⟩ :: C) := by
 have := cleanup_upd (L := []) (mk_upd P C r0 r1) (vs := vs) hv
 rwa [List.append_nil] at this
end

/- Graphs of lists of edges. -/
section
open Go
variable {nro : Nat}
def okE (n : Nat) (e : List Int) : Prop := ∃ u w : Nat, e = [(u : Int), (w : Int)] ∧ u ≠ w ∧ u < n ∧ w < n
theorem adjB_snoc {es : List (List Int)} {u w x y : Nat} : adjB (es ++ [[(u : Int), (w : Int)]]) x y ↔ adjB es x y ∨ joins u w x y := by
 unfold adjB
 constructor
 ·rintro ⟨e, he, hj⟩
  rcases List.mem_append.mp he with h | h
  ·exact .inl ⟨e, h, hj⟩
  ·rw [List.mem_singleton] at h
   subst h
   exact .inr (by simpa using hj)
 ·rintro (⟨e, he, hj⟩ | hj)
  ·exact ⟨e, List.mem_append_left _ he, hj⟩
  ·exact ⟨_, List.mem_append_right _ (List.mem_singleton.mpr rfl), by simpa using hj⟩
abbrev goH (h : VH) (n : Nat) (r : List Int) : VH := h ++ [⟨0, [.int .i64 0, .slice none 0 0]⟩, ⟨1, ints r⟩, ⟨0, [.int .i64 n, .slice (some ⟨h.length + 1, 0, none⟩) n n]⟩]
section
variable {h : VH} {q : Value} {es : List (List Int)} (hq : LL h q es) (hn : nro ≤ h.length) {n : Nat} (h1 : 1 ≤ n) (h62 : n ≤ 62) (hl : es.length ≤ 4000) (hok : ∀ e ∈ es, okE n e)
include hq hn h1 h62 hl hok
theorem l_zz47 :
  ∃ r, IsAdj n r (adjB es) ∧ floop (vcall F nro) nro [0, 4, 6, 23, 24, 25] i_zz47_B1 (goH h n (List.replicate n 0)) [.int .i64 n, .pointer (some ⟨h.length, 0, some 2⟩), .pointer (some ⟨h.length + 2, 0, some 2⟩), q, .int .i64 es.length, .int .i64 0] (goH h n (List.replicate n 0)) =
   some (.exit 0, fl [(4, .pointer (some ⟨h.length, 0, some 2⟩)), (6, .pointer (some ⟨h.length + 2, 0, some 2⟩))], goH h n r) := by
 obtain ⟨vs, v1, v2, v3⟩ := hq
 have oq : ∀ k, Old (h.length + k) q := fun k => v2.old.le (by omega)
 refine Exists.elim (for_upR (call := vcall F nro) (nro := nro) (live := [0, 4, 6, 23, 24, 25]) (c := i_zz47_B1) (h0 := goH h n (List.replicate n 0)) (n := es.length)
  (fun i (_ : List Int) => [.int .i64 n, .pointer (some ⟨h.length, 0, some 2⟩), .pointer (some ⟨h.length + 2, 0, some 2⟩), q, .int .i64 es.length, .int .i64 i])
  (fun _ r => goH h n r) (fun i r => IsAdj n r (adjB (es.take i)))
  (fun r => some (.exit 0, fl [(4, .pointer (some ⟨h.length, 0, some 2⟩)), (6, .pointer (some ⟨h.length + 2, 0, some 2⟩))], goH h n r)) ?_ ?_ 0 (List.replicate n 0) (Nat.zero_le _) ?_) ?_
 ·intro i r hi hi2 hI
  have hiv : i < vs.length := by omega
  obtain ⟨u, w, he, hne, hu, hw⟩ := hok _ (List.getElem_mem hi)
  have hadj : ∀ x y, x < n → (adjB (es.take i) x y ∨ (x = u ∧ y = w) ∨ (x = w ∧ y = u) ↔ adjB (es.take (i + 1)) x y) := fun x y _ => by
   rw [List.take_succ_eq_append_getElem hi, he, adjB_snoc]
   exact Iff.rfl
  have hp := (hI.put2 (a := (u : Int)) (b := (w : Int)) (by omega) (by omega) (by omega) (by omega) h62).congr hadj
  refine ⟨put2 r u w, hp, ?_⟩
  have I := v3 i hiv
  rw [getD_list hi, he] at I
  have vx := fun L => (v2.app L).vidx (k := .i64) (j := (i : Int)) (by omega) (by omega)
  have vl := fun L => (v2.app L).vload hiv
  have ln := fun L => (I.app L).vlen
  have i0 := fun L => (I.app L).vidx (k := .i64) (j := 0) (by omega) (by simp)
  have i1 := fun L => (I.app L).vidx (k := .i64) (j := 1) (by omega) (by simp)
  have j0 := fun L => (I.app L).vload (j := 0) (by simp)
  have j1 := fun L => (I.app L).vload (j := 1) (by simp)
  simp at i0 i1 j0 j1 ln
  have oe := fun k => I.oldk (k := k)
  have hrl := hI.1
  have hput := c_zz28 (nro := nro) n (h.length + 1) n u w r (goH h n r) (by simp) hrl (by omega) (by omega) (by omega) (by omega) (by omega) h62
  rw [if_neg (by omega)] at hput
  simp at hput
  have w1 : IntKind.i64.wrap ((i : Int) + 1) = (i : Int) + 1 := wrap64 (by omega) (by omega)
  have c1 : ¬ n ≤ u := by omega
  have c3 : ¬ (u : Int) = w := by omega
  have c2 : ¬ n ≤ w := by omega
  have hcl := fun (r' : List Int) (vs : List Value) => mk_clean (P := h ++ [⟨0, [.int .i64 0, .slice none 0 0]⟩]) (C := [⟨0, [.int .i64 n, .slice (some ⟨h.length + 1, 0, none⟩) n n]⟩]) (r0 := List.replicate n 0) (r1 := r') (vs := vs)
  simp only [List.append_assoc, List.cons_append, List.nil_append, List.length_append, List.length_cons, List.length_nil] at hcl
  obtain ⟨r0, hr0⟩ : ∃ r0, r0 = List.replicate n (0 : Int) := ⟨_, rfl⟩
  obtain ⟨r2, hr2⟩ : ∃ r2, r2 = put2 r u w := ⟨_, rfl⟩
  rw [← hr0] at hcl ⊢
  rw [← hr2] at hput ⊢
  clear hp hadj hI hok v3 I hr0 hr2 he
  rw [floop_at i_zz47_B1.eq_1]
  generalize vs[i] = e at *
  simp (disch := first | assumption | omega | (simp [*] <;> omega) | fail) [hi, hi2, vx, vl, ln, i0, i1, j0, j1, hput, w1, c1, c2, c3, hne, hcl, oq, oe]
 ·intro r _
  rw [floop_at i_zz47_B1.eq_1]
  simp (disch := first | assumption | omega | (simp [*] <;> omega) | fail) [oq]
 ·exact (IsAdj.zero n).congr fun v w _ => by simp [adjB]
 ·rintro r ⟨g1, hf⟩
  rw [List.take_length] at g1
  exact ⟨r, g1, hf⟩
theorem c_zz47 : vcall F nro k_zz47 [.int .i64 n, q] h = some (.tuple #[gv n (.slice (some ⟨h.length, 0, none⟩) n n), .int .i64 0], h ++ [⟨1, ints (adjRows n (adjB es))⟩]) := by
 have hn' := fun k => Nat.le_trans hn (Nat.le_add_right h.length k)
 have he := c_zz72 (nro := nro) n (h ++ [⟨0, [.int .i64 0, .slice none 0 0]⟩]) (by omega) (by omega) (by simp; omega)
 rw [Int.toNat_natCast] at he
 obtain ⟨r1, g1, lp⟩ := l_zz47 (nro := nro) hq hn h1 h62 hl hok
 rw [g1.eq]
 have hlr := g1.1
 obtain ⟨vs, v1, v2, v3⟩ := hq
 have ln := fun L => (v2.app L).vlen
 rw [v1] at ln
 have oq : ∀ k, Old (h.length + k) q := fun k => v2.old.le (by omega)
 refine v_zz47 (by simp [i_zz47]) ?_
 rw [fbody_eq]
 simp [-List.reduceReplicate] at he
 obtain ⟨r0, hr0⟩ : ∃ r0, r0 = List.replicate n (0 : Int) := ⟨_, rfl⟩
 rw [← hr0] at he lp
 have c1 : ¬ (n : Int) < 1 := by omega
 have c2 : ¬ 62 < (n : Int) := by omega
 have c3 : ¬ 4000 < (es.length : Int) := by omega
 clear g1 v2 v3 v1 hok hr0
 simp (disch := first | assumption | omega | (simp [*] <;> omega) | fail) [i_zz47, he, lp, hlr, ln, c1, c2, c3, oq, fresults, fresL, fres1, hn', hn]
end
end

/- Walk girths of faithful bases are girths of lifts. -/
section
open Go
theorem wgF_spec (M : Nat) (A : List Ar) : ∀ (d i b : Nat), d + i = 2 * A.length → 1 ≤ b →
  1 ≤ wgF M A i b ∧ wgF M A i b ≤ b ∧ (∀ f, i ≤ f → f < 2 * A.length → ∀ k, 1 ≤ k → k < wgF M A i b → ¬ fnd M A f (k - 1)) ∧ (wgF M A i b < b → ∃ f, f < 2 * A.length ∧ fnd M A f (wgF M A i b - 1))
 | 0, i, b, h, h1 => by
  have e : wgF M A i b = b := upF_end (by omega)
  rw [e]
  exact ⟨h1, Nat.le_refl _, fun f h1 h2 => by omega, fun h => by omega⟩
 | d + 1, i, b, h, h1 => by
  have e : wgF M A i b = wgF M A (i + 1) (gF (fnd M A i) b 1) := upF_step (by omega)
  obtain ⟨q1, q2, q3, q4⟩ := gF_spec (fnd M A i) b 1 h1
  obtain ⟨r1, r2, r3, r4⟩ := wgF_spec M A d (i + 1) (gF (fnd M A i) b 1) (by omega) q4
  rw [e]
  refine ⟨r1, by omega, fun f f1 f2 k k1 k2 => ?_, fun hlt => ?_⟩
  ·by_cases c : f = i
   ·subst c; exact q1 k k1 (by omega)
   ·exact r3 f (by omega) f2 k k1 k2
  ·by_cases c : wgF M A (i + 1) (gF (fnd M A i) b 1) < gF (fnd M A i) b 1
   ·exact r4 c
   ·have e2 : wgF M A (i + 1) (gF (fnd M A i) b 1) = gF (fnd M A i) b 1 := by omega
    rw [e2] at hlt ⊢
    exact ⟨i, by omega, q3 hlt⟩
def cS (M : Nat) (A : List Ar) (T : Nat → Nat) : Nat → Nat
 | 0 => 0
 | i + 1 => (cS M A T i + sN M A (T i)) % M
theorem cS_congr {M : Nat} {A : List Ar} {T T' : Nat → Nat} : ∀ (n : Nat), (∀ q, q < n → T q = T' q) → cS M A T n = cS M A T' n
 | 0, _ => rfl
 | n + 1, h => by
  unfold cS
  rw [cS_congr n (fun q hq => h q (by omega)), h n (by omega)]
theorem cS_lt {M : Nat} {A : List Ar} {T : Nat → Nat} (hM : 1 ≤ M) : ∀ (n : Nat), cS M A T n < M
 | 0 => by show 0 < M; omega
 | n + 1 => by
  unfold cS
  exact Nat.mod_lt _ (by omega)
section
variable {N M K : Nat} {A : List Ar} (B : IsB N M A) (hK : K = N * M)
include B
theorem rc_seq {first : Nat} (hf : first < 2 * A.length) : ∀ {k t j : Nat}, t < 2 * A.length → Rc M A first k t j →
  ∃ T : Nat → Nat, T 0 = first ∧ T k = t ∧ (∀ i, T i < 2 * A.length) ∧ (∀ i, i < k → nxt2 A (T i) (T (i + 1))) ∧ j = cS M A T (k + 1)
 | 0, t, j, ht, hR => by
  obtain ⟨rfl, rfl⟩ := hR
  refine ⟨fun _ => t, rfl, rfl, fun _ => hf, fun i hi => by omega, ?_⟩
  show sN M A t = (0 + sN M A t) % M
  rw [Nat.zero_add, Nat.mod_eq_of_lt (sN_lt B hf)]
 | k + 1, t, j, ht, hR => by
  obtain ⟨st, i, hst, hR2, hn, rfl⟩ := hR
  obtain ⟨T, t1, t2, t3, t4, t5⟩ := rc_seq hf hst hR2
  refine ⟨fun q => if q ≤ k then T q else t, by simp [t1], by simp, fun q => ?_, fun q hq => ?_, ?_⟩
  ·dsimp only
   split
   ·exact t3 q
   ·exact ht
  ·dsimp only
   rw [if_pos (by omega)]
   by_cases c : q + 1 ≤ k
   ·rw [if_pos c]; exact t4 q (by omega)
   ·rw [if_neg c, show q = k by omega, t2]; exact hn
  ·have e1 : cS M A (fun q => if q ≤ k then T q else t) (k + 1) = cS M A T (k + 1) := cS_congr _ fun q hq => by
    rw [if_pos (by omega)]
   have e2 : cS M A (fun q => if q ≤ k then T q else t) (k + 1 + 1) = (cS M A (fun q => if q ≤ k then T q else t) (k + 1) + sN M A (if k + 1 ≤ k then T (k + 1) else t)) % M := rfl
   rw [e2, e1, t5, if_neg (by omega)]
include hK
theorem gir_of_fnd (hF : Faith M A) {first k : Nat} (hf : first < 2 * A.length) (h : fnd M A first k) : girF (liftR N M A) K 0 0 ≠ 0 ∧ girF (liftR N M A) K 0 0 ≤ (k + 1 : Nat) := by
 obtain ⟨st, hst, hR, hT, hb⟩ := h
 obtain ⟨T, t1, t2, t3, t4, t5⟩ := rc_seq B hf hst hR
 have hM := B.m1
 have hM1 : 1 ≤ M := by omega
 let w : Nat → Nat := fun i => if i ≤ k then (sF A (T i)).toNat else (sT A (T k)).toNat
 let x : Nat → Nat := fun i => w i * M + cS M A T i
 have hx : ∀ i, x i / M = w i ∧ x i % M = cS M A T i := fun i => place_div (cS_lt hM1 i)
 have hw1 : ∀ i, i ≤ k → sF A (T i) = (w i : Int) := fun i hi => by
  obtain ⟨f, f1, _⟩ := sF_nat B (t3 i)
  show _ = (((if i ≤ k then (sF A (T i)).toNat else (sT A (T k)).toNat) : Nat) : Int)
  rw [if_pos hi, f1, Int.toNat_natCast]
 have hw2 : ∀ i, i ≤ k → sT A (T i) = (w (i + 1) : Int) := fun i hi => by
  by_cases c : i + 1 ≤ k
  ·rw [← hw1 (i + 1) c]
   exact (t4 i (by omega)).1.symm
  ·have : i = k := by omega
   subst this
   obtain ⟨f, f1, _⟩ := sT_nat B (t3 i)
   show _ = (((if i + 1 ≤ i then (sF A (T (i + 1))).toNat else (sT A (T i)).toNat) : Nat) : Int)
   rw [if_neg c, f1, Int.toNat_natCast]
 have S : ∀ i, i ≤ k → Stp M A (x i) (x (i + 1)) (T i) := fun i hi =>
  ⟨t3 i, by rw [(hx i).1]; exact hw1 i hi, by rw [(hx (i + 1)).1]; exact hw2 i hi, by rw [(hx i).2, (hx (i + 1)).2]; rfl⟩
 refine gir_of_walk (lift_gv B hK) (x := x) (L := k + 1) (by omega) ?_ (fun i hi => (S i (by omega)).bit B hK hF) (fun i hi e => ?_)
 ·have e1 : w 0 = w (k + 1) := by
   have h1 := hw1 0 (by omega)
   have h2 := hw2 k (by omega)
   rw [t1, ← hT, ← t2, h2] at h1
   exact_mod_cast h1.symm
  have e2 : cS M A T 0 = cS M A T (k + 1) := t5
  show w 0 * M + cS M A T 0 = w (k + 1) * M + cS M A T (k + 1)
  rw [e1, e2]
 ·have s1 := (S i (by omega)).back B
  have s2 := S (i + 1) (by omega)
  rw [show i + 1 + 1 = i + 2 by omega, ← e] at s2
  exact (t4 i (by omega)).2 (s2.inj B hF s1)
theorem fnd_of_gir {L : Nat} (hL : girF (liftR N M A) K 0 0 = L) (h0 : L ≠ 0) : ∃ first, first < 2 * A.length ∧ fnd M A first (L - 1) := by
 obtain ⟨h3, x, x1, x2, x3⟩ := cyc_of_gir (lift_gv B hK) hL h0
 have hM := B.m1
 obtain ⟨T, hT⟩ := Classical.axiomOfChoice (fun i => stp_of_bit B hK (x1 i))
 have hT : ∀ i, Stp M A (x i) (x (i + 1)) (T i) := hT
 have key : ∀ k, ∃ j, j < M ∧ Rc M A (T 0) k (T k) j ∧ (x 0 % M + j) % M = x (k + 1) % M := by
  intro k
  induction k with
  | zero => exact ⟨sN M A (T 0), sN_lt B (hT 0).1, ⟨rfl, rfl⟩, (hT 0).2.2.2.symm⟩
  | succ k ih =>
   obtain ⟨j, j1, j2, j3⟩ := ih
   refine ⟨(j + sN M A (T (k + 1))) % M, Nat.mod_lt _ (by omega), ⟨T k, j, (hT k).1, j2, ⟨?_, ?_⟩, rfl⟩, ?_⟩
   ·rw [(hT (k + 1)).2.1, (hT k).2.2.1]
   ·intro e
    have s1 := (hT k).back B
    have s2 := hT (k + 1)
    rw [e] at s2
    exact x2 k (s2.unique B s1)
   ·rw [(hT (k + 1)).2.2.2, ← j3, Nat.add_mod_mod, ← Nat.add_assoc]
    exact (Nat.mod_add_mod _ _ _).symm
 obtain ⟨j, j1, j2, j3⟩ := key (L - 1)
 have xL : x (L - 1 + 1) = x 0 := by
  have := x3 0
  rw [Nat.zero_add] at this
  rw [show L - 1 + 1 = L by omega]; exact this
 have j0 : j = 0 := by
  rw [xL] at j3
  have hl := Nat.mod_lt (x 0) (show M > 0 by omega)
  by_cases c : x 0 % M + j < M
  ·rw [Nat.mod_eq_of_lt c] at j3; omega
  ·rw [Nat.mod_eq_sub_mod (by omega), Nat.mod_eq_of_lt (by omega)] at j3; omega
 subst j0
 have sL := hT (L - 1)
 rw [xL] at sL
 refine ⟨T 0, (hT 0).1, T (L - 1), (hT (L - 1)).1, j2, ?_, fun e => ?_⟩
 ·rw [sL.2.2.1, (hT 0).2.1]
 ·have s1 := sL.back B
  rw [e] at s1
  have := s1.unique B (hT 0)
  have h2 := x2 (L - 1)
  have h4 := x3 (0 + 1)
  rw [show 0 + 1 + L = L - 1 + 2 by omega] at h4
  rw [h4] at h2
  exact h2 this.symm
theorem walk_gir (hF : Faith M A) : (wgF M A 0 15 ≤ 14 → girF (liftR N M A) K 0 0 = (wgF M A 0 15 : Int) ∧ wgF M A 0 15 ≠ 0) ∧ (14 < wgF M A 0 15 → girF (liftR N M A) K 0 0 = 0 ∨ 14 < girF (liftR N M A) K 0 0) := by
 obtain ⟨r1, r2, r3, r4⟩ := wgF_spec M A (2 * A.length) 0 15 rfl (by omega)
 have h0 := girF_ge' (rows := liftR N M A) (n := K) 0 0 (by omega)
 obtain ⟨L, hL⟩ : ∃ L : Nat, girF (liftR N M A) K 0 0 = L := ⟨_, (Int.toNat_of_nonneg h0).symm⟩
 rw [hL]
 have low : L ≠ 0 → wgF M A 0 15 ≤ L := fun hz => by
  obtain ⟨f, f1, f2⟩ := fnd_of_gir B hK hL hz
  apply Classical.byContradiction
  intro hn
  exact r3 f (by omega) f1 L (by omega) (by omega) f2
 refine ⟨fun h => ?_, fun h => ?_⟩
 ·obtain ⟨f, f1, f2⟩ := r4 (by omega)
  obtain ⟨g1, g2⟩ := gir_of_fnd B hK hF f1 f2
  rw [hL] at g1 g2
  have := low (by omega)
  omega
 ·by_cases hz : L = 0
  ·exact .inl (by omega)
  ·have := low hz
   exact .inr (by omega)
end
end

/- Graphs with names: each of the fifteen is a graph. -/
section
open Go
variable {nro : Nat}
theorem GV.put2I {n : Int} {r : List Int} (g : GV n r) {a b : Int} (ha : 0 ≤ a) (ha2 : a < n) (hb : 0 ≤ b) (hb2 : b < n) (hne : a ≠ b) : GV n (Zv.put2 r a b) := by
 obtain ⟨v, rfl⟩ : ∃ v : Nat, a = v := ⟨a.toNat, by omega⟩
 obtain ⟨w, rfl⟩ : ∃ w : Nat, b = w := ⟨b.toNat, by omega⟩
 obtain ⟨N, rfl⟩ : ∃ N : Nat, n = N := ⟨n.toNat, by omega⟩
 exact g.put2 (by omega) (by omega) (by omega)
noncomputable def f3 (i : Nat) (r : List Int) : List Int := put2 (put2 (put2 r i ((i + 1) % 5 : Nat)) i (i + 5 : Nat)) (i + 5 : Nat) ((i + 2) % 5 + 5 : Nat)
noncomputable def f4 (i : Nat) (r : List Int) : List Int :=
 put2 (put2 (put2 (put2 (put2 (put2 r 0 (1 + i : Nat)) 11 (6 + i : Nat)) (1 + i : Nat) (1 + (i + 1) % 5 : Nat)) (6 + i : Nat) (6 + (i + 1) % 5 : Nat)) (1 + i : Nat) (6 + i : Nat)) (1 + i : Nat) (6 + (i + 1) % 5 : Nat)
end

/- Draws of regular graphs. -/
section
open Go
variable {nro : Nat}
section
variable {H : VH} {b : Nat} {cd : Value} {xs : List Int} {s : SS} (S : Srce nro H b cd xs s)
include S
theorem Srce.nextE {s' : SS} (h : SOK xs s') (L : VH) (n : Int) (h1 : n ≤ 9223372036854775807) : ∃ x s2, SOK xs s2 ∧ 0 ≤ x ∧ (1 ≤ n → x < n) ∧ (n < 1 → x = 0) ∧
  vcall F nro k_zz57 [.pointer (some ⟨b, 0, some 3⟩), .int .i64 n] (H.set b (srcO cd s') ++ L) = some (.int .i64 x, H.set b (srcO cd s2) ++ L) := by
 obtain ⟨a1, a2, a3⟩ := srcN_ok S.code s' n
 exact ⟨_, _, srcS_ok h n, a1, a2, a3, S.nextA h L n h1⟩
theorem Srce.pickE {s' : SS} (h : SOK xs s') (L : VH) (k m : Nat) (ys : List Int) (hk : L[k]? = some ⟨1, ints ys⟩) (hm : ys.length = m) (h0 : 1 ≤ m) (h1 : m ≤ 100) : ∃ x s2, SOK xs s2 ∧ x ∈ ys ∧
  vcall F nro k_zz58 [.pointer (some ⟨b, 0, some 3⟩), .slice (some ⟨H.length + k, 0, none⟩) m m] (H.set b (srcO cd s') ++ L) = some (.int .i64 x, H.set b (srcO cd s2) ++ L) := by
 obtain ⟨a1, a2, _⟩ := srcN_ok S.code s' m
 refine ⟨_, _, srcS_ok h m, ?_, S.pickA h L k m ys hk hm h0 h1⟩
 have := a2 (by omega)
 rw [List.getD_eq_getElem?_getD, List.getElem?_eq_getElem (by omega)]
 exact List.getElem_mem _
theorem Srce.setL (L : VH) (s' s2 : SS) : (H.set b (srcO cd s') ++ L).set b (srcO cd s2) = H.set b (srcO cd s2) ++ L := by
 rw [List.set_append_left _ _ (by simpa using S.lt), List.set_set]
theorem Srce.drawOfE {s' : SS} (h : SOK xs s') (L : VH) (N : Nat) (h1 : 1 ≤ N) (h62 : N ≤ 62) : ∃ rows s2, SOK xs s2 ∧ GV N rows ∧
  vcall F nro k_zz36 [.pointer (some ⟨b, 0, some 3⟩), .int .i64 N] (H.set b (srcO cd s') ++ L) = some (gv N (.slice (some ⟨H.length + L.length, 0, none⟩) N N), H.set b (srcO cd s2) ++ (L ++ [⟨1, ints rows⟩])) := by
 obtain ⟨rows, s2, o2, g, e⟩ := c_zz36 (nro := nro) (S.set h L) N h1 h62
 refine ⟨rows, s2, o2, g, ?_⟩
 rw [e, S.setL, List.append_assoc]
 simp
theorem Srce.cleanG {s' : SS} (L : VH) (k N : Nat) (w : Int) (rows : List Int) (hk : L[k]? = some ⟨1, ints rows⟩) : kclean H [.agg #[.int .i64 w, .slice (some ⟨H.length + k, 0, none⟩) N N]] (H.set b (srcO cd s') ++ L) = ([.agg #[.int .i64 w, .slice (some ⟨H.length, 0, none⟩) N N]], H.set b (srcO cd s') ++ [⟨1, ints rows⟩]) := by
 have hself : H.set b (srcO cd s) = H := hset_self S.at'
 have ho : Old H.length cd := by
  have := (S.sl (srcO cd s)).old
  rwa [hself] at this
 rw [cleanup_one_upd (k := k) (o := ⟨1, ints rows⟩) ((Upd.rfl' H).set' (b := b) (flatO_src ho s')) (by simp [trefs, vrefs, crefs, arefs]) hk (flatO_ints _ _ _)]
 simp [tren, vren, cren, aren, renOf_one]
end
end

end Go.Proofs.YtbomdghbblakoaaDoor.Zv

