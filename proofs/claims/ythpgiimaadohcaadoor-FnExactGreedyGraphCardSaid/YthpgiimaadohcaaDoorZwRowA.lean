/- A row's arguments, opened: graphs, lists, numbers, desks. -/
import Derived.Test.YthpgiimaadohcaaDoorZvRow
namespace Go.Proofs.YthpgiimaadohcaaDoor.Zv
open Go Go.ChangeShapes Go.WideShapes Go.ChangeAt Go.RowKit

/-- A row is well-formed: its numbers are 64-bit numbers. -/
theorem IsRow.len {k : IntKind} {W : World} {a : Option Addr} {len cap : Nat} {zs : List Int} (h : IsRow k W a len cap zs) : (zs.take len).length ≤ 9223372036854775807 := by
  rcases h with ⟨_, _, _, rfl⟩ | ⟨x, _, hl, hm, hz, _⟩
  · simp
  · have : maxLen = 9223372036854775807 := rfl
    simp; omega

theorem wf64 {n : Int} (h : (Lit.int .i64 n).wf = true) : -9223372036854775808 ≤ n ∧ n ≤ 9223372036854775807 := by
  simp [Lit.wf, IntKind.min, IntKind.max, IntKind.signed, IntKind.bits] at h
  omega

variable {H : Type} {enc : TypeId × Value → H} {P : Program} {W : World} {held : Bool}

theorem in_int {t : TypeId} {base : Nat} {v : Value} {d : DataW H} {p : List MemPlace} (ht : P.underlying t = some (.int .i64)) (hv : Value.okWide P W .any base t v) (h : DataW.Trod enc P W 0 (fun _ => true) held t v d p) :
    ∃ n, v = .int .i64 n ∧ -9223372036854775808 ≤ n ∧ n ≤ 9223372036854775807 := by
  obtain ⟨n, rfl⟩ := okWide_int ht hv
  obtain ⟨m, hm⟩ := h
  obtain ⟨n', e, _, hw⟩ := DataW.trod_int ht hm
  simp [Value.cells] at e
  subst e
  exact ⟨n, rfl, wf64 hw⟩

theorem in_list {t e : TypeId} {base : Nat} {v : Value} {d : DataW H} {p : List MemPlace} (ht : P.underlying t = some (.slice e)) (he : P.underlying e = some (.int .i64)) (hc : P.cellsOf e = 1) (hv : Value.okWide P W .any base t v) (h : DataW.Trod enc P W 0 (fun _ => true) held t v d p) :
    ∃ a len cap zs, v = .slice a len cap ∧ IsRow .i64 W a len cap zs := by
  obtain ⟨a2, l2, cp2, rfl⟩ := okWide_slice ht hv
  obtain ⟨m1, hm1⟩ := h
  obtain ⟨a2', l2', cp2', z2, e2, w2⟩ := IsRow.of ht he hc (v := .slice a2 l2 cp2) (by simpa [Value.cells] using hm1)
  exact ⟨_, _, _, z2, e2, w2⟩

theorem in_graph {t e : TypeId} {f0 f1 : Field} {base : Nat} {v : Value} {d : DataW H} {p : List MemPlace} (hs : P.underlying t = some (.struct #[f0, f1])) (hone : Deep.oneCellFields P #[f0, f1] = true) (hC : P.cellsOf t = 2)
    (h0 : P.underlying f0.type = some (.int .i64)) (h1 : P.underlying f1.type = some (.slice e)) (he : P.underlying e = some (.int .i64)) (hc : P.cellsOf e = 1) (hv : Value.okWide P W .any base t v) (h : DataW.Trod enc P W 0 (fun _ => true) held t v d p) :
    ∃ n a len cap zs, v = .agg #[.int .i64 n, .slice a len cap] ∧ IsRow .i64 W a len cap zs := by
  obtain ⟨c0, c1, y0, y1, m, rfl, rfl, rfl, t0, t1⟩ := Joins.open_agg2 hs hone hC hv h
  obtain ⟨a0, e0, _, _⟩ := DataW.trod_int h0 t0
  simp at e0
  subst e0
  obtain ⟨a1, l1, cp1, z1, rfl, w1⟩ := IsRow.of h1 he hc t1
  exact ⟨_, _, _, _, _, rfl, w1⟩

theorem array4 {α : Type} {a : Array α} (h : a.size = 4) : ∃ x y z u, a = #[x, y, z, u] := by
  match a, h with
  | ⟨[x, y, z, u]⟩, _ => exact ⟨x, y, z, u, rfl⟩

theorem in_desk {t e : TypeId} {g0 g1 f0 f1 f2 f3 : Field} {base : Nat} {v : Value} {d : DataW H} {p : List MemPlace} (hs : P.underlying t = some (.struct #[g0, g1])) (hC : P.cellsOf t = 4)
    (hs0 : P.underlying g0.type = some (.struct #[f0, f1])) (hs1 : P.underlying g1.type = some (.struct #[f2, f3])) (ho : g0.offset = 0 ∧ g1.offset = 2 ∧ P.cellsOf g0.type = 2 ∧ P.cellsOf g1.type = 2)
    (hf : f0.offset = 0 ∧ f1.offset = 1 ∧ P.cellsOf f0.type = 1 ∧ P.cellsOf f1.type = 1 ∧ f2.offset = 0 ∧ f3.offset = 1 ∧ P.cellsOf f2.type = 1 ∧ P.cellsOf f3.type = 1)
    (h0 : P.underlying f0.type = some (.int .i64)) (h1 : P.underlying f1.type = some (.slice e)) (h2 : P.underlying f2.type = some (.int .i64)) (h3 : P.underlying f3.type = some (.slice e)) (he : P.underlying e = some (.int .i64)) (hc : P.cellsOf e = 1) (hv : Value.okWide P W .any base t v) (h : DataW.Trod enc P W 0 (fun _ => true) held t v d p) :
    ∃ n a len cap zs n' a' len' cap' zs', v = .agg #[.int .i64 n, .slice a len cap, .int .i64 n', .slice a' len' cap'] ∧ IsRow .i64 W a len cap zs ∧ IsRow .i64 W a' len' cap' zs' := by
  obtain ⟨cs, rfl, hsz⟩ := okWide_struct hs hv
  obtain ⟨c0, c1, c2, c3, rfl⟩ := array4 (hsz.trans hC)
  obtain ⟨fuel, hf'⟩ := h
  obtain ⟨y0, y1, m, _, _, k0, k1⟩ := trod_struct2 hs hf'
  obtain ⟨o0, o1, o2, o3⟩ := ho
  obtain ⟨q0, q1, q2, q3, q4, q5, q6, q7⟩ := hf
  obtain ⟨z0, z1, m1, _, _, k2, k3⟩ := trod_struct2 hs0 k0
  obtain ⟨z2, z3, m2, _, _, k4, k5⟩ := trod_struct2 hs1 k1
  simp [Value.cells, o0, o1, o2, o3, q0, q1, q2, q3, q4, q5, q6, q7] at k2 k3 k4 k5
  obtain ⟨a0, e0, _, _⟩ := DataW.trod_int h0 k2
  obtain ⟨a1, l1, cp1, r1, rfl, w1⟩ := IsRow.of h1 he hc k3
  obtain ⟨a2, e2, _, _⟩ := DataW.trod_int h2 k4
  obtain ⟨a3, l3, cp3, r3, rfl, w3⟩ := IsRow.of h3 he hc k5
  simp at e0 e2
  subst e0
  subst e2
  exact ⟨_, _, _, _, _, _, _, _, _, _, rfl, w1, w3⟩
end Go.Proofs.YthpgiimaadohcaaDoor.Zv
