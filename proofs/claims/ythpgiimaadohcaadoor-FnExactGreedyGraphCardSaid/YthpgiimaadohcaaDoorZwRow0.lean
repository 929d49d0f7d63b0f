/- What all rows of the seat share: the functions' table, the library's table of bit numbers. -/
import Derived.Test.YthpgiimaadohcaaDoorRows
import Derived.Test.YthpgiimaadohcaaDoorZwIr
import Derived.Test.YthpgiimaadohcaaDoorZwTz
import Derived.Test.YthpgiimaadohcaaDoorZwRowA
import Derived.ChangeSame
import Derived.ChangeVars
import Derived.JoinedOf
namespace Go.Proofs.YthpgiimaadohcaaDoor.Zv
open Go Go.ChangeShapes Go.WideShapes Go.ChangeAt Go.RowKit
open Go.Proofs.YthpgiimaadohcaaDoor

theorem own : ownKnob Tryd.prog.godebug = none := by kernel_rfl
theorem laidOut : laidOutB Tryd.prog = true := by kernel_rfl
theorem mixed : Tryd.prog.follows .mixedOrders = true := by kernel_rfl

theorem F_ir : ∀ f fn, F f = some (.ir fn) → EntOK Tryd.prog (compD Tryd.prog) f fn := by
  intro f fn hf
  unfold F at hf
  split at hf
  · rename_i g hl
    simp only [Option.some.injEq, Ent.ir.injEq] at hf
    subst hf
    have hm : (f, g) ∈ tab := by
      have h2 : ∀ (l : List (Nat × FF)), l.lookup f = some g → (f, g) ∈ l := by
        intro l
        induction l with
        | nil => intro h; cases h
        | cons p l ih =>
          intro h
          obtain ⟨a, b⟩ := p
          simp only [List.lookup] at h
          split at h
          · rename_i e
            have e2 : f = a := by simpa using e
            cases h
            rw [e2]
            exact .head _
          · exact .tail _ (ih h)
      exact h2 tab hl
    exact tabOK (f, g) hm
  · split at hf <;> cases hf

theorem F_ext : ∀ f g, F f = some (.ext g) → ∀ nro, ExtOK Tryd.prog nro f g := by
  intro f g hf nro
  unfold F at hf
  split at hf
  · cases hf
  · split at hf
    · rename_i e
      cases hf
      subst e
      exact tz_ext nro
    · cases hf

theorem allSound (nro : Nat) : CallSound Tryd.prog nro (vcall F nro) := sound mixed F F_ir fun f g h => F_ext f g h nro

/-! ### the table is laid -/
theorem tz_global : Tryd.prog.globalNamed "math/bits.deBruijn64tab" = some 0 := by kernel_rfl
theorem tz_type : (Tryd.prog.globals[0]?).map (·.type) = some 104 := by kernel_rfl
theorem tz_cellsT : Tryd.prog.cellsOf 104 = 64 := by kernel_rfl
theorem tz_cells1 : Tryd.prog.cellsOf 5 = 1 := by kernel_rfl

theorem int_of_trod {H : Type} {enc : TypeId × Value → H} {P : Program} {w : World} {base : Nat} {sp : Nat → Bool} {held : Bool} {fuel : Nat} {t : TypeId} {k : IntKind} {c : Value} {y : DataW H × List MemPlace}
    (ht : P.underlying t = some (.int k)) (h : DataW.trod enc P w base sp held fuel t [c] = some y) : ∃ n, c = .int k n ∧ y = (.lit (.int k n), []) := by
  cases fuel with
  | zero => simp [DataW.trod] at h
  | succ fuel =>
    cases c <;> simp [DataW.trod, ht] at h
    rename_i k' n
    obtain ⟨⟨rfl, _⟩, rfl⟩ := h
    exact ⟨n, rfl, rfl⟩

/-- The table, as the row lists it. -/
theorem tz_datum : Rows.laid_math_bits_deBruijn64tab (H := Unit) = .agg (tzTab.map fun n => .lit (.int .u8 n)) := by kernel_rfl

theorem read_cells (f : Nat → Option (DataW Unit × List MemPlace)) (l : List Value) (hf : ∀ i y, i < l.length → f i = some y → ∃ n, l[i]? = some (.int .u8 n) ∧ y.1 = .lit (.int .u8 n)) :
    ∀ (k s : Nat) xs, (List.range' s k).mapM f = some xs → s + k ≤ l.length → ∃ ns : List Int, (l.drop s).take k = ns.map (Value.int .u8) ∧ xs.map (fun x => x.1) = ns.map fun n => .lit (.int .u8 n)
  | 0, s, xs, h, _ => by
    simp at h
    subst h
    exact ⟨[], by simp, rfl⟩
  | k + 1, s, xs, h, hl => by
    rw [List.range'_succ] at h
    simp only [List.mapM_cons, Option.bind_eq_bind, Option.bind_eq_some_iff, Option.pure_def, Option.some.injEq] at h
    obtain ⟨y, hy, ys, hys, rfl⟩ := h
    obtain ⟨n, h1, h2⟩ := hf s y (by omega) hy
    obtain ⟨ns, h3, h4⟩ := read_cells f l hf k (s + 1) ys hys (by omega)
    refine ⟨n :: ns, ?_, ?_⟩
    · have hs : s < l.length := by omega
      rw [List.getElem?_eq_getElem hs] at h1
      rw [List.drop_eq_getElem_cons hs, List.take_succ_cons, h3, Option.some.inj h1]
      rfl
    · simp [h2, h4]

theorem cells_of_laid {W : World} (h : laidMet Tryd.prog [("math/bits.deBruijn64tab", Rows.laid_math_bits_deBruijn64tab)] W) : ∃ ty fz, W.heap[0]? = some (.cells tzCells ty fz) := by
  obtain ⟨ps, ⟨g, t, cs, fuel, p, q, hg, ht, hvar, hd, _, _⟩, _⟩ := h
  obtain rfl := Option.some.inj (tz_global.symm.trans hg)
  obtain rfl := Option.some.inj (tz_type.symm.trans ht)
  obtain ⟨l⟩ := cs
  rw [tz_datum] at hd
  have hl : l = tzTab.map (Value.int .u8) := by
    cases fuel with
    | zero => simp [DataW.trod] at hd
    | succ fuel =>
      simp only [DataW.trod, Tryd.underlying104, tz_cellsT, tz_cells1] at hd
      split at hd
      · rename_i hlen
        rw [Option.map_eq_some_iff] at hd
        obtain ⟨xs, hm, hx⟩ := hd
        rw [List.range_eq_range'] at hm
        obtain ⟨ns, h1, h2⟩ := read_cells _ l (fun i y hi hy => by
          have e : List.take 1 (List.drop (i * 1) l) = [l[i]] := by rw [Nat.mul_one, List.drop_eq_getElem_cons hi]; rfl
          rw [e] at hy
          obtain ⟨n, h1, h2⟩ := int_of_trod Tryd.underlying5 hy
          exact ⟨n, by rw [List.getElem?_eq_getElem hi, h1], by rw [h2]⟩) 64 0 xs hm (by omega)
        rw [List.drop_zero, List.take_of_length_le (by omega)] at h1
        have h3 : xs.map (fun x => x.1) = tzTab.map fun n => (.lit (.int .u8 n) : DataW Unit) := by
          have := congrArg Prod.fst hx
          simpa using this
        rw [h2] at h3
        have h4 : ns = tzTab := List.map_inj_right (f := fun n => (.lit (.int .u8 n) : DataW Unit)) (fun a b h => by injection h with h; injection h) |>.mp h3
        rw [h1, h4]
      · cases hd
  subst hl
  simp only [World.var?, tz_global, Option.bind_some] at hvar
  split at hvar
  · rename_i c ty fz hc
    cases hvar
    exact ⟨_, _, hc⟩
  · cases hvar

/-! ### a world in which the table is laid -/
noncomputable def laidWorld (os : Os) : World :=
  { World.holding Tryd.prog os ⟨#[], #[], []⟩ with heap := (World.holding Tryd.prog os ⟨#[], #[], []⟩).heap.modify 0 fun
      | .cells _ t frozen => .cells tzCells t frozen
      | o => o }

theorem tz_read (w : World) : DataW.trod (fun _ => ()) Tryd.prog w 0 (fun _ => true) false 8 104 tzCells.toList = some (Rows.laid_math_bits_deBruijn64tab, []) := by kernel_rfl

theorem tz_nodup : (MemPlace.row ⟨0, 0, none⟩ tzCells.size ++ [] ++ []).Nodup := by decide +kernel

theorem tz_noface (w : World) (off : Nat) (u : TypeId) (v : Value) (h0 : w.heap[0]? = some (.cells tzCells 104 (0, 0))) (hc : w.cell? ⟨0, off, none⟩ = some (.iface u v)) : False := by
  by_cases ho : off < 64
  · have := (tz_cell w _ _ h0 off ho).symm.trans hc
    injection this with h1
    cases h1
  · have e : w.cell? ⟨0, off, none⟩ = tzCells[off]? := by
      unfold World.cell?
      rw [h0]
      rfl
    rw [e] at hc
    have hs : tzCells.size = 64 := by decide +kernel
    rw [Array.getElem?_eq_none (by omega)] at hc
    cases hc

set_option maxRecDepth 100000 in
theorem tz_laid (w : World) (h0 : w.heap[0]? = some (.cells tzCells 104 (0, 0))) : laidMet Tryd.prog [("math/bits.deBruijn64tab", Rows.laid_math_bits_deBruijn64tab)] w := by
  refine ⟨_, ⟨0, 104, tzCells, 8, [], [], tz_global, tz_type, ?_, tz_read w, rfl, rfl⟩, tz_nodup, fun b off h => ?_⟩
  · simp only [World.var?, tz_global, Option.bind_some, h0]
  · have hb : b = 0 := by
      rw [List.append_nil, List.append_nil] at h
      unfold MemPlace.row at h
      rw [List.mem_map] at h
      obtain ⟨i, _, hi⟩ := h
      injection hi with h1 h2
      exact h1.symm
    clear h
    subst hb
    refine ⟨⟨tzCells, 104, h0⟩, fun u v hc => ?_⟩
    exact (tz_noface w off u v h0 hc).elim

theorem tz_glob {W : World} (h : laidMet Tryd.prog [("math/bits.deBruijn64tab", Rows.laid_math_bits_deBruijn64tab)] W) : ∀ b C, globTab b = some C → ∃ ty fz, W.heap[b]? = some (.cells C ty fz) := by
  intro b C hb
  unfold globTab at hb
  split at hb
  · cases hb
    exact cells_of_laid h
  · cases hb
end Go.Proofs.YthpgiimaadohcaaDoor.Zv
