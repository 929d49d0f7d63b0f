/- Partitions; the law of IsPartition. -/
import Derived.Test.YtannjcinoopmnaaZwGraph2
namespace Go.Proofs.Ytannjcinoopmnaa.Zv
open Go
variable {nro : Nat}

/-- The colours come in order. -/
def PartOK : List Int → Int → Prop
  | [], _ => True
  | x :: r, m => 0 ≤ x ∧ x ≤ m ∧ PartOK r (if x = m then m + 1 else m)

theorem partOK_drop {xs : List Int} {i : Nat} (hi : i < xs.length) (m : Int) : PartOK (xs.drop i) m ↔ 0 ≤ xs[i] ∧ xs[i] ≤ m ∧ PartOK (xs.drop (i + 1)) (if xs[i] = m then m + 1 else m) := by
  rw [List.drop_eq_getElem_cons hi]
  rfl

open Classical in
theorem l_spec_l10Is (n : Int) (s t : Value) (xs : List Int) (h : VH) (ht : Sli h t xs) (h3 : xs.length ≤ 4611686018427387904) (i m : Int) (hi : 0 ≤ i) (hin : i ≤ xs.length) (hm : 0 ≤ m) (hmi : m ≤ i) :
    floop (vcall F nro) nro [1, 2, 5, 6] i_spec_l10Is_B1 (bx h n s) [t, bp h, .int .i64 m, .int .i64 i] (bx h n s) =
      if PartOK (xs.drop i.toNat) m then some (.exit 0, fl [(1, t), (2, bp h)], bx h n s) else some (.ret, fl [(4, .bool false)], bx h n s) := by
  have hto := fun k => ht.oldk (k := k)
  rw [floop_at i_spec_l10Is_B1.eq_1]
  by_cases hlt : i < xs.length
  · have hc := fun (x a b : Int) => c_spec_l01In (nro := nro) x a b (bx h n s)
    rw [partOK_drop (by omega)]
    by_cases h0 : 0 ≤ xs[i.toNat]'(by omega)
    · by_cases h1 : xs[i.toNat]'(by omega) ≤ m
      · by_cases h2 : xs[i.toNat]'(by omega) = m
        · have ih := l_spec_l10Is n s t xs h ht h3 (i + 1) (m + 1) (by omega) (by omega) (by omega) (by omega)
          rw [show (i + 1).toNat = i.toNat + 1 by omega] at ih
          have h4 : ¬ m < 0 := by omega
          simp (disch := first | assumption | omega | (simp [*] <;> omega) | fail) [ht.vlen', ht.vidx', ht.vload', wrap64, hlt, hc, h0, h1, h2, ih, h4, hm]
        · have ih := l_spec_l10Is n s t xs h ht h3 (i + 1) m (by omega) (by omega) (by omega) (by omega)
          rw [show (i + 1).toNat = i.toNat + 1 by omega] at ih
          simp (disch := first | assumption | omega | (simp [*] <;> omega) | fail) [ht.vlen', ht.vidx', ht.vload', wrap64, hlt, hc, h0, h1, h2, ih]
      · simp (disch := first | assumption | omega | (simp [*] <;> omega) | fail) [ht.vlen', ht.vidx', ht.vload', wrap64, hlt, hc, h0, h1]
    · simp (disch := first | assumption | omega | (simp [*] <;> omega) | fail) [ht.vlen', ht.vidx', ht.vload', wrap64, hlt, hc, h0]
  · have : xs.drop i.toNat = [] := List.drop_eq_nil_of_le (by omega)
    simp (disch := first | assumption | omega | (simp [*] <;> omega) | fail) [ht.vlen', hlt, this, PartOK]
 termination_by (xs.length - i).toNat

open Classical in
theorem c_spec_l10Is (n : Int) (s t : Value) (rows xs : List Int) (h : VH) (hs : Sli h s rows) (ht : Sli h t xs) (h3 : xs.length ≤ 4611686018427387904) :
    vcall F nro k_spec_l10Is [gv n s, t] h = some (.bool (decide ((xs.length : Int) = n ∧ PartOK xs 0)), h) := by
  refine v_spec_l10Is (by simp [i_spec_l10Is]) ?_
  rw [fbody_eq]
  have hl := l_spec_l10Is (nro := nro) n s t xs h ht h3 0 0 (by omega) (by omega) (by omega) (by omega)
  by_cases hp : PartOK xs 0
  · rw [if_pos (by simpa using hp)] at hl
    simp (disch := first | assumption | omega | (simp [*] <;> omega) | fail) [i_spec_l10Is, hl, ht.vlen', hp]
  · rw [if_neg (by simpa using hp)] at hl
    simp (disch := first | assumption | omega | (simp [*] <;> omega) | fail) [i_spec_l10Is, hl, hp]

open Classical in
theorem l_impl_isPartition (n : Int) (s t : Value) (xs : List Int) (h : VH) (ht : Sli h t xs) (h3 : xs.length ≤ 4611686018427387904) (i m : Int) (hi : 0 ≤ i) (hin : i ≤ xs.length) (hm : 0 ≤ m) (hmi : m ≤ i) :
    floop (vcall F nro) nro [5, 13, 14, 15] i_impl_isPartition_B1 (bx h n s) [.int .i64 m, t, .int .i64 xs.length, .int .i64 i] (bx h n s) =
      if PartOK (xs.drop i.toNat) m then some (.exit 0, fl [], bx h n s) else some (.ret, fl [(4, .bool false)], bx h n s) := by
  have hto := fun k => ht.oldk (k := k)
  rw [floop_at i_impl_isPartition_B1.eq_1]
  by_cases hlt : i < xs.length
  · rw [partOK_drop (by omega)]
    by_cases h0 : 0 ≤ xs[i.toNat]'(by omega)
    · have h0' : ¬ xs[i.toNat]'(by omega) < 0 := by omega
      by_cases h1 : xs[i.toNat]'(by omega) ≤ m
      · have h1' : ¬ m < xs[i.toNat]'(by omega) := by omega
        by_cases h2 : xs[i.toNat]'(by omega) = m
        · have ih := l_impl_isPartition n s t xs h ht h3 (i + 1) (m + 1) (by omega) (by omega) (by omega) (by omega)
          rw [show (i + 1).toNat = i.toNat + 1 by omega] at ih
          have h4 : ¬ m < 0 := by omega
          simp (disch := first | assumption | omega | (simp [*] <;> omega) | fail) [ht.vlen', ht.vidx', ht.vload', wrap64, hlt, h0, h0', h1, h1', h2, ih, h4, hm]
        · have ih := l_impl_isPartition n s t xs h ht h3 (i + 1) m (by omega) (by omega) (by omega) (by omega)
          rw [show (i + 1).toNat = i.toNat + 1 by omega] at ih
          simp (disch := first | assumption | omega | (simp [*] <;> omega) | fail) [ht.vlen', ht.vidx', ht.vload', wrap64, hlt, h0, h0', h1, h1', h2, ih]
      · have h1' : m < xs[i.toNat]'(by omega) := by omega
        simp (disch := first | assumption | omega | (simp [*] <;> omega) | fail) [ht.vlen', ht.vidx', ht.vload', wrap64, hlt, h0, h0', h1, h1']
    · have h0' : xs[i.toNat]'(by omega) < 0 := by omega
      simp (disch := first | assumption | omega | (simp [*] <;> omega) | fail) [ht.vlen', ht.vidx', ht.vload', wrap64, hlt, h0, h0']
  · have : xs.drop i.toNat = [] := List.drop_eq_nil_of_le (by omega)
    simp (disch := first | assumption | omega | (simp [*] <;> omega) | fail) [ht.vlen', hlt, this, PartOK]
 termination_by (xs.length - i).toNat

open Classical in
theorem c_impl_isPartition (n : Int) (s t : Value) (rows xs : List Int) (h : VH) (hs : Sli h s rows) (ht : Sli h t xs) (h3 : xs.length ≤ 4611686018427387904) :
    vcall F nro k_impl_isPartition [gv n s, t] h = some (.bool (decide ((xs.length : Int) = n ∧ PartOK xs 0)), h) := by
  refine v_impl_isPartition (by simp [i_impl_isPartition]) ?_
  rw [fbody_eq]
  have hl := l_impl_isPartition (nro := nro) n s t xs h ht h3 0 0 (by omega) (by omega) (by omega) (by omega)
  by_cases hx : (xs.length : Int) = n
  · by_cases hp : PartOK xs 0
    · rw [if_pos (by simpa using hp)] at hl
      rw [hx] at hl
      simp (disch := first | assumption | omega | (simp [*] <;> omega) | fail) [i_impl_isPartition, hl, ht.vlen', hp, hx]
    · rw [if_neg (by simpa using hp)] at hl
      rw [hx] at hl
      simp (disch := first | assumption | omega | (simp [*] <;> omega) | fail) [i_impl_isPartition, hl, ht.vlen', hp, hx]
  · simp (disch := first | assumption | omega | (simp [*] <;> omega) | fail) [i_impl_isPartition, ht.vlen', hx]

/-- What IsPartition answers. -/
noncomputable def partAns (n : Int) (rows xs : List Int) : Value :=
  open Classical in if GV n rows then .tuple #[.bool (decide ((xs.length : Int) = n ∧ PartOK xs 0)), .int .i64 0] else .tuple #[.bool false, .int .i64 1]

@[simp] theorem old_tup2 (k : Nat) (a b : Value) (ha : ∀ vs, a ≠ .tuple vs) (hb : ∀ vs, b ≠ .tuple vs) : Old k (.tuple #[a, b]) ↔ Old k a ∧ Old k b := by
  have e : ∀ v : Value, (∀ vs, v ≠ .tuple vs) → trefs v = vrefs v := by
    intro v hv
    unfold trefs
    split
    · exact absurd rfl (hv _)
    · rfl
  unfold Old
  rw [e a ha, e b hb]
  simp only [trefs, List.flatMap_cons, List.flatMap_nil, List.append_nil, List.mem_append]
  exact ⟨fun h => ⟨fun r hr => h r (.inl hr), fun r hr => h r (.inr hr)⟩, fun h r hr => hr.elim (h.1 r) (h.2 r)⟩

theorem c_spec_IsPartition (n : Int) (s t : Value) (rows xs : List Int) (h : VH) (hs : Sli h s rows) (ht : Sli h t xs) (h3 : xs.length ≤ 4611686018427387904) :
    vcall F nro k_spec_IsPartition [gv n s, t] h = some (partAns n rows xs, h) := by
  refine v_spec_IsPartition (by simp [i_spec_IsPartition]) ?_
  rw [fbody_eq]
  have hc1 := c_spec_l01Is (nro := nro) n s rows (bx h n s) (hs.app _)
  have hc2 := c_spec_l10Is (nro := nro) n s t rows xs (bx h n s) (hs.app _) (ht.app _) h3
  by_cases g : GV n rows <;> simp (disch := first | assumption | omega | (simp [*] <;> omega) | fail) [i_spec_IsPartition, partAns, hc1, hc2, g]

theorem c_impl_IsPartition (n : Int) (s t : Value) (rows xs : List Int) (h : VH) (hs : Sli h s rows) (ht : Sli h t xs) (h3 : xs.length ≤ 4611686018427387904) :
    vcall F nro k_impl_IsPartition [gv n s, t] h = some (partAns n rows xs, h) := by
  refine v_impl_IsPartition (by simp [i_impl_IsPartition]) ?_
  rw [fbody_eq]
  have hc1 := c_impl_IsGraph (nro := nro) n s rows (bx h n s) (hs.app _)
  have hc2 := c_impl_isPartition (nro := nro) n s t rows xs (bx h n s) (hs.app _) (ht.app _) h3
  by_cases g : GV n rows <;> simp (disch := first | assumption | omega | (simp [*] <;> omega) | fail) [i_impl_IsPartition, partAns, hc1, hc2, g]

theorem r_spec_IsPartition (n : Int) (s t : Value) (h : VH) (hs : isSli h s) (ht : isSli h t) (h3 : (rd h t).length ≤ 4611686018427387904) :
    vcall F nro k_spec_IsPartition [gv n s, t] h = some (partAns n (rd h s) (rd h t), h) := c_spec_IsPartition n s t _ _ h hs.sli ht.sli h3
theorem r_impl_IsPartition (n : Int) (s t : Value) (h : VH) (hs : isSli h s) (ht : isSli h t) (h3 : (rd h t).length ≤ 4611686018427387904) :
    vcall F nro k_impl_IsPartition [gv n s, t] h = some (partAns n (rd h s) (rd h t), h) := c_impl_IsPartition n s t _ _ h hs.sli ht.sli h3
theorem r_laws_toInt64S (s : Value) (h : VH) (hs : isSli h s) (h3 : (rd h s).length ≤ 1099511627776) (hn : nro ≤ h.length) :
    vcall F nro k_laws_toInt64S [s] h = some (.slice (some ⟨h.length, 0, none⟩) (rd h s).length (rd h s).length, h ++ [⟨1, ints (rd h s)⟩]) := c_laws_toInt64S s _ h hs.sli h3 hn
theorem r_laws_toGraph (n : Int) (s : Value) (h : VH) (hs : isSli h s) (h3 : (rd h s).length ≤ 1099511627776) (hn : nro ≤ h.length) :
    vcall F nro k_laws_toGraph [gv n s] h = some (gv n (.slice (some ⟨h.length, 0, none⟩) (rd h s).length (rd h s).length), h ++ [⟨1, ints (rd h s)⟩]) := c_laws_toGraph n s _ h hs.sli h3 hn
theorem r_laws_eqInt64S (s t : Value) (h : VH) (hs : isSli h s) (ht : isSli h t) (h3 : (rd h s).length ≤ 9223372036854775806) :
    vcall F nro k_laws_eqInt64S [s, t] h = some (.bool (decide (rd h s = rd h t)), h) := c_laws_eqInt64S s t _ _ h hs.sli ht.sli h3
theorem r_laws_eqGraph (n m : Int) (s t : Value) (h : VH) (hs : isSli h s) (ht : isSli h t) (h3 : (rd h s).length ≤ 9223372036854775806) :
    vcall F nro k_laws_eqGraph [gv n s, gv m t] h = some (.bool (decide (n = m ∧ rd h s = rd h t)), h) := c_laws_eqGraph n m s t _ _ h hs.sli ht.sli h3

theorem law_IsPartition (n : Int) (s t : Value) (rows xs : List Int) (h : VH) (hs : Sli h s rows) (ht : Sli h t xs) (h3 : rows.length ≤ 9223372036854775807) (h4 : xs.length ≤ 9223372036854775807) (hn : nro ≤ h.length) :
    vcall F nro k_laws_FnExactIsPartition [gv n s, t] h = some (.bool true, h) := by
  refine v_laws_FnExactIsPartition (by simp [i_laws_FnExactIsPartition]) ?_
  rw [fbody_eq]
  by_cases hx : 1048576 < (xs.length : Int)
  · simp (disch := first | assumption | omega | (simp [*] <;> omega) | fail) [i_laws_FnExactIsPartition, ht.vlen', hx]
  · have hc1 := c_laws_szGraph (nro := nro) n s rows 1048576 (bx h n s) (hs.app _) (by omega) (by omega) h3
    by_cases hr : 1048576 < (rows.length : Int)
    · rw [if_pos hr] at hc1
      simp (disch := first | assumption | omega | (simp [*] <;> omega) | fail) [i_laws_FnExactIsPartition, ht.vlen', hx, hc1]
    · rw [if_neg hr] at hc1
      have hr2 : ¬ (1048576 - (rows.length : Int) < 0) := by omega
      have h5 : rows.length ≤ 1048576 := by omega
      have h6 : xs.length ≤ 1048576 := by omega
      have hn' := fun k => Nat.le_trans hn (Nat.le_add_right h.length k)
      have hsi := fun L => hs.is' (L := L)
      have hti := fun L => ht.is' (L := L)
      have hsr := fun L => hs.rd' (L := L)
      have htr := fun L => ht.rd' (L := L)
      have htl := fun L => ht.vlen' (L := L)
      clear hs ht
      obtain ⟨b, c, hp⟩ : ∃ b c, partAns n rows xs = .tuple #[.bool b, .int .i64 c] := by
        unfold partAns
        split <;> exact ⟨_, _, rfl⟩
      simp (disch := first | assumption | omega | (simp [*] <;> omega) | fail) [i_laws_FnExactIsPartition, hx, hc1, hr2, r_laws_toGraph, r_laws_toInt64S, r_spec_IsPartition, r_impl_IsPartition, r_laws_eqGraph, r_laws_eqInt64S, hp, hsi, hti, hsr, htr, htl, hn', h5, h6]
end Go.Proofs.Ytannjcinoopmnaa.Zv
