/- Digraphs and desks; the law of IsDesk. -/
import Derived.Test.YtcpmodengmffjaaZwGraph2
namespace Go.Proofs.Ytcpmodengmffjaa.Zv
open Go
variable {nro : Nat}

/-- A digraph. -/
structure DV (n : Int) (rows : List Int) : Prop where
  lo : 1 ≤ n
  hi : n ≤ 62
  len : (rows.length : Int) = n
  row : ∀ v, v < rows.length → 0 ≤ rows.getD v 0 ∧ rows.getD v 0 < 2 ^ n.toNat

theorem cleanup_two {h L : VH} {v : Value} {i j : Nat} {o p : VO} (hv : trefs v = [h.length + i, h.length + j]) (hij : i ≠ j) (hi : L[i]? = some o) (hj : L[j]? = some p) (hf : flatO h.length o) (hg : flatO h.length p) :
    kclean h [v] (h ++ L) = ([tren (renOf h.length [h.length + i, h.length + j]) v], h ++ [o, p]) := by
  have e : keepL h.length [v] = [h.length + i, h.length + j] := by
    unfold keepL
    simp [hv, dedup, hij]
  have h1 : (h ++ L)[h.length + i]? = some o := by rw [hgetk]; exact hi
  have h2 : (h ++ L)[h.length + j]? = some p := by rw [hgetk]; exact hj
  rw [cleanup_keep e fun k hk => ?_]
  · simp [hi, hj]
  · simp only [List.mem_cons, List.not_mem_nil, or_false] at hk
    rcases hk with rfl | rfl
    · exact ⟨o, h1, hf⟩
    · exact ⟨p, h2, hg⟩
theorem renOf_two1 (n i j : Nat) : renOf n [n + i, n + j] (n + i) = n := by simp [renOf]; omega
theorem renOf_two2 (n i j : Nat) (h : i ≠ j) : renOf n [n + i, n + j] (n + j) = n + 1 := by
  have h1 : (n + i == n + j) = false := by simp; omega
  unfold renOf
  rw [if_neg (by omega), List.idxOf_cons, h1, List.idxOf_cons]
  simp
theorem clean_desk (h L : VH) (i j : Nat) (off n t off' n' t' : Nat) (k k' : IntKind) (x x' : Int) (o p : VO) (hij : i ≠ j) (hi : L[i]? = some o) (hj : L[j]? = some p) (hf : flatO h.length o) (hg : flatO h.length p) :
    kclean h [.agg #[.int k x, .slice (some ⟨h.length + i, off, none⟩) n t, .int k' x', .slice (some ⟨h.length + j, off', none⟩) n' t']] (h ++ L) = ([.agg #[.int k x, .slice (some ⟨h.length, off, none⟩) n t, .int k' x', .slice (some ⟨h.length + 1, off', none⟩) n' t']], h ++ [o, p]) := by
  rw [cleanup_two (i := i) (j := j) (by simp [trefs, vrefs, crefs, arefs]) hij hi hj hf hg]
  simp [tren, vren, cren, aren, renOf_two1, renOf_two2 _ _ _ hij]

theorem c_laws_szDigraph (n : Int) (s : Value) (xs : List Int) (left : Int) (h : VH) (hs : Sli h s xs) (h1 : 0 ≤ left) (h2 : left ≤ 1048576) (h3 : xs.length ≤ 9223372036854775807) :
    vcall F nro k_laws_szDigraph [gv n s, .int .i64 left] h = some (.int .i64 (if left < xs.length then -1 else left - xs.length), h) := by
  refine v_laws_szDigraph (by simp [i_laws_szDigraph]) ?_
  rw [fbody_eq]
  have hc := c_laws_szInt64S (nro := nro) s xs left (h ++ [⟨0, [.int .i64 n, s]⟩]) (hs.app _) h1 h2 h3
  simp (disch := first | assumption | omega | (simp [*] <;> omega) | fail) [i_laws_szDigraph, hc]
  by_cases hx : left < xs.length
  · simp [hx]; omega
  · have : ¬ (left - (xs.length : Int) < 0) := by omega
    simp [hx, this]

/-- A desk's value. -/
abbrev dv (n : Int) (s : Value) (n' : Int) (s' : Value) : Value := .agg #[.int .i64 n, s, .int .i64 n', s']

theorem c_laws_szDesk (n : Int) (s : Value) (xs : List Int) (n' : Int) (s' : Value) (ys : List Int) (left : Int) (h : VH) (hs : Sli h s xs) (ht : Sli h s' ys) (h1 : 0 ≤ left) (h2 : left ≤ 1048576) (h3 : xs.length ≤ 9223372036854775807) (h4 : ys.length ≤ 9223372036854775807) :
    vcall F nro k_laws_szDesk [dv n s n' s', .int .i64 left] h = some (.int .i64 (if left < xs.length + ys.length then -1 else left - xs.length - ys.length), h) := by
  refine v_laws_szDesk (by simp [i_laws_szDesk]) ?_
  rw [fbody_eq]
  have hc := c_laws_szGraph (nro := nro) n s xs left (h ++ [⟨0, [.int .i64 n, s, .int .i64 n', s']⟩]) (hs.app _) h1 h2 h3
  by_cases hx : left < xs.length
  · have hy : left < xs.length + ys.length := by omega
    rw [if_pos hx] at hc
    rw [if_pos hy]
    simp (disch := first | assumption | omega | (simp [*] <;> omega) | fail) [i_laws_szDesk, hc]
  · rw [if_neg hx] at hc
    have hx2 : ¬ (left - (xs.length : Int) < 0) := by omega
    have hc2 := c_laws_szDigraph (nro := nro) n' s' ys (left - xs.length) (h ++ [⟨0, [.int .i64 n, s, .int .i64 n', s']⟩]) (ht.app _) (by omega) (by omega) h4
    by_cases hy : left < xs.length + ys.length
    · rw [if_pos (by omega)] at hc2
      rw [if_pos hy]
      simp (disch := first | assumption | omega | (simp [*] <;> omega) | fail) [i_laws_szDesk, hc, hx2, hc2]
    · rw [if_neg (by omega)] at hc2
      rw [if_neg hy]
      have hy2 : ¬ (left - (xs.length : Int) - ys.length < 0) := by omega
      simp (disch := first | assumption | omega | (simp [*] <;> omega) | fail) [i_laws_szDesk, hc, hx2, hc2, hy2]

theorem c_laws_toDigraph (n : Int) (s : Value) (xs : List Int) (h : VH) (hs : Sli h s xs) (h3 : xs.length ≤ 1099511627776) (hn : nro ≤ h.length) :
    vcall F nro k_laws_toDigraph [gv n s] h = some (gv n (.slice (some ⟨h.length, 0, none⟩) xs.length xs.length), h ++ [⟨1, ints xs⟩]) := by
  refine v_laws_toDigraph (by simp [i_laws_toDigraph]) ?_
  rw [fbody_eq]
  have hc := c_laws_toInt64S (nro := nro) s xs (h ++ [⟨0, [.int .i64 n, s]⟩, ⟨0, [.int .i64 0, .slice none 0 0]⟩, ⟨0, [.int .i64 n, .slice none 0 0]⟩]) (hs.app _) h3 (by simp; omega)
  simp at hc
  have hn' := fun k => Nat.le_trans hn (Nat.le_add_right h.length k)
  simp (disch := first | assumption | omega | (simp [*] <;> omega) | fail) [i_laws_toDigraph, hc, splice, fresults, fresL, fres1, hn']

theorem c_laws_toDesk (n : Int) (s : Value) (xs : List Int) (n' : Int) (s' : Value) (ys : List Int) (h : VH) (hs : Sli h s xs) (ht : Sli h s' ys) (h3 : xs.length ≤ 1099511627776) (h4 : ys.length ≤ 1099511627776) (hn : nro ≤ h.length) :
    vcall F nro k_laws_toDesk [dv n s n' s'] h = some (dv n (.slice (some ⟨h.length, 0, none⟩) xs.length xs.length) n' (.slice (some ⟨h.length + 1, 0, none⟩) ys.length ys.length), h ++ [⟨1, ints xs⟩, ⟨1, ints ys⟩]) := by
  refine v_laws_toDesk (by simp [i_laws_toDesk]) ?_
  rw [fbody_eq]
  let z : VO := ⟨0, [.int .i64 0, .slice none 0 0, .int .i64 0, .slice none 0 0]⟩
  have hc := c_laws_toGraph (nro := nro) n s xs (h ++ [⟨0, [.int .i64 n, s, .int .i64 n', s']⟩, z, z]) (hs.app _) h3 (by simp; omega)
  have hc2 := c_laws_toDigraph (nro := nro) n' s' ys (h ++ [⟨0, [.int .i64 n, s, .int .i64 n', s']⟩, z, ⟨0, [.int .i64 n, .slice (some ⟨h.length + 3, 0, none⟩) xs.length xs.length, .int .i64 0, .slice none 0 0]⟩, ⟨1, ints xs⟩]) (ht.app _) h4 (by simp; omega)
  simp [z] at hc hc2
  have hn' := fun k => Nat.le_trans hn (Nat.le_add_right h.length k)
  have hk := clean_desk h [⟨0, [.int .i64 n, s, .int .i64 n', s']⟩, ⟨0, [.int .i64 n, .slice (some ⟨h.length + 3, 0, none⟩) xs.length xs.length, .int .i64 n', .slice (some ⟨h.length + 4, 0, none⟩) ys.length ys.length]⟩, ⟨0, [.int .i64 n, .slice (some ⟨h.length + 3, 0, none⟩) xs.length xs.length, .int .i64 n', .slice (some ⟨h.length + 4, 0, none⟩) ys.length ys.length]⟩, ⟨1, ints xs⟩, ⟨1, ints ys⟩] 3 4 0 xs.length xs.length 0 ys.length ys.length .i64 .i64 n n' ⟨1, ints xs⟩ ⟨1, ints ys⟩ (by omega) rfl rfl (by simp) (by simp)
  simp (disch := first | assumption | omega | (simp [*] <;> omega) | fail) [i_laws_toDesk, hc, hc2, splice, fresults, fresL, fres1, hn', hk]

theorem c_laws_eqDigraph (n m : Int) (s t : Value) (xs ys : List Int) (h : VH) (hs : Sli h s xs) (ht : Sli h t ys) (h3 : xs.length ≤ 9223372036854775806) :
    vcall F nro k_laws_eqDigraph [gv n s, gv m t] h = some (.bool (decide (n = m ∧ xs = ys)), h) := by
  refine v_laws_eqDigraph (by simp [i_laws_eqDigraph]) ?_
  rw [fbody_eq]
  have hc := c_laws_eqInt64S (nro := nro) s t xs ys (h ++ [⟨0, [.int .i64 n, s]⟩, ⟨0, [.int .i64 m, t]⟩]) (hs.app _) (ht.app _) h3
  simp (disch := first | assumption | omega | (simp [*] <;> omega) | fail) [i_laws_eqDigraph, hc]
  by_cases e1 : n = m <;> by_cases e2 : xs = ys <;> simp [e1, e2]

theorem c_laws_eqDesk (n m n' m' : Int) (s t s' t' : Value) (xs ys xs' ys' : List Int) (h : VH) (hs : Sli h s xs) (ht : Sli h t ys) (hs' : Sli h s' xs') (ht' : Sli h t' ys') (h3 : xs.length ≤ 9223372036854775806) (h4 : xs'.length ≤ 9223372036854775806) :
    vcall F nro k_laws_eqDesk [dv n s n' s', dv m t m' t'] h = some (.bool (decide ((n = m ∧ xs = ys) ∧ n' = m' ∧ xs' = ys')), h) := by
  refine v_laws_eqDesk (by simp [i_laws_eqDesk]) ?_
  rw [fbody_eq]
  have hc := c_laws_eqGraph (nro := nro) n m s t xs ys (h ++ [⟨0, [.int .i64 n, s, .int .i64 n', s']⟩, ⟨0, [.int .i64 m, t, .int .i64 m', t']⟩]) (hs.app _) (ht.app _) h3
  have hc2 := c_laws_eqDigraph (nro := nro) n' m' s' t' xs' ys' (h ++ [⟨0, [.int .i64 n, s, .int .i64 n', s']⟩, ⟨0, [.int .i64 m, t, .int .i64 m', t']⟩]) (hs'.app _) (ht'.app _) h4
  by_cases e1 : n = m ∧ xs = ys
  · by_cases e2 : n' = m' ∧ xs' = ys'
    · rw [decide_eq_true e1] at hc
      rw [decide_eq_true e2] at hc2
      rw [decide_eq_true (And.intro e1 e2)]
      simp (disch := first | assumption | omega | (simp [*] <;> omega) | fail) [i_laws_eqDesk, hc, hc2]
    · rw [decide_eq_true e1] at hc
      rw [decide_eq_false e2] at hc2
      rw [decide_eq_false (fun e => e2 e.2)]
      simp (disch := first | assumption | omega | (simp [*] <;> omega) | fail) [i_laws_eqDesk, hc, hc2]
  · rw [decide_eq_false e1] at hc
    rw [decide_eq_false (fun e => e1 e.1)]
    simp (disch := first | assumption | omega | (simp [*] <;> omega) | fail) [i_laws_eqDesk, hc]

/-- What holds of row v of a digraph. -/
def DRow (n : Int) (rows : List Int) (v : Nat) : Prop := 0 ≤ rows.getD v 0 ∧ rows.getD v 0 < 2 ^ n.toNat

open Classical in
theorem l_spec_l08Is (n : Int) (s : Value) (rows : List Int) (h : VH) (hs : Sli h s rows) (hn1 : 1 ≤ n) (hn2 : n ≤ 62) (hl : (rows.length : Int) = n) :
    floop (vcall F nro) nro [1, 3] i_spec_l08Is_B1 (bx h n s) [bp h, .int .i64 0] (bx h n s) =
      if ∃ j : Int, 0 ≤ j ∧ j < n ∧ ¬ DRow n rows j.toNat then some (.ret, fl [(2, .bool false)], bx h n s) else some (.exit 0, fl [], bx h n s) := by
  refine search (fun i => floop (vcall F nro) nro [1, 3] i_spec_l08Is_B1 (bx h n s) [bp h, .int .i64 i] (bx h n s)) (fun i => ¬ DRow n rows i.toNat) _ _ n 0 ?_ ?_ 0 (by omega)
  · intro i hi hlt
    have hc := fun (x a b : Int) => c_spec_l01In (nro := nro) x a b (bx h n s)
    have hp := pow_le62 hn2
    have hp1 := pow_pos2 n.toNat
    have hd : DRow n rows i.toNat ↔ 0 ≤ rows[i.toNat]'(by omega) ∧ rows[i.toNat]'(by omega) ≤ 2 ^ n.toNat - 1 := by
      unfold DRow
      rw [getD_at rows (by omega)]
      constructor <;> rintro ⟨h1, h2⟩ <;> exact ⟨h1, by omega⟩
    rw [floop_at i_spec_l08Is_B1.eq_1, hd]
    constructor <;> intro hb
    · simp (disch := first | assumption | omega | (simp [*] <;> omega) | fail) [hs.vlen', hs.vidx', hs.vload', wrap64, wrapu64, hlt, hl, hc, ishl_one', hb]
    · have hb := Classical.not_not.mp hb
      simp (disch := first | assumption | omega | (simp [*] <;> omega) | fail) [hs.vlen', hs.vidx', hs.vload', wrap64, wrapu64, hlt, hl, hc, ishl_one', hb.1, hb.2]
  · intro i hi hlt
    rw [floop_at i_spec_l08Is_B1.eq_1]
    simp (disch := first | assumption | omega | (simp [*] <;> omega) | fail) [hs.vlen', hlt, hl]

theorem DV_iff (n : Int) (rows : List Int) (hn1 : 1 ≤ n) (hn2 : n ≤ 62) (hl : (rows.length : Int) = n) : DV n rows ↔ ¬ ∃ j : Int, 0 ≤ j ∧ j < n ∧ ¬ DRow n rows j.toNat := by
  constructor
  · rintro g ⟨j, h1, h2, h3⟩
    exact h3 (g.row _ (by omega))
  · intro hno
    refine ⟨hn1, hn2, hl, fun v hv => ?_⟩
    apply Classical.byContradiction
    intro hb
    exact hno ⟨v, by omega, by omega, by rw [Int.toNat_natCast]; exact hb⟩

open Classical in
theorem c_spec_l08Is (n : Int) (s : Value) (rows : List Int) (h : VH) (hs : Sli h s rows) :
    vcall F nro k_spec_l08Is [gv n s] h = some (.bool (decide (DV n rows)), h) := by
  refine v_spec_l08Is (by simp [i_spec_l08Is]) ?_
  rw [fbody_eq]
  have hc := fun (x a b : Int) => c_spec_l01In (nro := nro) x a b (bx h n s)
  by_cases h1 : 1 ≤ n ∧ n ≤ 62
  · by_cases h2 : (rows.length : Int) = n
    · have hl := l_spec_l08Is (nro := nro) n s rows h hs h1.1 h1.2 h2
      by_cases g : DV n rows
      · rw [if_neg ((DV_iff n rows h1.1 h1.2 h2).mp g)] at hl
        simp (disch := first | assumption | omega | (simp [*] <;> omega) | fail) [i_spec_l08Is, hs.vlen', hc, h1.1, h1.2, h2, hl, g]
      · rw [if_pos (Classical.not_not.mp (mt (DV_iff n rows h1.1 h1.2 h2).mpr g))] at hl
        simp (disch := first | assumption | omega | (simp [*] <;> omega) | fail) [i_spec_l08Is, hs.vlen', hc, h1.1, h1.2, h2, hl, g]
    · have g : ¬ DV n rows := fun g => h2 g.len
      simp (disch := first | assumption | omega | (simp [*] <;> omega) | fail) [i_spec_l08Is, hs.vlen', hc, h1.1, h1.2, h2, g]
  · have g : ¬ DV n rows := fun g => h1 ⟨g.lo, g.hi⟩
    simp (disch := first | assumption | omega | (simp [*] <;> omega) | fail) [i_spec_l08Is, hs.vlen', hc, h1, g]

theorem c_impl_IsDigraph_1 (n x : Int) (b : Nat) (h : VH) (hb : h[b]? = some ⟨0, [.int .i64 n]⟩) (h1 : 1 ≤ n) (h2 : n ≤ 62) :
    vcall F nro k_impl_IsDigraph_1 [.int .i64 x, .pointer (some ⟨b, 0, some 1⟩)] h = some (.bool (!decide (0 ≤ x ∧ x < 2 ^ n.toNat)), h) := by
  refine v_impl_IsDigraph_1 (by simp [i_impl_IsDigraph_1]) ?_
  rw [fbody_eq]
  by_cases h0 : x < 0
  · have : ¬ 0 ≤ x := by omega
    simp (disch := first | assumption | omega | (simp [*] <;> omega) | fail) [i_impl_IsDigraph_1, h0, this]
  · have h0' : 0 ≤ x := by omega
    simp (disch := first | assumption | omega | (simp [*] <;> omega) | fail) [i_impl_IsDigraph_1, h0, h0', hb, ishl_one']
    by_cases h3 : x < 2 ^ n.toNat
    · have : ¬ 2 ^ n.toNat ≤ x := by omega
      simp [h3, this]
    · have : 2 ^ n.toNat ≤ x := by omega
      simp [h3, this]

open Classical in
theorem l_slices_IndexFunc (s fv : Value) (kf : Nat) (caps : List Value) (xs : List Int) (p : Int → Prop) (h : VH) (hs : Sli h s xs) (hl : xs.length ≤ 9223372036854775806) (hfv : fv = .func (.func kf) #[] caps.toArray) (hfo : Old h.length fv) (hf : ∀ x ∈ xs, vcall F nro kf (.int .i64 x :: caps) h = some (.bool (decide (p x)), h)) (i : Int) (hi : 0 ≤ i) (hin : i ≤ xs.length) :
    ∃ e, floop (vcall F nro) nro [0, 1, 7, 8] i_slices_IndexFunc_int64_int64_B1 h [s, fv, .int .i64 xs.length, .int .i64 i] h =
      some (if ∃ j : Nat, (i ≤ j ∧ j < xs.length ∧ p (xs.getD j 0)) then (.ret, fl [(4, .int .i64 e)], h) else (.exit 0, fl [], h)) ∧ ((∃ j : Nat, (i ≤ j ∧ j < xs.length ∧ p (xs.getD j 0))) → 0 ≤ e ∧ e < xs.length ∧ p (xs.getD e.toNat 0) ∧ ∀ j : Nat, i ≤ j → (j : Int) < e → ¬ p (xs.getD j 0)) := by
  have hso := hs.old
  rw [floop_at i_slices_IndexFunc_int64_int64_B1.eq_1]
  by_cases hlt : i < xs.length
  · have e1 : xs.getD i.toNat 0 = xs[i.toNat]'(by omega) := getD_at _ (by omega)
    have hfx := hf (xs[i.toNat]'(by omega)) (List.getElem_mem _)
    by_cases hb : p (xs[i.toNat]'(by omega))
    · refine ⟨i, ?_, fun _ => ⟨hi, hlt, by rw [e1]; exact hb, fun j h1 h2 => by omega⟩⟩
      have hex : ∃ j : Nat, (i ≤ j ∧ j < xs.length ∧ p (xs.getD j 0)) := ⟨i.toNat, by omega, by omega, by rw [e1]; exact hb⟩
      rw [if_pos hex]
      simp (disch := first | assumption | omega | (simp [*] <;> omega) | fail) [hs.vlen, hs.vidx, hs.vload, wrap64, hlt, hfv, hfx, hb]
    · obtain ⟨e, ih1, ih2⟩ := l_slices_IndexFunc s fv kf caps xs p h hs hl hfv hfo hf (i + 1) (by omega) (by omega)
      have hiff : (∃ j : Nat, (i + 1 ≤ j ∧ j < xs.length ∧ p (xs.getD j 0))) ↔ ∃ j : Nat, (i ≤ j ∧ j < xs.length ∧ p (xs.getD j 0)) := by
        constructor
        · rintro ⟨j, h1, h2, h3⟩; exact ⟨j, by omega, h2, h3⟩
        · rintro ⟨j, h1, h2, h3⟩
          refine ⟨j, ?_, h2, h3⟩
          have : (j : Int) ≠ i := fun e => by
            apply hb
            rw [← e1, show i.toNat = j by omega]
            exact h3
          omega
      refine ⟨e, ?_, fun hex => ?_⟩
      · simp only [hiff] at ih1
        subst hfv
        simp (disch := first | assumption | omega | (simp [*] <;> omega) | fail) [hs.vlen, hs.vidx, hs.vload, wrap64, hlt, hfx, hb, ih1]
      · obtain ⟨g1, g2, g3, g4⟩ := ih2 (hiff.mpr hex)
        refine ⟨g1, g2, g3, fun j h1 h2 => ?_⟩
        by_cases e : (j : Int) = i
        · rw [show j = i.toNat by omega, e1]; exact hb
        · exact g4 j (by omega) h2
  · refine ⟨0, ?_, fun hex => ?_⟩
    · rw [if_neg (by rintro ⟨j, h1, h2, _⟩; omega)]
      simp (disch := first | assumption | omega | (simp [*] <;> omega) | fail) [hlt]
    · obtain ⟨j, h1, h2, _⟩ := hex
      omega
 termination_by (xs.length - i).toNat

open Classical in
theorem c_slices_IndexFunc (s fv : Value) (kf : Nat) (caps : List Value) (xs : List Int) (p : Int → Prop) (h : VH) (hs : Sli h s xs) (hl : xs.length ≤ 9223372036854775806) (hfv : fv = .func (.func kf) #[] caps.toArray) (hfo : Old h.length fv) (hf : ∀ x ∈ xs, vcall F nro kf (.int .i64 x :: caps) h = some (.bool (decide (p x)), h)) :
    ∃ e : Int, vcall F nro k_slices_IndexFunc_int64_int64 [s, fv] h = some (.int .i64 e, h) ∧ ((e = -1 ∧ ∀ j : Nat, j < xs.length → ¬ p (xs.getD j 0)) ∨ (0 ≤ e ∧ e < xs.length ∧ p (xs.getD e.toNat 0) ∧ ∀ j : Nat, (j : Int) < e → ¬ p (xs.getD j 0))) := by
  obtain ⟨e, h1, h2⟩ := l_slices_IndexFunc (nro := nro) s fv kf caps xs p h hs hl hfv hfo hf 0 (by omega) (by omega)
  by_cases hex : ∃ j : Nat, ((0 : Int) ≤ j ∧ j < xs.length ∧ p (xs.getD j 0))
  · rw [if_pos hex] at h1
    obtain ⟨g1, g2, g3, g4⟩ := h2 hex
    refine ⟨e, ?_, .inr ⟨g1, g2, g3, fun j hj => g4 j (by omega) hj⟩⟩
    refine v_slices_IndexFunc_int64_int64 (by simp [i_slices_IndexFunc_int64_int64]) ?_
    rw [fbody_eq]
    simp (disch := first | assumption | omega | (simp [*] <;> omega) | fail) [i_slices_IndexFunc_int64_int64, hs.vlen, h1]
  · rw [if_neg hex] at h1
    refine ⟨-1, ?_, .inl ⟨rfl, fun j hj hp => hex ⟨j, by omega, hj, hp⟩⟩⟩
    refine v_slices_IndexFunc_int64_int64 (by simp [i_slices_IndexFunc_int64_int64]) ?_
    rw [fbody_eq]
    simp (disch := first | assumption | omega | (simp [*] <;> omega) | fail) [i_slices_IndexFunc_int64_int64, hs.vlen, h1]

open Classical in
theorem c_slices_ContainsFunc (s fv : Value) (kf : Nat) (caps : List Value) (xs : List Int) (p : Int → Prop) (h : VH) (hs : Sli h s xs) (hl : xs.length ≤ 9223372036854775806) (hfv : fv = .func (.func kf) #[] caps.toArray) (hfo : Old h.length fv) (hf : ∀ x ∈ xs, vcall F nro kf (.int .i64 x :: caps) h = some (.bool (decide (p x)), h)) :
    vcall F nro k_slices_ContainsFunc_int64_int64 [s, fv] h = some (.bool (decide (∃ j : Nat, j < xs.length ∧ p (xs.getD j 0))), h) := by
  obtain ⟨e, h1, h2⟩ := c_slices_IndexFunc (nro := nro) s fv kf caps xs p h hs hl hfv hfo hf
  refine v_slices_ContainsFunc_int64_int64 (by simp [i_slices_ContainsFunc_int64_int64]) ?_
  rw [fbody_eq]
  rcases h2 with ⟨rfl, h2⟩ | ⟨g1, g2, g3, g4⟩
  · have : ¬ ∃ j : Nat, j < xs.length ∧ p (xs.getD j 0) := fun ⟨j, h3, h4⟩ => h2 j h3 h4
    rw [decide_eq_false this]
    simp (disch := first | assumption | omega | (simp [*] <;> omega) | fail) [i_slices_ContainsFunc_int64_int64, h1]
  · have : ∃ j : Nat, j < xs.length ∧ p (xs.getD j 0) := ⟨e.toNat, by omega, g3⟩
    rw [decide_eq_true this]
    clear this
    simp (disch := first | assumption | omega | (simp [*] <;> omega) | fail) [i_slices_ContainsFunc_int64_int64, h1, g1]

open Classical in
theorem c_impl_IsDigraph (n : Int) (s : Value) (rows : List Int) (h : VH) (hs : Sli h s rows) (hn : nro ≤ h.length) :
    vcall F nro k_impl_IsDigraph [gv n s] h = some (.bool (decide (DV n rows)), h) := by
  refine v_impl_IsDigraph (by simp [i_impl_IsDigraph]) ?_
  rw [fbody_eq]
  have hn' := fun k => Nat.le_trans hn (Nat.le_add_right h.length k)
  by_cases h1 : 1 ≤ n
  · have h1' : ¬ n < 1 := by omega
    by_cases h2 : n ≤ 62
    · have h2' : ¬ 62 < n := by omega
      by_cases hl : (rows.length : Int) = n
      · have hc := c_slices_ContainsFunc (nro := nro) s (.func (.func k_impl_IsDigraph_1) #[] #[.pointer (some ⟨h.length + 1, 0, some 1⟩)]) k_impl_IsDigraph_1 [.pointer (some ⟨h.length + 1, 0, some 1⟩)] rows (fun x => ¬ (0 ≤ x ∧ x < 2 ^ n.toNat)) (h ++ [⟨0, [.int .i64 n, s]⟩, ⟨0, [.int .i64 n]⟩]) (hs.app _) (by omega) rfl
          (by intro r hr; simp [trefs, vrefs, crefs, arefs] at hr ⊢; omega) (fun x _ => by rw [c_impl_IsDigraph_1 n x (h.length + 1) _ (by simp) h1 h2]; simp only [decide_not])
        have hd : (∃ j : Nat, j < rows.length ∧ ¬ (0 ≤ rows.getD j 0 ∧ rows.getD j 0 < 2 ^ n.toNat)) ↔ ¬ DV n rows := by
          constructor
          · rintro ⟨j, h3, h4⟩ g
            exact h4 (g.row j h3)
          · intro g
            apply Classical.byContradiction
            intro hno
            exact g ⟨h1, h2, hl, fun v hv => Classical.byContradiction fun hb => hno ⟨v, hv, hb⟩⟩
        simp only [hd] at hc
        by_cases g : DV n rows
        · simp (disch := first | assumption | omega | (simp [*] <;> omega) | fail) [i_impl_IsDigraph, hs.vlen', hs.vload', h1', h2', hl, hn', hc, g, isAtom]
        · simp (disch := first | assumption | omega | (simp [*] <;> omega) | fail) [i_impl_IsDigraph, hs.vlen', hs.vload', h1', h2', hl, hn', hc, g, isAtom]
      · have g : ¬ DV n rows := fun g => hl g.len
        simp (disch := first | assumption | omega | (simp [*] <;> omega) | fail) [i_impl_IsDigraph, hs.vlen', hs.vload', h1', h2', hl, hn', g]
    · have h2' : 62 < n := by omega
      have g : ¬ DV n rows := fun g => h2 g.hi
      simp (disch := first | assumption | omega | (simp [*] <;> omega) | fail) [i_impl_IsDigraph, h1', h2', hn', g]
  · have h1' : n < 1 := by omega
    have g : ¬ DV n rows := fun g => h1 g.lo
    simp (disch := first | assumption | omega | (simp [*] <;> omega) | fail) [i_impl_IsDigraph, h1', hn', g]
end Go.Proofs.Ytcpmodengmffjaa.Zv
