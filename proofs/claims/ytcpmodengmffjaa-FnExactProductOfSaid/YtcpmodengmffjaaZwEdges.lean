/- Lists of lists: all edges. -/
import Derived.Test.YtcpmodengmffjaaZwCover
namespace Go.Proofs.Ytcpmodengmffjaa.Zv
open Go
variable {nro : Nat}

/-- Where nothing is handed on that is new, a cleaning drops all that is new, or nothing. -/
theorem cleanup_old {h0 h : VH} {vs : List Value} (hv : ∀ v ∈ vs, Old h0.length v) : kclean h0 vs h = (vs, h) ∨ (okT h0.length h0 (h.take h0.length) ∧ kclean h0 vs h = (vs, h.take h0.length)) := by
  unfold kclean cleanup
  rw [keepL_nil hv]
  by_cases hc : okT h0.length h0 (h.take h0.length) ∧ flatL h0.length [] h
  · rw [if_pos hc]
    refine .inr ⟨hc.1, ?_⟩
    simp only [List.filterMap_nil, List.append_nil, Prod.mk.injEq, and_true]
    have : ∀ v ∈ vs, tren (renOf h0.length []) v = v := fun v h => tren_old (hv v h) fun i hi => by simp only [renOf, if_pos hi]
    exact (List.map_congr_left this).trans (by simp)
  · rw [if_neg hc]
    exact .inl rfl

/-- A list of lists in new memory from n on. -/
structure EI (n : Nat) (vs : List Value) (G : VH) (ess : List (List Int)) : Prop where
  len : vs.length = ess.length
  at_ : ∀ i : Nat, i < ess.length → ∃ k, vs[i]? = some (.slice (some ⟨n + k, 0, none⟩) (ess.getD i []).length (ess.getD i []).length) ∧ G[k]? = some ⟨1, ints (ess.getD i [])⟩

theorem EI.nil (n : Nat) (G : VH) : EI n [] G [] := ⟨rfl, fun i hi => by simp at hi⟩
theorem EI.more {n : Nat} {vs : List Value} {G : VH} {ess : List (List Int)} (e : EI n vs G ess) (L : VH) : EI n vs (G ++ L) ess := by
  refine ⟨e.len, fun i hi => ?_⟩
  obtain ⟨k, h1, h2⟩ := e.at_ i hi
  exact ⟨k, h1, by rw [List.getElem?_append_left (List.getElem?_eq_some_iff.mp h2).1]; exact h2⟩
theorem EI.snoc {n : Nat} {vs : List Value} {G : VH} {ess : List (List Int)} (e : EI n vs G ess) (xs : List Int) (k : Nat) (hk : G[k]? = some ⟨1, ints xs⟩) : EI n (vs ++ [.slice (some ⟨n + k, 0, none⟩) xs.length xs.length]) G (ess ++ [xs]) := by
  have hl := e.len
  refine ⟨by simp [hl], fun i hi => ?_⟩
  by_cases h : i < ess.length
  · obtain ⟨k', h1, h2⟩ := e.at_ i h
    have e1 : (ess ++ [xs]).getD i [] = ess.getD i [] := by simp only [List.getD_eq_getElem?_getD]; rw [List.getElem?_append_left h]
    rw [e1]
    exact ⟨k', by rw [List.getElem?_append_left (by omega)]; exact h1, h2⟩
  · have hi2 : i = ess.length := by simp at hi; omega
    subst hi2
    have e1 : (ess ++ [xs]).getD ess.length [] = xs := by simp [List.getD_eq_getElem?_getD]
    rw [e1]
    exact ⟨k, by rw [← hl]; simp, hk⟩
/-- What stays behind a cleaning. -/
theorem EI.clean {h : VH} {box : VO} {vs0 vs : List Value} {G0 G : VH} {ess0 ess : List (List Int)} (e0 : EI (h.length + 2) vs0 G0 ess0) (e : EI (h.length + 2) vs G ess) (hG : G0.length ≤ G.length)
    (hok : okT (h ++ box :: ⟨1, vs0⟩ :: G0).length (h ++ box :: ⟨1, vs0⟩ :: G0) ((h ++ box :: ⟨1, vs⟩ :: G).take (h ++ box :: ⟨1, vs0⟩ :: G0).length)) :
    (h ++ box :: ⟨1, vs⟩ :: G).take (h ++ box :: ⟨1, vs0⟩ :: G0).length = h ++ box :: ⟨1, vs⟩ :: G.take G0.length ∧ EI (h.length + 2) vs (G.take G0.length) ess := by
  have e1 : (h ++ box :: ⟨1, vs⟩ :: G).take (h ++ box :: ⟨1, vs0⟩ :: G0).length = h ++ box :: ⟨1, vs⟩ :: G.take G0.length := by
    rw [List.length_append, List.length_cons, List.length_cons, List.take_append, List.take_of_length_le (by omega)]
    rw [show h.length + (G0.length + 1 + 1) - h.length = G0.length + 1 + 1 by omega]
    rfl
  refine ⟨e1, e.len, fun i hi => ?_⟩
  obtain ⟨k, h1, h2⟩ := e.at_ i hi
  have hk : k < G0.length := by
    rw [e1] at hok
    have h3 := hok (h.length + 1) ⟨1, vs⟩ (by rw [hgetk]; rfl)
    have hmem : h.length + 2 + k ∈ orefs ⟨1, vs⟩ := by
      unfold orefs
      refine List.mem_flatMap.mpr ⟨_, List.mem_of_getElem? h1, ?_⟩
      simp [crefs, arefs]
    rcases h3 with h3 | h3
    · rw [hgetk] at h3
      simp at h3
      subst h3
      have hi0 : i < ess0.length := by
        have := (List.getElem?_eq_some_iff.mp h1).1
        rw [← e0.len]; exact this
      obtain ⟨k', h4, h5⟩ := e0.at_ i hi0
      rw [h1] at h4
      simp at h4
      have : k = k' := h4.1
      subst this
      exact (List.getElem?_eq_some_iff.mp h5).1
    · have := h3 _ hmem
      simp at this
      omega
  exact ⟨k, h1, by rw [List.getElem?_take, if_pos hk]; exact h2⟩

/-- The edges of v from w on. -/
def edgF (rows : List Int) (v n w : Nat) : List (List Int) := if h : w < n then (if rbit rows v w = true then [[(v : Int), (w : Int)]] else []) ++ edgF rows v n (w + 1) else []
 termination_by n - w
theorem edgF_end {rows : List Int} {v n w : Nat} (h : ¬ w < n) : edgF rows v n w = [] := by rw [edgF, dif_neg h]
theorem edgF_step {rows : List Int} {v n w : Nat} (h : w < n) : edgF rows v n w = (if rbit rows v w = true then [[(v : Int), (w : Int)]] else []) ++ edgF rows v n (w + 1) := by rw [edgF, dif_pos h]
/-- All edges from v on. -/
def edgesF (rows : List Int) (n v : Nat) : List (List Int) := if h : v < n then edgF rows v n (v + 1) ++ edgesF rows n (v + 1) else []
 termination_by n - v
theorem edgesF_end {rows : List Int} {n v : Nat} (h : ¬ v < n) : edgesF rows n v = [] := by rw [edgesF, dif_neg h]
theorem edgesF_step {rows : List Int} {n v : Nat} (h : v < n) : edgesF rows n v = edgF rows v n (v + 1) ++ edgesF rows n (v + 1) := by rw [edgesF, dif_pos h]
theorem edgF_mem (rows : List Int) (v n w : Nat) (e : List Int) : e ∈ edgF rows v n w ↔ ∃ k : Nat, w ≤ k ∧ k < n ∧ rbit rows v k = true ∧ e = [(v : Int), (k : Int)] := by
  by_cases h : w < n
  · rw [edgF_step h, List.mem_append, edgF_mem rows v n (w + 1) e]
    split
    · rename_i hb
      simp only [List.mem_singleton]
      constructor
      · rintro (rfl | ⟨k, h1, h2, h3, h4⟩)
        · exact ⟨w, Nat.le_refl _, h, hb, rfl⟩
        · exact ⟨k, by omega, h2, h3, h4⟩
      · rintro ⟨k, h1, h2, h3, h4⟩
        by_cases e : k = w
        · subst e; exact .inl h4
        · exact .inr ⟨k, by omega, h2, h3, h4⟩
    · rename_i hb
      simp only [List.not_mem_nil, false_or]
      constructor
      · rintro ⟨k, h1, h2, h3, h4⟩
        exact ⟨k, by omega, h2, h3, h4⟩
      · rintro ⟨k, h1, h2, h3, h4⟩
        by_cases e : k = w
        · subst e; exact absurd h3 hb
        · exact ⟨k, by omega, h2, h3, h4⟩
  · rw [edgF_end h]
    simp only [List.not_mem_nil, false_iff]
    rintro ⟨k, h1, h2, _⟩
    omega
 termination_by n - w
theorem edgesF_mem (rows : List Int) (n v : Nat) (e : List Int) : e ∈ edgesF rows n v ↔ ∃ u k : Nat, v ≤ u ∧ u < k ∧ k < n ∧ rbit rows u k = true ∧ e = [(u : Int), (k : Int)] := by
  by_cases h : v < n
  · rw [edgesF_step h, List.mem_append, edgF_mem, edgesF_mem rows n (v + 1) e]
    constructor
    · rintro (⟨k, h1, h2, h3, h4⟩ | ⟨u, k, h1, h2, h3, h4, h5⟩)
      · exact ⟨v, k, Nat.le_refl _, by omega, h2, h3, h4⟩
      · exact ⟨u, k, by omega, h2, h3, h4, h5⟩
    · rintro ⟨u, k, h1, h2, h3, h4, h5⟩
      by_cases e : u = v
      · subst e; exact .inl ⟨k, by omega, h3, h4, h5⟩
      · exact .inr ⟨u, k, by omega, h2, h3, h4, h5⟩
  · rw [edgesF_end h]
    simp only [List.not_mem_nil, false_iff]
    rintro ⟨u, k, h1, h2, h3, _⟩
    omega
 termination_by n - v
theorem edgF_len (rows : List Int) (v n w : Nat) (hw : w ≤ n) : (edgF rows v n w).length ≤ n - w := by
  by_cases h : w < n
  · rw [edgF_step h, List.length_append]
    have := edgF_len rows v n (w + 1) h
    split <;> simp <;> omega
  · rw [edgF_end h]; simp
 termination_by n - w

/-- The heap in the loops. -/
abbrev eH (h : VH) (n : Int) (s : Value) (vs : List Value) (G : VH) : VH := h ++ ⟨0, [.int .i64 n, s]⟩ :: ⟨1, vs⟩ :: G
abbrev eq1 (h : VH) (m : Nat) : Value := .slice (some ⟨h.length + 1, 0, none⟩) m m

theorem l_spec_l01Edges_1 (n : Int) (s : Value) (rows : List Int) (h : VH) (hs : Sli h s rows) (hn : nro ≤ h.length) (g : GV n rows) (v : Nat) (hv : v < n.toNat) (vs0 : List Value) (G0 : VH) (ess0 : List (List Int)) (e0 : EI (h.length + 2) vs0 G0 ess0) (w : Nat) (hw : w ≤ n.toNat) (vs : List Value) (G : VH) (ess : List (List Int)) (e : EI (h.length + 2) vs G ess) (hG : G0.length ≤ G.length) (hm : vs.length ≤ v * 62 + w) :
    ∃ vs' G', floop (vcall F nro) nro [1, 3, 4, 5] i_spec_l01Edges_B1 (eH h n s vs0 G0) [bp h, eq1 h vs.length, .int .i64 v, .int .i64 w] (eH h n s vs G) =
      some (.exit 2, fl [(1, bp h), (3, eq1 h vs'.length), (4, .int .i64 v)], eH h n s vs' G') ∧ EI (h.length + 2) vs' G' (ess ++ edgF rows v n.toNat w) ∧ G0.length ≤ G'.length := by
  have hn' := fun k => Nat.le_trans hn (Nat.le_add_right h.length k)
  have hsc := fun k => hs.oldCk (k := k)
  have hlen := g.len
  have g0 := g.hi
  have hp := pow_le62 g.hi
  obtain ⟨g1, g2, _⟩ := g.row v (by omega)
  have hold : ∀ m, ∀ x ∈ [bp h, eq1 h m, Value.int .i64 v, Value.int .i64 ((w : Int) + 1)], Old (eH h n s vs0 G0).length x := by
    intro m x hx
    simp at hx
    rcases hx with rfl | rfl | rfl | rfl <;> intro r hr <;> simp [trefs, vrefs, crefs, arefs] at hr ⊢ <;> omega
  by_cases hlt : w < n.toNat
  · have hlt' : (w : Int) < n := by omega
    obtain ⟨H, hH⟩ : ∃ H, H = eH h n s vs G := ⟨_, rfl⟩
    have hc := c_spec_l01Has' (nro := nro) n v w s rows H (by rw [hH]; exact hs.app _) (by omega) (by omega) (by omega) (by omega) (by rw [Int.toNat_natCast]; exact g1) (by rw [Int.toNat_natCast]; omega)
    rw [Int.toNat_natCast, Int.toNat_natCast] at hc
    have hq : H[h.length + 1]? = some ⟨1, vs⟩ := by rw [hH]; simp
    have hbx : H[h.length]? = some ⟨0, [.int .i64 n, s]⟩ := by rw [hH]; simp
    have hHl : H.length = h.length + 2 + G.length := by rw [hH]; simp; omega
    have hnH : nro ≤ H.length := by omega
    have hnH' := fun k => Nat.le_trans hnH (Nat.le_add_right H.length k)
    obtain ⟨K, hK⟩ : ∃ K, K = eH h n s vs0 G0 := ⟨_, rfl⟩
    have step : ∃ vs1 G1, floop (vcall F nro) nro [1, 3, 4, 5] i_spec_l01Edges_B1 K [bp h, eq1 h vs.length, .int .i64 v, .int .i64 w] H = floop (vcall F nro) nro [1, 3, 4, 5] i_spec_l01Edges_B1 K [bp h, eq1 h vs1.length, .int .i64 v, .int .i64 ((w : Int) + 1)] (eH h n s vs1 G1) ∧
        EI (h.length + 2) vs1 G1 (ess ++ if rbit rows v w = true then [[(v : Int), (w : Int)]] else []) ∧ G0.length ≤ G1.length ∧ vs1.length ≤ vs.length + 1 := by
      rw [floop_at i_spec_l01Edges_B1.eq_1]
      by_cases hb : rbit rows v w = true
      · rw [if_pos hb]
        have b1 : (vs.length + 1) * 24 ≤ 1099511627776 := by omega
        have b2 : vs.length < 1099511627776 := by omega
        have hnew : H.set (h.length + 1) ⟨1, vs ++ [.slice (some ⟨H.length, 0, none⟩) 2 2]⟩ ++ [⟨1, [.int .i64 v, .int .i64 w]⟩, ⟨1, [.slice (some ⟨H.length, 0, none⟩) 2 2]⟩] = eH h n s (vs ++ [.slice (some ⟨h.length + 2 + G.length, 0, none⟩) 2 2]) (G ++ [⟨1, [.int .i64 v, .int .i64 w]⟩, ⟨1, [.slice (some ⟨h.length + 2 + G.length, 0, none⟩) 2 2]⟩]) := by
          rw [hHl, hH]; simp
        have e1 : EI (h.length + 2) (vs ++ [.slice (some ⟨h.length + 2 + G.length, 0, none⟩) 2 2]) (G ++ [⟨1, [.int .i64 v, .int .i64 w]⟩, ⟨1, [.slice (some ⟨h.length + 2 + G.length, 0, none⟩) 2 2]⟩]) (ess ++ [[(v : Int), (w : Int)]]) :=
          (e.more _).snoc [(v : Int), (w : Int)] G.length (by simp)
        have hcl := cleanup_old (h0 := K) (h := eH h n s (vs ++ [.slice (some ⟨h.length + 2 + G.length, 0, none⟩) 2 2]) (G ++ [⟨1, [.int .i64 v, .int .i64 w]⟩, ⟨1, [.slice (some ⟨h.length + 2 + G.length, 0, none⟩) 2 2]⟩])) (by rw [hK]; exact hold (vs.length + 1))
        rcases hcl with hk | ⟨hok, hk⟩
        · refine ⟨_, _, ?_, e1, by simp; omega, by simp⟩
          simp only [List.length_append, List.length_singleton]
          clear hold hHl hH hK e1 e e0
          simp (disch := first | assumption | omega | (simp [*] <;> omega) | fail) [hbx, hq, hget_old hq, hset_old hq, hc, hb, wrap64, hlt', hn', hnH, hnH', b1, b2, hnew, hk]
        · rw [hK] at hok hk
          obtain ⟨c1, c2⟩ := e0.clean (box := ⟨0, [.int .i64 n, s]⟩) e1 (by simp; omega) hok
          rw [c1, ← hK] at hk
          refine ⟨_, _, ?_, c2, by simp; omega, by simp⟩
          simp only [List.length_append, List.length_singleton]
          clear hold hHl hH hK e1 e e0
          simp (disch := first | assumption | omega | (simp [*] <;> omega) | fail) [hbx, hq, hget_old hq, hset_old hq, hc, hb, wrap64, hlt', hn', hnH, hnH', b1, b2, hnew, hk]
      · rw [if_neg hb, List.append_nil]
        have hcl := cleanup_old (h0 := K) (h := H) (by rw [hK]; exact hold vs.length)
        rcases hcl with hk | ⟨hok, hk⟩
        · refine ⟨vs, G, ?_, e, hG, by omega⟩
          rw [← hH]
          clear hold hHl hH hK e e0
          simp (disch := first | assumption | omega | (simp [*] <;> omega) | fail) [hbx, hq, hc, hb, wrap64, hlt', hnH, hnH', hk]
        · rw [hK, hH] at hok hk
          obtain ⟨c1, c2⟩ := e0.clean (box := ⟨0, [.int .i64 n, s]⟩) e hG hok
          rw [c1, ← hK, ← hH] at hk
          refine ⟨vs, _, ?_, c2, by simp; omega, by omega⟩
          clear hold hHl hH hK e e0
          simp (disch := first | assumption | omega | (simp [*] <;> omega) | fail) [hbx, hq, hc, hb, wrap64, hlt', hnH, hnH', hk]
    obtain ⟨vs1, G1, s1, s2, s3, s4⟩ := step
    rw [hK, hH] at s1
    obtain ⟨vs', G', ih1, ih2, ih3⟩ := l_spec_l01Edges_1 n s rows h hs hn g v hv vs0 G0 ess0 e0 (w + 1) hlt vs1 G1 _ s2 s3 (by omega)
    rw [show ((w + 1 : Nat) : Int) = (w : Int) + 1 by omega, ← s1] at ih1
    rw [edgF_step hlt, ← List.append_assoc]
    exact ⟨vs', G', ih1, ih2, ih3⟩
  · have hlt' : ¬ (w : Int) < n := by omega
    rw [edgF_end hlt, List.append_nil]
    refine ⟨vs, G, ?_, e, hG⟩
    rw [floop_at i_spec_l01Edges_B1.eq_1]
    simp (disch := first | assumption | omega | (simp [*] <;> omega) | fail) [hlt']
 termination_by n.toNat - w

theorem l_spec_l01Edges_2 (n : Int) (s : Value) (rows : List Int) (h : VH) (hs : Sli h s rows) (hn : nro ≤ h.length) (g : GV n rows) (vs0 : List Value) (G0 : VH) (ess0 : List (List Int)) (e0 : EI (h.length + 2) vs0 G0 ess0) (v : Nat) (hv : v ≤ n.toNat) (vs : List Value) (G : VH) (ess : List (List Int)) (e : EI (h.length + 2) vs G ess) (hG : G0.length ≤ G.length) (hm : vs.length ≤ v * 62) :
    ∃ vs' G', floop (vcall F nro) nro [1, 3, 4] i_spec_l01Edges_B2 (eH h n s vs0 G0) [bp h, eq1 h vs.length, .int .i64 v] (eH h n s vs G) =
      some (.exit 0, fl [(3, eq1 h vs'.length)], eH h n s vs' G') ∧ EI (h.length + 2) vs' G' (ess ++ edgesF rows n.toNat v) ∧ G0.length ≤ G'.length := by
  have hn' := fun k => Nat.le_trans hn (Nat.le_add_right h.length k)
  have hlen := g.len
  have g0 := g.hi
  have hold : ∀ m, ∀ x ∈ [bp h, eq1 h m, Value.int .i64 ((v : Int) + 1)], Old (eH h n s vs0 G0).length x := by
    intro m x hx
    simp at hx
    rcases hx with rfl | rfl | rfl <;> intro r hr <;> simp [trefs, vrefs, crefs, arefs] at hr ⊢ <;> omega
  by_cases hlt : v < n.toNat
  · have hlt' : (v : Int) < n := by omega
    obtain ⟨vs1, G1, i1, i2, i3⟩ := l_spec_l01Edges_1 (nro := nro) n s rows h hs hn g v hlt vs G ess e (v + 1) (by omega) vs G ess e (Nat.le_refl _) (by omega)
    have i4 : vs1.length ≤ vs.length + 62 := by
      have := i2.len
      have := e.len
      have := edgF_len rows v n.toNat (v + 1) (by omega)
      simp at *
      omega
    rw [show ((v + 1 : Nat) : Int) = (v : Int) + 1 by omega] at i1
    obtain ⟨K, hK⟩ : ∃ K, K = eH h n s vs0 G0 := ⟨_, rfl⟩
    have step : ∃ vs2 G2, floop (vcall F nro) nro [1, 3, 4] i_spec_l01Edges_B2 K [bp h, eq1 h vs.length, .int .i64 v] (eH h n s vs G) = floop (vcall F nro) nro [1, 3, 4] i_spec_l01Edges_B2 K [bp h, eq1 h vs2.length, .int .i64 ((v : Int) + 1)] (eH h n s vs2 G2) ∧
        EI (h.length + 2) vs2 G2 (ess ++ edgF rows v n.toNat (v + 1)) ∧ G0.length ≤ G2.length ∧ vs2.length ≤ vs.length + 62 := by
      rw [floop_at i_spec_l01Edges_B2.eq_1]
      have hcl := cleanup_old (h0 := K) (h := eH h n s vs1 G1) (by rw [hK]; exact hold vs1.length)
      obtain ⟨H, hH⟩ : ∃ H, H = eH h n s vs G := ⟨_, rfl⟩
      obtain ⟨H1, hH1⟩ : ∃ H1, H1 = eH h n s vs1 G1 := ⟨_, rfl⟩
      have hbx : H[h.length]? = some ⟨0, [.int .i64 n, s]⟩ := by rw [hH]; simp
      rcases hcl with hk | ⟨hok, hk⟩
      · refine ⟨vs1, G1, ?_, i2, by omega, i4⟩
        rw [← hH1] at hk i1 ⊢
        rw [← hH] at i1 ⊢
        clear hold hH hH1 hK e e0 i2
        simp (disch := first | assumption | omega | (simp [*] <;> omega) | fail) [hbx, wrap64, hlt', i1, hk]
      · rw [hK] at hok hk
        obtain ⟨c1, c2⟩ := e0.clean (box := ⟨0, [.int .i64 n, s]⟩) i2 (by omega) hok
        rw [c1, ← hK] at hk
        refine ⟨vs1, _, ?_, c2, by simp; omega, i4⟩
        obtain ⟨H2, hH2⟩ : ∃ H2, H2 = eH h n s vs1 (G1.take G0.length) := ⟨_, rfl⟩
        rw [← hH1] at hk i1
        have hk' : kclean K [bp h, eq1 h vs1.length, .int .i64 ((v : Int) + 1)] H1 = ([bp h, eq1 h vs1.length, .int .i64 ((v : Int) + 1)], H2) := by rw [hk, hH2]
        rw [show eH h n s vs1 (G1.take G0.length) = H2 from hH2.symm]
        rw [← hH] at i1 ⊢
        clear hold hH hH1 hH2 hK e e0 i2 c2 hk
        simp (disch := first | assumption | omega | (simp [*] <;> omega) | fail) [hbx, wrap64, hlt', i1, hk']
    obtain ⟨vs2, G2, s1, s2, s3, s4⟩ := step
    rw [hK] at s1
    obtain ⟨vs', G', ih1, ih2, ih3⟩ := l_spec_l01Edges_2 n s rows h hs hn g vs0 G0 ess0 e0 (v + 1) hlt vs2 G2 _ s2 s3 (by omega)
    rw [show ((v + 1 : Nat) : Int) = (v : Int) + 1 by omega, ← s1] at ih1
    rw [edgesF_step hlt, ← List.append_assoc]
    exact ⟨vs', G', ih1, ih2, ih3⟩
  · have hlt' : ¬ (v : Int) < n := by omega
    rw [edgesF_end hlt, List.append_nil]
    refine ⟨vs, G, ?_, e, hG⟩
    rw [floop_at i_spec_l01Edges_B2.eq_1]
    simp (disch := first | assumption | omega | (simp [*] <;> omega) | fail) [hlt']
 termination_by n.toNat - v

/-- A list of lists that a call has handed out: in memory from n on. -/
def SL2 (n : Nat) (M : VH) (v : Value) (ess : List (List Int)) : Prop := ∃ b vs, v = .slice (some ⟨n + b, 0, none⟩) ess.length ess.length ∧ M[b]? = some ⟨1, vs⟩ ∧ EI n vs M ess

theorem c_spec_l01Edges (n : Int) (s : Value) (rows : List Int) (h : VH) (hs : Sli h s rows) (hn : nro ≤ h.length) (g : GV n rows) :
    ∃ v M, vcall F nro k_spec_l01Edges [gv n s] h = some (v, h ++ M) ∧ SL2 h.length M v (edgesF rows n.toNat 0) := by
  have hn' := fun k => Nat.le_trans hn (Nat.le_add_right h.length k)
  obtain ⟨vs', G', l1, l2, _⟩ := l_spec_l01Edges_2 (nro := nro) n s rows h hs hn g [] [] [] (EI.nil _ _) 0 (by omega) [] [] [] (EI.nil _ _) (Nat.le_refl _) (by simp)
  rw [List.nil_append] at l2
  have hl2 := l2.len
  -- the end of the call
  have hend : ∃ v M, kclean h [eq1 h vs'.length] (eH h n s vs' G') = ([v], h ++ M) ∧ SL2 h.length M v (edgesF rows n.toNat 0) := by
    have hk : keepL h.length [eq1 h vs'.length] = [h.length + 1] := by
      unfold keepL
      simp [trefs, vrefs, crefs, arefs, dedup]
    have ht : (eH h n s vs' G').take h.length = h := by simp
    by_cases hf : flatL h.length [h.length + 1] (eH h n s vs' G')
    · -- no edges
      have hvs : vs' = [] := by
        obtain ⟨o, ho, hr⟩ := hf (h.length + 1) (by simp)
        have : o = ⟨1, vs'⟩ := by simpa using ho.symm
        subst this
        cases hv : edgesF rows n.toNat 0 with
        | nil => rw [hv] at hl2; exact List.length_eq_zero_iff.mp hl2
        | cons x r =>
          exfalso
          obtain ⟨k, h1, _⟩ := l2.at_ 0 (by rw [hv]; simp)
          have := hr (h.length + 2 + k) (by
            unfold orefs
            refine List.mem_flatMap.mpr ⟨_, List.mem_of_getElem? h1, ?_⟩
            simp [crefs, arefs])
          omega
      subst hvs
      have hes : edgesF rows n.toNat 0 = [] := List.length_eq_zero_iff.mp hl2.symm
      rw [hes]
      refine ⟨.slice (some ⟨h.length + 0, 0, none⟩) 0 0, [⟨1, []⟩], ?_, 0, [], by simp, rfl, EI.nil _ _⟩
      simp
    · refine ⟨eq1 h vs'.length, ⟨0, [.int .i64 n, s]⟩ :: ⟨1, vs'⟩ :: G', ?_, 1, vs', by rw [hl2], rfl, hl2, fun i hi => ?_⟩
      · unfold kclean cleanup
        rw [hk, if_neg (fun h => hf h.2)]
      · obtain ⟨k, h1, h2⟩ := l2.at_ i hi
        exact ⟨k + 2, by rw [h1]; congr 4; omega, by simpa using h2⟩
  obtain ⟨v, M, k1, k2⟩ := hend
  refine ⟨v, M, ?_, k2⟩
  refine v_spec_l01Edges (by simp [i_spec_l01Edges]) ?_
  rw [fbody_eq]
  simp at l1
  simp (disch := first | assumption | omega | (simp [*] <;> omega) | fail) [i_spec_l01Edges, l1, hn', k1]
end Go.Proofs.Ytcpmodengmffjaa.Zv
