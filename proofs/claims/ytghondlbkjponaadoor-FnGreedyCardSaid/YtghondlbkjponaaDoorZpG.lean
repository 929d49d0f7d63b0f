/- Part G of the proof: ZwNamed2, ZwDraw6, ZwTwo, ZwDraw7, ZwDraw8, ZwDraw9, ZwDraw10, ZwDraw3, ZwDraw11, ZwTup, ZwGiven, ZwGirths1, ZwGirths2, ZwLawFill, ZwPairs, ZwLawFull, ZwGreedy1, ZwConn, ZwParts, ZwHalf, ZwReg, ZwGreedy2, ZwDraw12, ZwDraw13, ZwGirths3. Conditions: none. -/
import Derived.Test.YtghondlbkjponaaDoorZpE
import Derived.Test.YtghondlbkjponaaDoorZpF
set_option linter.unusedSimpArgs false
set_option linter.unusedVariables false
/- Graphs with names, by their names. -/
namespace Go.Proofs.YtghondlbkjponaaDoor.Zv
open Go
variable {nro : Nat}

theorem vbin_streq (a b : Array UInt8) : vbin .eql (.string ⟨a⟩) (.string ⟨b⟩) = some (.bool (decide (a = b))) := by
  have e : ((ByteArray.mk a).toList == (ByteArray.mk b).toList) = decide (a = b) := by
    rw [ByteArray.toList_eq, ByteArray.toList_eq]
    by_cases c : a = b
    · subst c; simp
    · simp [c]
  show some (Value.bool ((ByteArray.mk a).toList == (ByteArray.mk b).toList)) = _
  rw [e]
/-- A call of l01Named that answers a graph. -/
def NmOK (nro : Nat) (nm : Value) : Prop := ∀ h : VH, nro ≤ h.length → ∃ (N : Nat) (rows : List Int), GV N rows ∧ vcall F nro k_spec_l01Named [nm] h = some (.tuple #[gv N (.slice (some ⟨h.length, 0, none⟩) N N), .bool true], h ++ [⟨1, ints rows⟩])

theorem nm_jumps (h : VH) (hn : nro ≤ h.length) (N : Nat) (js : List Int) (h3 : 3 ≤ N) (h62 : N ≤ 62) (hj : ∀ x ∈ js, 1 ≤ x ∧ x < N) (hjl : js.length ≤ 100) :
    ∃ rows, GV N rows ∧ vcall F nro k_spec_l01Jumps [.int .i64 N, .slice (some ⟨h.length + 1, 0, none⟩) js.length js.length] (h ++ [⟨0, [.int .i64 0, .slice none 0 0]⟩, ⟨1, ints js⟩]) = some (gv N (.slice (some ⟨h.length + 2, 0, none⟩) N N), h ++ [⟨0, [.int .i64 0, .slice none 0 0]⟩, ⟨1, ints js⟩, ⟨1, ints rows⟩]) := by
  obtain ⟨rows, g, e⟩ := c_spec_l01Jumps (nro := nro) (h ++ [⟨0, [.int .i64 0, .slice none 0 0]⟩, ⟨1, ints js⟩]) (.slice (some ⟨h.length + 1, 0, none⟩) js.length js.length) js (sli_at (h := h ++ [⟨0, [.int .i64 0, .slice none 0 0]⟩, ⟨1, ints js⟩]) (b := h.length + 1) (xs := js) (by simp)) (by simp; omega) N h3 h62 hj hjl
  refine ⟨rows, g, ?_⟩
  simpa using e

theorem nm_heawood : NmOK nro (.string ⟨#[104, 101, 97, 119, 111, 111, 100]⟩) := by
  intro h hn
  obtain ⟨rows, g, e⟩ := nm_jumps (nro := nro) h hn 14 [5, 9] (by omega) (by omega) (by decide) (by decide)
  refine ⟨14, rows, g, ?_⟩
  have hl := g.rok.len
  simp at e
  refine v_spec_l01Named (by simp [i_spec_l01Named]) ?_
  rw [fbody_eq]
  clear g
  simp (disch := first | assumption | omega | (simp [*] <;> omega) | fail) [i_spec_l01Named, vbin_streq, e, hl, fresults, fresL, fres1, hn]
theorem nm_moebiuskantor : NmOK nro (.string ⟨#[109, 111, 101, 98, 105, 117, 115, 107, 97, 110, 116, 111, 114]⟩) := by
  intro h hn
  obtain ⟨rows, g, e⟩ := nm_jumps (nro := nro) h hn 16 [5, 11] (by omega) (by omega) (by decide) (by decide)
  refine ⟨16, rows, g, ?_⟩
  have hl := g.rok.len
  simp at e
  refine v_spec_l01Named (by simp [i_spec_l01Named]) ?_
  rw [fbody_eq]
  clear g
  simp (disch := first | assumption | omega | (simp [*] <;> omega) | fail) [i_spec_l01Named, vbin_streq, e, hl, fresults, fresL, fres1, hn]
theorem nm_pappus : NmOK nro (.string ⟨#[112, 97, 112, 112, 117, 115]⟩) := by
  intro h hn
  obtain ⟨rows, g, e⟩ := nm_jumps (nro := nro) h hn 18 [5, 7, 11, 7, 11, 13] (by omega) (by omega) (by decide) (by decide)
  refine ⟨18, rows, g, ?_⟩
  have hl := g.rok.len
  simp at e
  refine v_spec_l01Named (by simp [i_spec_l01Named]) ?_
  rw [fbody_eq]
  clear g
  simp (disch := first | assumption | omega | (simp [*] <;> omega) | fail) [i_spec_l01Named, vbin_streq, e, hl, fresults, fresL, fres1, hn]
theorem nm_desargues : NmOK nro (.string ⟨#[100, 101, 115, 97, 114, 103, 117, 101, 115]⟩) := by
  intro h hn
  obtain ⟨rows, g, e⟩ := nm_jumps (nro := nro) h hn 20 [5, 15, 9, 11] (by omega) (by omega) (by decide) (by decide)
  refine ⟨20, rows, g, ?_⟩
  have hl := g.rok.len
  simp at e
  refine v_spec_l01Named (by simp [i_spec_l01Named]) ?_
  rw [fbody_eq]
  clear g
  simp (disch := first | assumption | omega | (simp [*] <;> omega) | fail) [i_spec_l01Named, vbin_streq, e, hl, fresults, fresL, fres1, hn]
theorem nm_dodecahedron : NmOK nro (.string ⟨#[100, 111, 100, 101, 99, 97, 104, 101, 100, 114, 111, 110]⟩) := by
  intro h hn
  obtain ⟨rows, g, e⟩ := nm_jumps (nro := nro) h hn 20 [10, 7, 4, 16, 13, 10, 16, 7, 13, 4] (by omega) (by omega) (by decide) (by decide)
  refine ⟨20, rows, g, ?_⟩
  have hl := g.rok.len
  simp at e
  refine v_spec_l01Named (by simp [i_spec_l01Named]) ?_
  rw [fbody_eq]
  clear g
  simp (disch := first | assumption | omega | (simp [*] <;> omega) | fail) [i_spec_l01Named, vbin_streq, e, hl, fresults, fresL, fres1, hn]
theorem nm_mcgee : NmOK nro (.string ⟨#[109, 99, 103, 101, 101]⟩) := by
  intro h hn
  obtain ⟨rows, g, e⟩ := nm_jumps (nro := nro) h hn 24 [12, 7, 17] (by omega) (by omega) (by decide) (by decide)
  refine ⟨24, rows, g, ?_⟩
  have hl := g.rok.len
  simp at e
  refine v_spec_l01Named (by simp [i_spec_l01Named]) ?_
  rw [fbody_eq]
  clear g
  simp (disch := first | assumption | omega | (simp [*] <;> omega) | fail) [i_spec_l01Named, vbin_streq, e, hl, fresults, fresL, fres1, hn]
theorem nm_tuttecoxeter : NmOK nro (.string ⟨#[116, 117, 116, 116, 101, 99, 111, 120, 101, 116, 101, 114]⟩) := by
  intro h hn
  obtain ⟨rows, g, e⟩ := nm_jumps (nro := nro) h hn 30 [17, 21, 7, 23, 9, 13] (by omega) (by omega) (by decide) (by decide)
  refine ⟨30, rows, g, ?_⟩
  have hl := g.rok.len
  simp at e
  refine v_spec_l01Named (by simp [i_spec_l01Named]) ?_
  rw [fbody_eq]
  clear g
  simp (disch := first | assumption | omega | (simp [*] <;> omega) | fail) [i_spec_l01Named, vbin_streq, e, hl, fresults, fresL, fres1, hn]

/-- Complements of graphs without edges. -/
theorem nm_full (h L : VH) (hn : nro ≤ h.length) (N : Nat) (h1 : 1 ≤ N) (h62 : N ≤ 62) : ∃ z rows, GV N rows ∧ vcall F nro k_spec_l01Empty [.int .i64 N] (h ++ L) = some (gv N (.slice (some ⟨(h ++ L).length, 0, none⟩) N N), (h ++ L) ++ [⟨1, ints z⟩]) ∧
    vcall F nro k_spec_l01Complement [gv N (.slice (some ⟨(h ++ L).length, 0, none⟩) N N)] ((h ++ L) ++ [⟨1, ints z⟩]) = some (gv N (.slice (some ⟨(h ++ L).length + 1, 0, none⟩) N N), (h ++ L) ++ [⟨1, ints z⟩, ⟨1, ints rows⟩]) := by
  have g0 := GV.zero h1 h62
  refine ⟨List.replicate N 0, _, g0.compl, ?_, ?_⟩
  · have := c_spec_l01Empty (nro := nro) N (h ++ L) (by omega) (by omega) (by simp; omega)
    rwa [Int.toNat_natCast] at this
  · have hs := sli_at (h := (h ++ L) ++ [⟨1, ints (List.replicate N 0)⟩]) (b := (h ++ L).length) (xs := List.replicate N 0) (by simp)
    rw [List.length_replicate] at hs
    have := c_spec_l01Complement (nro := nro) ((h ++ L) ++ [⟨1, ints (List.replicate N 0)⟩]) N _ _ hs g0 (by simp; omega)
    have e : ((h ++ L) ++ [(⟨1, ints (List.replicate N 0)⟩ : VO)]).length = (h ++ L).length + 1 := by simp; omega
    rw [e] at this
    rw [this]
    simp
theorem nm_k4 : NmOK nro (.string ⟨#[107, 52]⟩) := by
  intro h hn
  have hn' := fun k => Nat.le_trans hn (Nat.le_add_right h.length k)
  obtain ⟨z, rows, g, e1, e2⟩ := nm_full (nro := nro) h [⟨0, [.int .i64 0, .slice none 0 0]⟩] hn 4 (by omega) (by omega)
  refine ⟨4, rows, g, ?_⟩
  have hl := g.rok.len
  simp [-List.reduceReplicate, Nat.add_assoc] at e1 e2
  refine v_spec_l01Named (by simp [i_spec_l01Named]) ?_
  rw [fbody_eq]
  clear g
  simp (disch := first | assumption | omega | (simp [*] <;> omega) | fail) [i_spec_l01Named, vbin_streq, e1, e2, hl, fresults, fresL, fres1, hn, hn']
theorem nm_k5 : NmOK nro (.string ⟨#[107, 53]⟩) := by
  intro h hn
  have hn' := fun k => Nat.le_trans hn (Nat.le_add_right h.length k)
  obtain ⟨z, rows, g, e1, e2⟩ := nm_full (nro := nro) h [⟨0, [.int .i64 0, .slice none 0 0]⟩] hn 5 (by omega) (by omega)
  refine ⟨5, rows, g, ?_⟩
  have hl := g.rok.len
  simp [-List.reduceReplicate, Nat.add_assoc] at e1 e2
  refine v_spec_l01Named (by simp [i_spec_l01Named]) ?_
  rw [fbody_eq]
  clear g
  simp (disch := first | assumption | omega | (simp [*] <;> omega) | fail) [i_spec_l01Named, vbin_streq, e1, e2, hl, fresults, fresL, fres1, hn, hn']
theorem nm_k33 : NmOK nro (.string ⟨#[107, 51, 51]⟩) := by
  intro h hn
  obtain ⟨z1, r1, g1, a1, a2⟩ := nm_full (nro := nro) h [⟨0, [.int .i64 0, .slice none 0 0]⟩] hn 3 (by omega) (by omega)
  obtain ⟨z2, r2, g2, b1, b2⟩ := nm_full (nro := nro) h [⟨0, [.int .i64 0, .slice none 0 0]⟩, ⟨1, ints z1⟩, ⟨1, ints r1⟩] hn 3 (by omega) (by omega)
  have l1 := g1.rok.len
  have l2 := g2.rok.len
  have s1 := sli_at (h := h ++ [⟨0, [.int .i64 0, .slice none 0 0]⟩, ⟨1, ints z1⟩, ⟨1, ints r1⟩, ⟨1, ints z2⟩, ⟨1, ints r2⟩]) (b := h.length + 2) (xs := r1) (by simp)
  have s2 := sli_at (h := h ++ [⟨0, [.int .i64 0, .slice none 0 0]⟩, ⟨1, ints z1⟩, ⟨1, ints r1⟩, ⟨1, ints z2⟩, ⟨1, ints r2⟩]) (b := h.length + 4) (xs := r2) (by simp)
  rw [l1] at s1
  rw [l2] at s2
  have c1 := c_spec_l01Beside (nro := nro) _ 3 3 _ _ _ _ s1 s2 g1 g2 (by omega) (by simp; omega)
  have g3 := g1.beside g2 (by omega)
  obtain ⟨r3, hr3⟩ : ∃ r, r = bsR r1 r2 3 3 := ⟨_, rfl⟩
  rw [← hr3] at c1 g3
  have l3 := g3.rok.len
  have s3 := sli_at (h := h ++ [⟨0, [.int .i64 0, .slice none 0 0]⟩, ⟨1, ints z1⟩, ⟨1, ints r1⟩, ⟨1, ints z2⟩, ⟨1, ints r2⟩, ⟨1, ints r3⟩]) (b := h.length + 5) (xs := r3) (by simp)
  rw [l3] at s3
  have d1 := c_spec_l01Complement (nro := nro) _ 6 _ _ s3 g3 (by simp; omega)
  have g4 := g3.compl
  obtain ⟨r4, hr4⟩ : ∃ r, r = tbl (3 + 3) (cmpG r3 (3 + 3)) := ⟨_, rfl⟩
  have hr4' : tbl 6 (cmpG r3 6) = r4 := hr4.symm
  rw [hr4'] at d1
  rw [← hr4] at g4
  refine ⟨6, r4, g4, ?_⟩
  have l4 := g4.rok.len
  simp [-List.reduceReplicate, Nat.add_assoc] at a1 a2 b1 b2 c1 d1
  refine v_spec_l01Named (by simp [i_spec_l01Named]) ?_
  rw [fbody_eq]
  clear g1 g2 g3 g4 hr3 hr4 hr4' s1 s2 s3
  simp (disch := first | assumption | omega | (simp [*] <;> omega) | fail) [i_spec_l01Named, vbin_streq, a1, a2, b1, b2, c1, d1, l4, fresults, fresL, fres1, hn]
theorem nm_cube : NmOK nro (.string ⟨#[99, 117, 98, 101]⟩) := by
  intro h hn
  have hn' := fun k => Nat.le_trans hn (Nat.le_add_right h.length k)
  have e1 := c_spec_l01Empty (nro := nro) 8 (h ++ [⟨0, [.int .i64 0, .slice none 0 0]⟩]) (by omega) (by omega) (by simp; omega)
  obtain ⟨z, hz⟩ : ∃ z : List Int, z = List.replicate 8 0 := ⟨_, rfl⟩
  have gz : GV 8 z := by rw [hz]; exact GV.zero (n := 8) (by omega) (by omega)
  rw [show Int.toNat 8 = 8 from rfl, ← hz] at e1
  obtain ⟨r1, g1, e2⟩ := l_l01Named_2 (nro := nro) h hn 8 (.inl rfl) z gz
  refine ⟨8, r1, g1, ?_⟩
  have hl := g1.rok.len
  unfold nmH at e2
  simp [-List.reduceReplicate, Nat.add_assoc] at e1 e2
  refine v_spec_l01Named (by simp [i_spec_l01Named]) ?_
  rw [fbody_eq]
  clear g1 gz hz
  simp (disch := first | assumption | omega | (simp [*] <;> omega) | fail) [i_spec_l01Named, vbin_streq, e1, e2, hl, fresults, fresL, fres1, hn, hn']
theorem nm_clebsch : NmOK nro (.string ⟨#[99, 108, 101, 98, 115, 99, 104]⟩) := by
  intro h hn
  have hn' := fun k => Nat.le_trans hn (Nat.le_add_right h.length k)
  have e1 := c_spec_l01Empty (nro := nro) 16 (h ++ [⟨0, [.int .i64 0, .slice none 0 0]⟩]) (by omega) (by omega) (by simp; omega)
  obtain ⟨z, hz⟩ : ∃ z : List Int, z = List.replicate 16 0 := ⟨_, rfl⟩
  have gz : GV 16 z := by rw [hz]; exact GV.zero (n := 16) (by omega) (by omega)
  rw [show Int.toNat 16 = 16 from rfl, ← hz] at e1
  obtain ⟨r1, g1, e2⟩ := l_l01Named_2 (nro := nro) h hn 16 (.inr rfl) z gz
  refine ⟨16, r1, g1, ?_⟩
  have hl := g1.rok.len
  unfold nmH at e2
  simp [-List.reduceReplicate, Nat.add_assoc] at e1 e2
  refine v_spec_l01Named (by simp [i_spec_l01Named]) ?_
  rw [fbody_eq]
  clear g1 gz hz
  simp (disch := first | assumption | omega | (simp [*] <;> omega) | fail) [i_spec_l01Named, vbin_streq, e1, e2, hl, fresults, fresL, fres1, hn, hn']
theorem nm_petersen : NmOK nro (.string ⟨#[112, 101, 116, 101, 114, 115, 101, 110]⟩) := by
  intro h hn
  have hn' := fun k => Nat.le_trans hn (Nat.le_add_right h.length k)
  have e1 := c_spec_l01Empty (nro := nro) 10 (h ++ [⟨0, [.int .i64 0, .slice none 0 0]⟩]) (by omega) (by omega) (by simp; omega)
  obtain ⟨z, hz⟩ : ∃ z : List Int, z = List.replicate 10 0 := ⟨_, rfl⟩
  have gz : GV 10 z := by rw [hz]; exact GV.zero (n := 10) (by omega) (by omega)
  rw [show Int.toNat 10 = 10 from rfl, ← hz] at e1
  obtain ⟨r1, g1, e2⟩ := l_l01Named_3 (nro := nro) h hn z gz
  refine ⟨10, r1, g1, ?_⟩
  have hl := g1.rok.len
  unfold nmH at e2
  simp [-List.reduceReplicate, Nat.add_assoc] at e1 e2
  refine v_spec_l01Named (by simp [i_spec_l01Named]) ?_
  rw [fbody_eq]
  clear g1 gz hz
  simp (disch := first | assumption | omega | (simp [*] <;> omega) | fail) [i_spec_l01Named, vbin_streq, e1, e2, hl, fresults, fresL, fres1, hn, hn']
theorem nm_icosahedron : NmOK nro (.string ⟨#[105, 99, 111, 115, 97, 104, 101, 100, 114, 111, 110]⟩) := by
  intro h hn
  have hn' := fun k => Nat.le_trans hn (Nat.le_add_right h.length k)
  have e1 := c_spec_l01Empty (nro := nro) 12 (h ++ [⟨0, [.int .i64 0, .slice none 0 0]⟩]) (by omega) (by omega) (by simp; omega)
  obtain ⟨z, hz⟩ : ∃ z : List Int, z = List.replicate 12 0 := ⟨_, rfl⟩
  have gz : GV 12 z := by rw [hz]; exact GV.zero (n := 12) (by omega) (by omega)
  rw [show Int.toNat 12 = 12 from rfl, ← hz] at e1
  obtain ⟨r1, g1, e2⟩ := l_l01Named_4 (nro := nro) h hn z gz
  refine ⟨12, r1, g1, ?_⟩
  have hl := g1.rok.len
  unfold nmH at e2
  simp [-List.reduceReplicate, Nat.add_assoc] at e1 e2
  refine v_spec_l01Named (by simp [i_spec_l01Named]) ?_
  rw [fbody_eq]
  clear g1 gz hz
  simp (disch := first | assumption | omega | (simp [*] <;> omega) | fail) [i_spec_l01Named, vbin_streq, e1, e2, hl, fresults, fresL, fres1, hn, hn']
theorem nm_hoffmansingleton : NmOK nro (.string ⟨#[104, 111, 102, 102, 109, 97, 110, 115, 105, 110, 103, 108, 101, 116, 111, 110]⟩) := by
  intro h hn
  have hn' := fun k => Nat.le_trans hn (Nat.le_add_right h.length k)
  have e1 := c_spec_l01Empty (nro := nro) 50 (h ++ [⟨0, [.int .i64 0, .slice none 0 0]⟩]) (by omega) (by omega) (by simp; omega)
  obtain ⟨z, hz⟩ : ∃ z : List Int, z = List.replicate 50 0 := ⟨_, rfl⟩
  have gz : GV 50 z := by rw [hz]; exact GV.zero (n := 50) (by omega) (by omega)
  rw [show Int.toNat 50 = 50 from rfl, ← hz] at e1
  obtain ⟨r1, g1, e2⟩ := l_l01Named_7 (nro := nro) h hn z gz
  refine ⟨50, r1, g1, ?_⟩
  have hl := g1.rok.len
  unfold nmH at e2
  simp [-List.reduceReplicate, Nat.add_assoc] at e1 e2
  refine v_spec_l01Named (by simp [i_spec_l01Named]) ?_
  rw [fbody_eq]
  clear g1 gz hz
  simp (disch := first | assumption | omega | (simp [*] <;> omega) | fail) [i_spec_l01Named, vbin_streq, e1, e2, hl, fresults, fresL, fres1, hn, hn']

/-- The names. -/
def nmV : List Value := [.string ⟨#[107, 52]⟩, .string ⟨#[107, 53]⟩, .string ⟨#[107, 51, 51]⟩, .string ⟨#[99, 117, 98, 101]⟩, .string ⟨#[112, 101, 116, 101, 114, 115, 101, 110]⟩, .string ⟨#[104, 101, 97, 119, 111, 111, 100]⟩, .string ⟨#[105, 99, 111, 115, 97, 104, 101, 100, 114, 111, 110]⟩, .string ⟨#[99, 108, 101, 98, 115, 99, 104]⟩, .string ⟨#[109, 111, 101, 98, 105, 117, 115, 107, 97, 110, 116, 111, 114]⟩, .string ⟨#[112, 97, 112, 112, 117, 115]⟩, .string ⟨#[100, 101, 115, 97, 114, 103, 117, 101, 115]⟩, .string ⟨#[100, 111, 100, 101, 99, 97, 104, 101, 100, 114, 111, 110]⟩, .string ⟨#[109, 99, 103, 101, 101]⟩, .string ⟨#[116, 117, 116, 116, 101, 99, 111, 120, 101, 116, 101, 114]⟩, .string ⟨#[104, 111, 102, 102, 109, 97, 110, 115, 105, 110, 103, 108, 101, 116, 111, 110]⟩]
theorem nm_all : ∀ v ∈ nmV, NmOK nro v := by
  intro v hv
  simp only [nmV, List.mem_cons, List.not_mem_nil, or_false] at hv
  rcases hv with rfl | rfl | rfl | rfl | rfl | rfl | rfl | rfl | rfl | rfl | rfl | rfl | rfl | rfl | rfl
  · exact nm_k4
  · exact nm_k5
  · exact nm_k33
  · exact nm_cube
  · exact nm_petersen
  · exact nm_heawood
  · exact nm_icosahedron
  · exact nm_clebsch
  · exact nm_moebiuskantor
  · exact nm_pappus
  · exact nm_desargues
  · exact nm_dodecahedron
  · exact nm_mcgee
  · exact nm_tuttecoxeter
  · exact nm_hoffmansingleton
end Go.Proofs.YtghondlbkjponaaDoor.Zv

/- Renumbered graphs. -/
namespace Go.Proofs.YtghondlbkjponaaDoor.Zv
open Go
variable {nro : Nat}

/-- The heap while a graph is renumbered. -/
def rnH (h : VH) (N : Nat) (s : Value) (r : List Int) : VH := (h ++ [⟨0, [.int .i64 N, s]⟩, ⟨0, [.int .i64 0, .slice none 0 0]⟩]) ++ [⟨1, ints r⟩, ⟨0, [.int .i64 N, .slice (some ⟨h.length + 2, 0, none⟩) N N]⟩]
/-- New numbers for vertices. -/
structure NewNo (N : Nat) (ps : List Int) : Prop where
  len : ps.length = N
  lo : ∀ x ∈ ps, 0 ≤ x ∧ x < N
  nd : ps.Nodup

theorem l_l01Renamed_1 (h : VH) (N : Nat) (s t : Value) (rows ps : List Int) (hs : Sli h s rows) (ht : Sli h t ps) (g : GV N rows) (hp : NewNo N ps) (hn : nro ≤ h.length) (r0 : List Int) (g0 : GV N r0) (v : Nat) (hv : v < N) :
    ∃ r1, GV N r1 ∧ floop (vcall F nro) nro [1, 2, 4, 5, 6, 7] i_spec_l01Renamed_B1 (rnH h N s r0) [t, .pointer (some ⟨h.length, 0, some 2⟩), .pointer (some ⟨h.length + 1, 0, some 2⟩), .pointer (some ⟨h.length + 3, 0, some 2⟩), .int .i64 v, .int .i64 0] (rnH h N s r0) =
      some (.exit 2, fl [(1, t), (2, .pointer (some ⟨h.length, 0, some 2⟩)), (4, .pointer (some ⟨h.length + 1, 0, some 2⟩)), (5, .pointer (some ⟨h.length + 3, 0, some 2⟩)), (6, .int .i64 v)], rnH h N s r1) := by
  have hle := g.rok.le
  have hto : ∀ k, Old (h.length + k) t := fun k => ht.oldk (k := k)
  have hso := fun k => hs.oldCk (k := k)
  refine Exists.elim (for_upR (call := vcall F nro) (nro := nro) (live := [1, 2, 4, 5, 6, 7]) (c := i_spec_l01Renamed_B1) (h0 := rnH h N s r0) (n := v) (fun w (_ : List Int) => [t, .pointer (some ⟨h.length, 0, some 2⟩), .pointer (some ⟨h.length + 1, 0, some 2⟩), .pointer (some ⟨h.length + 3, 0, some 2⟩), .int .i64 v, .int .i64 w]) (fun _ r => rnH h N s r)
    (fun _ r => GV N r) (fun r => some (.exit 2, fl [(1, t), (2, .pointer (some ⟨h.length, 0, some 2⟩)), (4, .pointer (some ⟨h.length + 1, 0, some 2⟩)), (5, .pointer (some ⟨h.length + 3, 0, some 2⟩)), (6, .int .i64 v)], rnH h N s r)) ?_ ?_ 0 r0 (Nat.zero_le _) g0) ?_
  · intro w r1 hw hw2 g1
    have hwN : w < N := by omega
    have hlp := hp.len
    have w1 : IntKind.i64.wrap ((w : Int) + 1) = (w : Int) + 1 := wrap64 (by omega) (by omega)
    have hh := has_spec (nro := nro) N v w s rows (rnH h N s r1) ((hs.app _).app _) g.rok hv hwN
    have e1 := fun L => ht.vidx' (L := L) (k := .i64) (j := (v : Int)) (by omega) (by omega)
    have e2 := fun L => ht.vidx' (L := L) (k := .i64) (j := (w : Int)) (by omega) (by omega)
    have e3 := fun L => ht.vload' (L := L) (j := v) (by omega)
    have e4 := fun L => ht.vload' (L := L) (j := w) (by omega)
    obtain ⟨a1, a2⟩ := hp.lo ps[v] (List.getElem_mem _)
    obtain ⟨b1, b2⟩ := hp.lo ps[w] (List.getElem_mem _)
    obtain ⟨a, ha⟩ : ∃ a : Nat, ps[v] = a := ⟨ps[v].toNat, by omega⟩
    obtain ⟨c, hc⟩ : ∃ a : Nat, ps[w] = a := ⟨ps[w].toNat, by omega⟩
    have hne : a ≠ c := by
      intro e
      have h1 : ps[v] = ps[w] := by rw [ha, hc, e]
      have := (List.nodup_iff_pairwise_ne.mp hp.nd)
      rw [List.pairwise_iff_getElem] at this
      exact this w v (by omega) (by omega) hw h1.symm
    rw [ha] at a1 a2
    rw [hc] at b1 b2
    simp only [ha] at e3
    simp only [hc] at e4
    have e5 := mk_put (nro := nro) (P := h ++ [⟨0, [.int .i64 N, s]⟩, ⟨0, [.int .i64 0, .slice none 0 0]⟩]) (C := [⟨0, [.int .i64 N, .slice (some ⟨h.length + 2, 0, none⟩) N N]⟩]) (by simp; omega) g1.rok.len hle a c (by omega) (by omega)
    have g2 := g1.put2 (show a < N by omega) (show c < N by omega) hne
    obtain ⟨r2, hr2⟩ : ∃ r, r = put2 r1 a c := ⟨_, rfl⟩
    rw [← hr2] at e5 g2
    have hcl := fun (r : List Int) (vs : List Value) => mk_clean (P := h ++ [⟨0, [.int .i64 N, s]⟩, ⟨0, [.int .i64 0, .slice none 0 0]⟩]) (C := [⟨0, [.int .i64 N, .slice (some ⟨h.length + 2, 0, none⟩) N N]⟩]) (r0 := r0) (r1 := r) (vs := vs)
    unfold rnH at hh ⊢
    simp only [List.append_assoc, List.cons_append, List.nil_append, List.length_append, List.length_cons, List.length_nil] at hcl hh e5 ⊢
    by_cases hb : rbit rows v w = true
    · rw [hb] at hh
      refine ⟨r2, g2, ?_⟩
      clear hr2 g1 g2 g0 g hp ha hc a1 a2 b1 b2
      rw [floop_at i_spec_l01Renamed_B1.eq_1]
      simp (disch := first | assumption | omega | (simp [*] <;> omega) | fail) [hw, hw2, hh, e1, e2, e3, e4, e5, w1, hcl, hto, hso]
    · rw [rbit_of_not hb] at hh
      refine ⟨r1, g1, ?_⟩
      clear hr2 g1 g2 g0 g hp ha hc a1 a2 b1 b2 e5
      rw [floop_at i_spec_l01Renamed_B1.eq_1]
      simp (disch := first | assumption | omega | (simp [*] <;> omega) | fail) [hw, hw2, hh, w1, hcl, hto, hso]
  · intro r1 _
    unfold rnH
    rw [floop_at i_spec_l01Renamed_B1.eq_1]
    simp (disch := first | assumption | omega | (simp [*] <;> omega) | fail) [hto, hso]
  · rintro r1 ⟨g1, hf⟩
    exact ⟨r1, g1, hf⟩

theorem l_l01Renamed_2 (h : VH) (N : Nat) (s t : Value) (rows ps : List Int) (hs : Sli h s rows) (ht : Sli h t ps) (g : GV N rows) (hp : NewNo N ps) (hn : nro ≤ h.length) (r0 : List Int) (g0 : GV N r0) :
    ∃ r1, GV N r1 ∧ floop (vcall F nro) nro [1, 2, 4, 5, 6] i_spec_l01Renamed_B2 (rnH h N s r0) [t, .pointer (some ⟨h.length, 0, some 2⟩), .pointer (some ⟨h.length + 1, 0, some 2⟩), .pointer (some ⟨h.length + 3, 0, some 2⟩), .int .i64 0] (rnH h N s r0) =
      some (.exit 0, fl [(4, .pointer (some ⟨h.length + 1, 0, some 2⟩)), (5, .pointer (some ⟨h.length + 3, 0, some 2⟩))], rnH h N s r1) := by
  have hle := g.rok.le
  have hto : ∀ k, Old (h.length + k) t := fun k => ht.oldk (k := k)
  have hso := fun k => hs.oldCk (k := k)
  refine Exists.elim (for_upR (call := vcall F nro) (nro := nro) (live := [1, 2, 4, 5, 6]) (c := i_spec_l01Renamed_B2) (h0 := rnH h N s r0) (n := N) (fun v (_ : List Int) => [t, .pointer (some ⟨h.length, 0, some 2⟩), .pointer (some ⟨h.length + 1, 0, some 2⟩), .pointer (some ⟨h.length + 3, 0, some 2⟩), .int .i64 v]) (fun _ r => rnH h N s r)
    (fun _ r => GV N r) (fun r => some (.exit 0, fl [(4, .pointer (some ⟨h.length + 1, 0, some 2⟩)), (5, .pointer (some ⟨h.length + 3, 0, some 2⟩))], rnH h N s r)) ?_ ?_ 0 r0 (Nat.zero_le _) g0) ?_
  · intro v r1 hv hv2 g1
    have w1 : IntKind.i64.wrap ((v : Int) + 1) = (v : Int) + 1 := wrap64 (by omega) (by omega)
    obtain ⟨r2, g2, lp⟩ := l_l01Renamed_1 (nro := nro) h N s t rows ps hs ht g hp hn r1 g1 v hv
    have hcl := fun (r : List Int) (vs : List Value) => mk_clean (P := h ++ [⟨0, [.int .i64 N, s]⟩, ⟨0, [.int .i64 0, .slice none 0 0]⟩]) (C := [⟨0, [.int .i64 N, .slice (some ⟨h.length + 2, 0, none⟩) N N]⟩]) (r0 := r0) (r1 := r) (vs := vs)
    unfold rnH at lp ⊢
    simp only [List.append_assoc, List.cons_append, List.nil_append, List.length_append, List.length_cons, List.length_nil] at hcl lp ⊢
    refine ⟨r2, g2, ?_⟩
    clear g1 g2 g0 g hp
    rw [floop_at i_spec_l01Renamed_B2.eq_1]
    simp (disch := first | assumption | omega | (simp [*] <;> omega) | fail) [hv, hv2, lp, w1, hcl, hto, hso]
  · intro r1 _
    unfold rnH
    rw [floop_at i_spec_l01Renamed_B2.eq_1]
    simp (disch := first | assumption | omega | (simp [*] <;> omega) | fail) [hto, hso]
  · rintro r1 ⟨g1, hf⟩
    exact ⟨r1, g1, hf⟩

/-- A renumbered graph. -/
theorem c_spec_l01Renamed (h : VH) (N : Nat) (s t : Value) (rows ps : List Int) (hs : Sli h s rows) (ht : Sli h t ps) (g : GV N rows) (hp : NewNo N ps) (hn : nro ≤ h.length) :
    ∃ rows', GV N rows' ∧ vcall F nro k_spec_l01Renamed [gv N s, t] h = some (gv N (.slice (some ⟨h.length, 0, none⟩) N N), h ++ [⟨1, ints rows'⟩]) := by
  have hn' := fun k => Nat.le_trans hn (Nat.le_add_right h.length k)
  have hle := g.rok.le
  have hlo := g.lo
  have hso := fun k => hs.oldCk (k := k)
  have he := c_spec_l01Empty (nro := nro) N (h ++ [⟨0, [.int .i64 N, s]⟩, ⟨0, [.int .i64 0, .slice none 0 0]⟩]) (by omega) (by omega) (by simp; omega)
  rw [Int.toNat_natCast] at he
  obtain ⟨r1, g1, lp⟩ := l_l01Renamed_2 (nro := nro) h N s t rows ps hs ht g hp hn (List.replicate N 0) (GV.zero (by omega) hle)
  have hl := g1.rok.len
  refine ⟨r1, g1, ?_⟩
  refine v_spec_l01Renamed (by simp [i_spec_l01Renamed]) ?_
  rw [fbody_eq]
  simp [-List.reduceReplicate] at he
  unfold rnH at lp
  simp only [List.append_assoc, List.cons_append, List.nil_append] at lp
  clear g1 g hp
  simp (disch := first | assumption | omega | (simp [*] <;> omega) | fail) [i_spec_l01Renamed, he, lp, hl, hso, fresults, fresL, fres1, hn', hn]
end Go.Proofs.YtghondlbkjponaaDoor.Zv

/- Pairs of vertices that are in range. -/
namespace Go.Proofs.YtghondlbkjponaaDoor.Zv
open Go
variable {nro : Nat}

open Classical in
/-- The code of a graph and two different vertices. -/
noncomputable def pairC (n : Int) (rows : List Int) (a b : Int) : Int := if GV n rows then if (0 ≤ a ∧ a < n) ∧ (0 ≤ b ∧ b < n) ∧ a ≠ b then 0 else 2 else 1
theorem badV2 (n a b : Int) : badV n [a, b] ↔ ¬ ((0 ≤ a ∧ a < n) ∧ (0 ≤ b ∧ b < n)) := by
  constructor
  · rintro ⟨j, h1, h2, h3⟩ ⟨h4, h5⟩
    simp at h2
    have : j = 0 ∨ j = 1 := by omega
    rcases this with rfl | rfl
    · exact h3 (by simpa using h4)
    · exact h3 (by simpa using h5)
  · intro h
    by_cases h1 : 0 ≤ a ∧ a < n
    · exact ⟨1, by omega, by simp, fun h2 => h ⟨h1, by simpa using h2⟩⟩
    · exact ⟨0, by omega, by simp, fun h2 => h1 (by simpa using h2)⟩
theorem pairC_vtx (n : Int) (rows : List Int) (a b : Int) : pairC n rows a b = if vtxCode n rows [a, b] = 0 ∧ a = b then 2 else vtxCode n rows [a, b] := by
  unfold pairC vtxCode
  by_cases g : GV n rows
  · by_cases hb : badV n [a, b]
    · have := (badV2 n a b).mp hb
      simp only [g, hb, if_true]
      rw [if_neg (fun h => this ⟨h.1, h.2.1⟩)]
      simp
    · have := Classical.not_not.mp (mt (badV2 n a b).mpr hb)
      simp only [g, hb, if_true, if_false]
      by_cases e : a = b
      · simp [e]
      · simp [e, this]
  · simp [g]

theorem c_impl_pairCode (n a b : Int) (s : Value) (rows : List Int) (h : VH) (hs : Sli h s rows) (hn : nro ≤ h.length) :
    vcall F nro k_impl_pairCode [gv n s, .int .i64 a, .int .i64 b] h = some (.int .i64 (pairC n rows a b), h) := by
  refine v_impl_pairCode (by simp [i_impl_pairCode]) ?_
  rw [fbody_eq, pairC_vtx]
  have hc := c_impl_graphCode (nro := nro) n s (.slice (some ⟨h.length + 1, 0, none⟩) 2 2) rows [a, b] (h ++ [⟨0, [.int .i64 n, s]⟩, ⟨1, ints [a, b]⟩]) (hs.app _) (sli_at (xs := [a, b]) (by simp)) (by simp)
  simp only [ints_cons, ints_nil] at hc
  by_cases hz : vtxCode n rows [a, b] = 0
  · by_cases e : a = b
    · subst e
      simp (disch := first | assumption | omega | (simp [*] <;> omega) | fail) [i_impl_pairCode, hc, hz, hn]
    · simp (disch := first | assumption | omega | (simp [*] <;> omega) | fail) [i_impl_pairCode, hc, hz, e, hn]
  · simp (disch := first | assumption | omega | (simp [*] <;> omega) | fail) [i_impl_pairCode, hc, hz, hn]

end Go.Proofs.YtghondlbkjponaaDoor.Zv

/- Orders that are drawn. -/
namespace Go.Proofs.YtghondlbkjponaaDoor.Zv
open Go
variable {nro : Nat}

theorem clean_mid_upd {h h' L : VH} {A B : List Value} {k off n t : Nat} {o : VO} (hu : Upd h h') (hA : ∀ v ∈ A, Old h.length v) (hB : ∀ v ∈ B, Old h.length v) (hk : L[k]? = some o) (hf : flatO h.length o) :
    kclean h (A ++ .slice (some ⟨h.length + k, off, none⟩) n t :: B) (h' ++ L) = (A ++ .slice (some ⟨h.length, off, none⟩) n t :: B, h' ++ [o]) := by
  have fil : ∀ (C : List Value), (∀ v ∈ C, Old h.length v) → (C.flatMap trefs).filter (fun i => decide (h.length ≤ i)) = [] := fun C hC => by
    rw [List.filter_eq_nil_iff]
    intro r hr
    have := (old_all h.length C).mpr hC r hr
    simp; omega
  have e : keepL h.length (A ++ .slice (some ⟨h.length + k, off, none⟩) n t :: B) = [h.length + k] := by
    unfold keepL
    rw [List.flatMap_append, List.filter_append, fil A hA, List.nil_append, List.flatMap_cons, List.filter_append, fil B hB]
    simp [trefs, vrefs, crefs, arefs, dedup]
  have hl : h'.length = h.length := hu.1
  have hg : (h' ++ L)[h.length + k]? = some o := by rw [← hl, hgetk]; exact hk
  have htake : (h' ++ L).take h.length = h' := by rw [← hl]; simp
  have hc : okT h.length h ((h' ++ L).take h.length) ∧ flatL h.length [h.length + k] (h' ++ L) := by
    refine ⟨by rw [htake]; exact hu.2, fun i hi => ⟨o, ?_, hf⟩⟩
    simp only [List.mem_singleton] at hi
    rw [hi]; exact hg
  unfold kclean cleanup
  rw [e, if_pos hc, htake]
  have keep : ∀ (C : List Value), (∀ v ∈ C, Old h.length v) → C.map (tren (renOf h.length [h.length + k])) = C := fun C hC => by
    have : ∀ v ∈ C, tren (renOf h.length [h.length + k]) v = v := fun v hv => tren_old (hC v hv) fun i hi => by simp only [renOf, if_pos hi]
    exact (List.map_congr_left this).trans (by simp)
  rw [List.map_append, List.map_cons, keep A hA, keep B hB]
  simp [hg, tren, vren, cren, aren, renOf_one]

/-- A number put into an order. -/
theorem ord_put {i : Nat} {ys : List Int} (h : NewNo i ys) {m : Nat} : NewNo (i + 1) (ys.take m ++ (i : Int) :: ys.drop m) := by
  have hp : List.Perm (ys.take m ++ (i : Int) :: ys.drop m) ((i : Int) :: ys) := by
    have := List.perm_middle (a := (i : Int)) (l₁ := ys.take m) (l₂ := ys.drop m)
    rwa [List.take_append_drop] at this
  refine ⟨by rw [hp.length_eq, List.length_cons, h.len], fun x hx => ?_, ?_⟩
  · rcases List.mem_cons.mp (hp.mem_iff.mp hx) with rfl | hx
    · omega
    · have := h.lo x hx; omega
  · rw [hp.nodup_iff, List.nodup_cons]
    exact ⟨fun e => by have := h.lo _ e; omega, h.nd⟩

section
variable {H : VH} {b : Nat} {cd : Value} {xs : List Int} {s : SS} (S : Srce nro H b cd xs s)
include S
/-- One number more. -/
theorem l_l01DrawOrder_step (h0 : VH) (n i ob : Nat) (hin : i < n) (hn62 : n ≤ 62) (ys : List Int) (hy : NewNo i ys) (L X : VH) (s1 : SS) (o1 : SOK xs s1) (hu : ∀ s2, Upd h0 (H.set b (srcO cd s2) ++ L)) (hob : ∀ s2, (H.set b (srcO cd s2) ++ L ++ X)[ob]? = some ⟨1, ints ys⟩) (hLl : H.length + L.length = h0.length) :
    ∃ s2 ys', SOK xs s2 ∧ NewNo (i + 1) ys' ∧ floop (vcall F nro) nro [0, 1, 5, 6] i_spec_l01DrawOrder_B1 h0 [.pointer (some ⟨b, 0, some 3⟩), .int .i64 n, .slice (some ⟨ob, 0, none⟩) i i, .int .i64 i] (H.set b (srcO cd s1) ++ L ++ X) =
      floop (vcall F nro) nro [0, 1, 5, 6] i_spec_l01DrawOrder_B1 h0 [.pointer (some ⟨b, 0, some 3⟩), .int .i64 n, .slice (some ⟨h0.length, 0, none⟩) (i + 1) (i + 1), .int .i64 ((i : Int) + 1)] (H.set b (srcO cd s2) ++ L ++ [⟨1, ints ys'⟩]) := by
  have hlt := S.lt
  have hnb := S.nr
  have e1 := S.nextA (nro := nro) o1 (L ++ X) ((i : Int) + 1) (by omega)
  rw [← List.append_assoc, ← List.append_assoc] at e1
  obtain ⟨a1, a2, _⟩ := srcN_ok S.code s1 ((i : Int) + 1)
  have a3 := a2 (by omega)
  have o2 := srcS_ok o1 ((i : Int) + 1)
  obtain ⟨m, hm⟩ : ∃ m : Nat, srcN xs s1 ((i : Int) + 1) = m := ⟨(srcN xs s1 ((i : Int) + 1)).toNat, by omega⟩
  obtain ⟨s2, hs2⟩ : ∃ q, q = srcS xs s1 ((i : Int) + 1) := ⟨_, rfl⟩
  rw [hm] at e1 a3
  rw [← hs2] at e1 o2
  have hmi : m ≤ i := by omega
  have hyl := hy.len
  obtain ⟨G1, hG1⟩ : ∃ G, G = H.set b (srcO cd s1) ++ L ++ X := ⟨_, rfl⟩
  obtain ⟨G, hG⟩ : ∃ G, G = H.set b (srcO cd s2) ++ L ++ X := ⟨_, rfl⟩
  have hgo := hob s2
  rw [← hG] at hgo e1
  rw [← hG1] at e1
  have hGn : nro ≤ G.length := by rw [hG]; simp; omega
  have hGn' := fun k => Nat.le_trans hGn (Nat.le_add_right G.length k)
  have hgo' := fun K => hget_old hgo K
  have hS : Sli G (.slice (some ⟨ob, 0, none⟩) m i) (ys.take m) := by
    have : (ints ys).take m = ints (ys.take m) := by simp [ints]
    simp [Sli, Sl, hgo, hyl, hmi, this]
  have e2 := c_spec_l01Own (nro := nro) _ (ys.take m) G hS (by simp; omega) hGn
  have htl : (ys.take m).length = m := by simp; omega
  rw [htl] at e2
  have w1 : IntKind.i64.wrap ((i : Int) + 1) = (i : Int) + 1 := wrap64 (by omega) (by omega)
  obtain ⟨T, hT⟩ : ∃ T, T = ys.take m := ⟨_, rfl⟩
  obtain ⟨D, hD⟩ : ∃ D, D = ys.drop m := ⟨_, rfl⟩
  have f1 : ∀ (K : VH), K[ob]? = some ⟨1, ints ys⟩ → vslice 1 K (.slice (some ⟨ob, 0, none⟩) i i) none (some (.int .i64 m)) = some (.slice (some ⟨ob, 0, none⟩) m i) := fun K hK => by simp [vslice, hK, hyl]; omega
  have f2 : ∀ (K : VH), K[ob]? = some ⟨1, ints ys⟩ → vslice 1 K (.slice (some ⟨ob, 0, none⟩) i i) (some (.int .i64 m)) none = some (.slice (some ⟨ob, m, none⟩) (i - m) i) := fun K hK => by simp [vslice, hK, hyl]; omega
  have f3 : ∀ (K : VH), K[ob]? = some ⟨1, ints ys⟩ → vsrc 1 K (.slice (some ⟨ob, m, none⟩) (i - m) i) = some (ints D, i - m) := fun K hK => by
    have e : ((ints ys).drop m).take (i - m) = ints D := by
      rw [hD, List.take_of_length_le (by simp; omega)]
      simp [ints]
    simp [vsrc, hK, hyl, e]; omega
  have hfin : ints T ++ [.int .i64 (i : Int)] ++ ints D = ints (T ++ (i : Int) :: D) := by simp [ints]
  rw [← hT] at e2 htl
  have hDl : D.length = i - m := by rw [hD]; simp; omega
  have hTD := ord_put hy (m := m)
  rw [← hT, ← hD] at hTD
  refine ⟨s2, T ++ (i : Int) :: D, o2, hTD, ?_⟩
  have hcl : ∀ L2, kclean h0 [.pointer (some ⟨b, 0, some 3⟩), .int .i64 n, .slice (some ⟨G.length, 0, none⟩) (i + 1) (i + 1), .int .i64 ((i : Int) + 1)] (G ++ ⟨1, ints (T ++ (i : Int) :: D)⟩ :: L2) = ([.pointer (some ⟨b, 0, some 3⟩), .int .i64 n, .slice (some ⟨h0.length, 0, none⟩) (i + 1) (i + 1), .int .i64 ((i : Int) + 1)], H.set b (srcO cd s2) ++ L ++ [⟨1, ints (T ++ (i : Int) :: D)⟩]) := fun L2 => by
    have := clean_mid_upd (hu s2) (A := [.pointer (some ⟨b, 0, some 3⟩), .int .i64 n]) (B := [.int .i64 ((i : Int) + 1)]) (L := X ++ ⟨1, ints (T ++ (i : Int) :: D)⟩ :: L2) (k := X.length) (off := 0) (n := i + 1) (t := i + 1) (o := ⟨1, ints (T ++ (i : Int) :: D)⟩)
      (by intro v hv; simp at hv; rcases hv with rfl | rfl <;> simp; omega) (by simp) (by rw [hget0]; rfl) (flatO_ints _ _ _)
    rw [hG]
    have hl : (H.set b (srcO cd s2) ++ L ++ X).length = h0.length + X.length := by simp; omega
    rw [hl]
    simpa using this
  have hin2 : (i : Int) < n := by omega
  rw [← hG1]
  have c1 : ((m + 1) * 8 ≤ 1099511627776) = True := by simp; omega
  have c2 : (m < 1099511627776) = True := by simp; omega
  have c3 : (i = ys.length) = True := by simp [hyl]
  have c4 : (m ≤ i) = True := by simp [hmi]
  have c6 : m + 1 + (i - m) = i + 1 := by omega
  have c7 : ((i + 1) * 8 ≤ 1099511627776) = True := by simp; omega
  have c8 : (i < 1099511627776) = True := by simp; omega
  clear hTD hS hG hG1 hs2 hT hD hy hob hu S a1 a2 a3 hm o1 o2 hn62 hmi hnb hlt hLl hyl
  rw [floop_at i_spec_l01DrawOrder_B1.eq_1]
  simp (disch := first | assumption | omega | (simp [*] <;> omega) | fail) [-getElem?_pos, List.getElem?_cons_zero, List.getElem?_cons_succ, hin, hin2, e1, e2, w1, f1, f2, f3, hgo, hgo', hGn, hGn', htl, hfin, hcl, c1, c2, c3, c4, c6, c7, c8, hDl]
  intro x hx hj
  obtain ⟨z, _, rfl⟩ := List.mem_map.mp hx
  cases hj

theorem l_l01DrawOrder (n : Nat) (hn62 : n ≤ 62) : ∀ (k i : Nat), n = i + k → 1 ≤ i → ∀ (ys : List Int) (s1 : SS), NewNo i ys → SOK xs s1 → ∃ s2 ys', SOK xs s2 ∧ NewNo n ys' ∧
    floop (vcall F nro) nro [0, 1, 5, 6] i_spec_l01DrawOrder_B1 (H ++ [⟨1, []⟩]) [.pointer (some ⟨b, 0, some 3⟩), .int .i64 n, .slice (some ⟨H.length + 1, 0, none⟩) i i, .int .i64 i] (H.set b (srcO cd s1) ++ [⟨1, []⟩] ++ [⟨1, ints ys⟩]) =
      some (.exit 0, fl [(5, .slice (some ⟨H.length + 1, 0, none⟩) n n)], H.set b (srcO cd s2) ++ [⟨1, []⟩] ++ [⟨1, ints ys'⟩]) := by
  have hself : H.set b (srcO cd s) = H := hset_self S.at'
  have ho : Old H.length cd := by
    have := (S.sl (srcO cd s)).old
    rwa [hself] at this
  have hlt := S.lt
  have hu : ∀ s2, Upd (H ++ [⟨1, []⟩]) (H.set b (srcO cd s2) ++ [⟨1, []⟩]) := fun s2 => by
    have := (Upd.rfl' (H ++ [⟨1, []⟩])).set' (b := b) (o := srcO cd s2) (flatO_src (ho.le (by simp)) _)
    rwa [List.set_append_left _ _ hlt] at this
  intro k
  induction k with
  | zero =>
    intro i hi h1 ys s1 hy o1
    have : i = n := by omega
    subst this
    refine ⟨s1, ys, o1, hy, ?_⟩
    rw [floop_at i_spec_l01DrawOrder_B1.eq_1]
    simp (disch := first | assumption | omega | (simp [*] <;> omega) | fail) [-getElem?_pos, List.getElem?_cons_zero, List.getElem?_cons_succ, ]
  | succ k ih =>
    intro i hi h1 ys s1 hy o1
    obtain ⟨s2, ys', o2, hy', e⟩ := l_l01DrawOrder_step (nro := nro) S (H ++ [⟨1, []⟩]) n i (H.length + 1) (by omega) hn62 ys hy [⟨1, []⟩] [⟨1, ints ys⟩] s1 o1 hu (fun s2 => by rw [List.append_assoc, hgetS]; rfl) (by simp)
    obtain ⟨s3, ys'', o3, hy'', e2⟩ := ih (i + 1) (by omega) (by omega) ys' s2 hy' o2
    refine ⟨s3, ys'', o3, hy'', ?_⟩
    rw [e]
    rw [show (H ++ [(⟨1, []⟩ : VO)]).length = H.length + 1 by simp]
    rw [show ((i + 1 : Nat) : Int) = (i : Int) + 1 by omega] at e2
    exact e2

/-- A drawn order. -/
theorem c_spec_l01DrawOrder (n : Nat) (h1 : 1 ≤ n) (hn62 : n ≤ 62) : ∃ s' ys, SOK xs s' ∧ NewNo n ys ∧
    vcall F nro k_spec_l01DrawOrder [.pointer (some ⟨b, 0, some 3⟩), .int .i64 n] H = some (.slice (some ⟨H.length, 0, none⟩) n n, H.set b (srcO cd s') ++ [⟨1, ints ys⟩]) := by
  have hself : H.set b (srcO cd s) = H := hset_self S.at'
  have ho : Old H.length cd := by
    have := (S.sl (srcO cd s)).old
    rwa [hself] at this
  have hlt := S.lt
  have hnb := S.nr
  have hn : nro ≤ H.length := by omega
  have hn' := fun k => Nat.le_trans hn (Nat.le_add_right H.length k)
  have hu : ∀ s2, Upd (H ++ [⟨1, []⟩]) (H.set b (srcO cd s2) ++ [⟨1, []⟩]) := fun s2 => by
    have := (Upd.rfl' (H ++ [⟨1, []⟩])).set' (b := b) (o := srcO cd s2) (flatO_src (ho.le (by simp)) _)
    rwa [List.set_append_left _ _ hlt] at this
  obtain ⟨s2, ys', o2, hy', e⟩ := l_l01DrawOrder_step (nro := nro) S (H ++ [⟨1, []⟩]) n 0 H.length (by omega) hn62 [] ⟨rfl, by simp, by simp⟩ [⟨1, []⟩] [] s S.ok hu (fun s2 => by rw [List.append_nil, hgetS0]; rfl) (by simp)
  obtain ⟨s3, ys, o3, hy, e2⟩ := l_l01DrawOrder (nro := nro) S n hn62 (n - 1) 1 (by omega) (Nat.le_refl _) ys' s2 hy' o2
  rw [hself, List.append_nil] at e
  rw [show (H ++ [(⟨1, []⟩ : VO)]).length = H.length + 1 by simp] at e
  simp only [Nat.zero_add, Int.natCast_zero, Int.zero_add, Int.natCast_one] at e e2
  rw [e2] at e
  refine ⟨s3, ys, o3, hy, ?_⟩
  have hcl : kclean H [.slice (some ⟨H.length + 1, 0, none⟩) n n] (H.set b (srcO cd s3) ++ [⟨1, []⟩] ++ [⟨1, ints ys⟩]) = ([.slice (some ⟨H.length, 0, none⟩) n n], H.set b (srcO cd s3) ++ [⟨1, ints ys⟩]) := by
    rw [List.append_assoc, cleanup_one_upd (k := 1) (o := ⟨1, ints ys⟩) ((Upd.rfl' H).set' (b := b) (flatO_src ho s3)) (by simp [trefs, vrefs, crefs, arefs]) rfl (flatO_ints _ _ _)]
    simp [tren, vren, cren, aren, renOf_one]
  clear e2 hy hy' hu S
  refine v_spec_l01DrawOrder (by simp [i_spec_l01DrawOrder]) ?_
  rw [fbody_eq]
  simp only [List.append_assoc, List.cons_append, List.nil_append] at e hcl
  simp (disch := first | assumption | omega | (simp [*] <;> omega) | fail) [-getElem?_pos, List.getElem?_cons_zero, List.getElem?_cons_succ, i_spec_l01DrawOrder, e, hcl, hn, hn']
end
end Go.Proofs.YtghondlbkjponaaDoor.Zv

/- Draws of regular graphs. -/
namespace Go.Proofs.YtghondlbkjponaaDoor.Zv
open Go
variable {nro : Nat}

theorem c_spec_l01Names (h : VH) (hn : nro ≤ h.length) : vcall F nro k_spec_l01Names [] h = some (.slice (some ⟨h.length, 0, none⟩) 15 15, h ++ [⟨1, nmV⟩]) := by
  refine v_spec_l01Names (by simp [i_spec_l01Names]) ?_
  rw [fbody_eq]
  simp (disch := first | assumption | omega | (simp [*] <;> omega) | fail) [i_spec_l01Names, nmV, hn]

section
variable {H : VH} {b : Nat} {cd : Value} {xs : List Int} {s : SS} (S : Srce nro H b cd xs s)
include S
theorem Srce.nextE {s' : SS} (h : SOK xs s') (L : VH) (n : Int) (h1 : n ≤ 9223372036854775807) : ∃ x s2, SOK xs s2 ∧ 0 ≤ x ∧ (1 ≤ n → x < n) ∧ (n < 1 → x = 0) ∧
    vcall F nro k_spec_l01Next [.pointer (some ⟨b, 0, some 3⟩), .int .i64 n] (H.set b (srcO cd s') ++ L) = some (.int .i64 x, H.set b (srcO cd s2) ++ L) := by
  obtain ⟨a1, a2, a3⟩ := srcN_ok S.code s' n
  exact ⟨_, _, srcS_ok h n, a1, a2, a3, S.nextA h L n h1⟩
theorem Srce.pickE {s' : SS} (h : SOK xs s') (L : VH) (k m : Nat) (ys : List Int) (hk : L[k]? = some ⟨1, ints ys⟩) (hm : ys.length = m) (h0 : 1 ≤ m) (h1 : m ≤ 100) : ∃ x s2, SOK xs s2 ∧ x ∈ ys ∧
    vcall F nro k_spec_l01Pick [.pointer (some ⟨b, 0, some 3⟩), .slice (some ⟨H.length + k, 0, none⟩) m m] (H.set b (srcO cd s') ++ L) = some (.int .i64 x, H.set b (srcO cd s2) ++ L) := by
  obtain ⟨a1, a2, _⟩ := srcN_ok S.code s' m
  refine ⟨_, _, srcS_ok h m, ?_, S.pickA h L k m ys hk hm h0 h1⟩
  have := a2 (by omega)
  rw [List.getD_eq_getElem?_getD, List.getElem?_eq_getElem (by omega)]
  exact List.getElem_mem _
theorem Srce.setL (L : VH) (s' s2 : SS) : (H.set b (srcO cd s') ++ L).set b (srcO cd s2) = H.set b (srcO cd s2) ++ L := by
  rw [List.set_append_left _ _ (by simpa using S.lt), List.set_set]
theorem Srce.drawOfE {s' : SS} (h : SOK xs s') (L : VH) (N : Nat) (h1 : 1 ≤ N) (h62 : N ≤ 62) : ∃ rows s2, SOK xs s2 ∧ GV N rows ∧
    vcall F nro k_spec_l01DrawOf [.pointer (some ⟨b, 0, some 3⟩), .int .i64 N] (H.set b (srcO cd s') ++ L) = some (gv N (.slice (some ⟨H.length + L.length, 0, none⟩) N N), H.set b (srcO cd s2) ++ (L ++ [⟨1, ints rows⟩])) := by
  obtain ⟨rows, s2, o2, g, e⟩ := c_spec_l01DrawOf (nro := nro) (S.set h L) N h1 h62
  refine ⟨rows, s2, o2, g, ?_⟩
  rw [e, S.setL, List.append_assoc]
  simp
theorem Srce.orderE {s' : SS} (h : SOK xs s') (L : VH) (N : Nat) (h1 : 1 ≤ N) (h62 : N ≤ 62) : ∃ ys s2, SOK xs s2 ∧ NewNo N ys ∧
    vcall F nro k_spec_l01DrawOrder [.pointer (some ⟨b, 0, some 3⟩), .int .i64 N] (H.set b (srcO cd s') ++ L) = some (.slice (some ⟨H.length + L.length, 0, none⟩) N N, H.set b (srcO cd s2) ++ (L ++ [⟨1, ints ys⟩])) := by
  obtain ⟨s2, ys, o2, g, e⟩ := c_spec_l01DrawOrder (nro := nro) (S.set h L) N h1 h62
  refine ⟨ys, s2, o2, g, ?_⟩
  rw [e, S.setL, List.append_assoc]
  simp
theorem Srce.cleanG {s' : SS} (L : VH) (k N : Nat) (w : Int) (rows : List Int) (hk : L[k]? = some ⟨1, ints rows⟩) : kclean H [.agg #[.int .i64 w, .slice (some ⟨H.length + k, 0, none⟩) N N]] (H.set b (srcO cd s') ++ L) = ([.agg #[.int .i64 w, .slice (some ⟨H.length, 0, none⟩) N N]], H.set b (srcO cd s') ++ [⟨1, ints rows⟩]) := by
  have hself : H.set b (srcO cd s) = H := hset_self S.at'
  have ho : Old H.length cd := by
    have := (S.sl (srcO cd s)).old
    rwa [hself] at this
  rw [cleanup_one_upd (k := k) (o := ⟨1, ints rows⟩) ((Upd.rfl' H).set' (b := b) (flatO_src ho s')) (by simp [trefs, vrefs, crefs, arefs]) hk (flatO_ints _ _ _)]
  simp [tren, vren, cren, aren, renOf_one]
theorem Srce.namedE {s' : SS} (L : VH) (v : Value) (hv : v ∈ nmV) : ∃ (N : Nat) (rows : List Int), GV N rows ∧ vcall F nro k_spec_l01Named [v] (H.set b (srcO cd s') ++ L) = some (.tuple #[gv N (.slice (some ⟨H.length + L.length, 0, none⟩) N N), .bool true], H.set b (srcO cd s') ++ (L ++ [⟨1, ints rows⟩])) := by
  have hlt := S.lt
  have hnb := S.nr
  obtain ⟨N, rows, g, e⟩ := nm_all (nro := nro) v hv (H.set b (srcO cd s') ++ L) (by simp; omega)
  refine ⟨N, rows, g, ?_⟩
  rw [e, List.append_assoc]
  simp
theorem Srce.jumpsE {s' : SS} (L : VH) (t : Value) (js : List Int) (ht : Sli (H.set b (srcO cd s') ++ L) t js) (N : Nat) (h3 : 3 ≤ N) (h62 : N ≤ 62) (hj : ∀ x ∈ js, 1 ≤ x ∧ x < N) (hjl : js.length ≤ 100) :
    ∃ rows, GV N rows ∧ vcall F nro k_spec_l01Jumps [.int .i64 N, t] (H.set b (srcO cd s') ++ L) = some (gv N (.slice (some ⟨H.length + L.length, 0, none⟩) N N), H.set b (srcO cd s') ++ (L ++ [⟨1, ints rows⟩])) := by
  have hlt := S.lt
  have hnb := S.nr
  obtain ⟨rows, g, e⟩ := c_spec_l01Jumps (nro := nro) (H.set b (srcO cd s') ++ L) t js ht (by simp; omega) N h3 h62 hj hjl
  refine ⟨rows, g, ?_⟩
  rw [e, List.append_assoc]
  simp
theorem Srce.renamedE {s' : SS} (L : VH) (k j N : Nat) (rows ps : List Int) (hk : L[k]? = some ⟨1, ints rows⟩) (hj : L[j]? = some ⟨1, ints ps⟩) (g : GV N rows) (hp : NewNo N ps) :
    ∃ rows', GV N rows' ∧ vcall F nro k_spec_l01Renamed [gv N (.slice (some ⟨H.length + k, 0, none⟩) N N), .slice (some ⟨H.length + j, 0, none⟩) N N] (H.set b (srcO cd s') ++ L) = some (gv N (.slice (some ⟨H.length + L.length, 0, none⟩) N N), H.set b (srcO cd s') ++ (L ++ [⟨1, ints rows'⟩])) := by
  have hlt := S.lt
  have hnb := S.nr
  have l1 := g.rok.len
  have l2 := hp.1
  have s1 := sli_at (h := H.set b (srcO cd s') ++ L) (b := H.length + k) (xs := rows) (by rw [hgetS]; exact hk)
  have s2 := sli_at (h := H.set b (srcO cd s') ++ L) (b := H.length + j) (xs := ps) (by rw [hgetS]; exact hj)
  rw [l1] at s1
  rw [l2] at s2
  obtain ⟨rows', g', e⟩ := c_spec_l01Renamed (nro := nro) (H.set b (srcO cd s') ++ L) N _ _ rows ps s1 s2 g hp (by simp; omega)
  refine ⟨rows', g', ?_⟩
  rw [e, List.append_assoc]
  simp
end
end Go.Proofs.YtghondlbkjponaaDoor.Zv

/- Draws of regular graphs, of graphs, of what may be none. -/
namespace Go.Proofs.YtghondlbkjponaaDoor.Zv
open Go
variable {nro : Nat}
section
variable {H : VH} {b : Nat} {cd : Value} {xs : List Int} {s : SS} (S : Srce nro H b cd xs s)
include S

set_option maxHeartbeats 4000000 in
theorem c_spec_l01DrawRegular : ∃ (N : Nat) (rows : List Int) (s' : SS), SOK xs s' ∧ GV N rows ∧
    vcall F nro k_spec_l01DrawRegular [.pointer (some ⟨b, 0, some 3⟩)] H = some (gv N (.slice (some ⟨H.length, 0, none⟩) N N), H.set b (srcO cd s') ++ [⟨1, ints rows⟩]) := by
  have hlt := S.lt
  have hnb := S.nr
  have hn : nro ≤ H.length := by omega
  have hn' := fun k => Nat.le_trans hn (Nat.le_add_right H.length k)
  have hself : H.set b (srcO cd s) = H := hset_self S.at'
  have e0 := c_spec_l01Names (nro := nro) (H ++ [⟨0, [.int .i64 0, .slice none 0 0]⟩]) (by simp; omega)
  obtain ⟨x1, s1, o1, m1, e1⟩ := S.pickE S.ok [⟨0, [.int .i64 0, .slice none 0 0]⟩, ⟨1, nmV⟩, ⟨1, ints [6, 13, 15]⟩] 2 3 [6, 13, 15] rfl rfl (by omega) (by omega)
  rw [hself] at e1
  have hx1 : 1 ≤ x1 ∧ x1 ≤ 15 := by
    simp only [List.mem_cons, List.not_mem_nil, or_false] at m1
    omega
  obtain ⟨x2, s2, o2, a2, b2, _, e2⟩ := S.nextE o1 [⟨0, [.int .i64 0, .slice none 0 0]⟩, ⟨1, nmV⟩, ⟨1, ints [6, 13, 15]⟩] x1 (by omega)
  have c2 := b2 hx1.1
  have c3 : x2 < 15 := by omega
  have hln : nmV.length = 15 := rfl
  obtain ⟨nm, hnm⟩ : ∃ v, v = nmV[x2.toNat]'(by omega) := ⟨_, rfl⟩
  have i2 : List.take 1 (List.drop x2.toNat nmV) = [nm] := by
    have hq : x2.toNat < nmV.length := by omega
    rw [List.drop_eq_getElem_cons hq, hnm]
    rfl
  have hmem : nm ∈ nmV := by rw [hnm]; exact List.getElem_mem _
  obtain ⟨N1, r1, g1, e3⟩ := S.namedE (s' := s2) [⟨0, [.int .i64 0, .slice none 0 0]⟩, ⟨1, nmV⟩, ⟨1, ints [6, 13, 15]⟩] nm hmem
  have l1 := g1.rok.len
  have k1 := g1.rok.le
  have k2 := g1.lo
  obtain ⟨nv, hnv⟩ : ∃ v, v = nmV := ⟨_, rfl⟩
  rw [← hnv] at e0 e1 e2 e3 i2 hln
  obtain ⟨x4, s4, o4, a4, b4, _, e4⟩ := S.nextE o2 [⟨0, [.int .i64 0, .slice none 0 0]⟩, ⟨1, nv⟩, ⟨1, ints [6, 13, 15]⟩, ⟨1, ints r1⟩, ⟨0, [.int .i64 N1, .slice (some ⟨H.length + 3, 0, none⟩) N1 N1]⟩] 3 (by omega)
  simp [-List.reduceReplicate] at e0 e1 e2 e3 e4
  clear hmem hnm m1 hx1 c2 b2 b4 a4 hnv
  by_cases z : x4 = 0
  · obtain ⟨x5, s5, o5, a5, b5, _, e5⟩ := S.nextE o4 [⟨0, [.int .i64 0, .slice none 0 0]⟩, ⟨1, nv⟩, ⟨1, ints [6, 13, 15]⟩, ⟨1, ints r1⟩, ⟨0, [.int .i64 N1, .slice (some ⟨H.length + 3, 0, none⟩) N1 N1]⟩] 14 (by omega)
    have c5 := b5 (by omega)
    have w5 : IntKind.i64.wrap (3 + x5) = 3 + x5 := wrap64 (by omega) (by omega)
    obtain ⟨N2, hN2⟩ : ∃ N2 : Nat, 3 + x5 = N2 := ⟨(3 + x5).toNat, by omega⟩
    obtain ⟨r2, g2, e6⟩ := S.jumpsE (s' := s5) [⟨0, [.int .i64 0, .slice none 0 0]⟩, ⟨1, nv⟩, ⟨1, ints [6, 13, 15]⟩, ⟨1, ints r1⟩, ⟨0, [.int .i64 N1, .slice (some ⟨H.length + 3, 0, none⟩) N1 N1]⟩] (.slice none 0 0) [] (by simp [Sli, Sl]) N2 (by omega) (by omega) (by simp) (by simp)
    have l2 := g2.rok.len
    obtain ⟨x7, s7, o7, a7, b7, _, e7⟩ := S.nextE o5 [⟨0, [.int .i64 0, .slice none 0 0]⟩, ⟨1, nv⟩, ⟨1, ints [6, 13, 15]⟩, ⟨1, ints r1⟩, ⟨0, [.int .i64 N2, .slice (some ⟨H.length + 5, 0, none⟩) N2 N2]⟩, ⟨1, ints r2⟩] 2 (by omega)
    have q2 : 3 ≤ N2 ∧ N2 ≤ 62 := by omega
    simp [-List.reduceReplicate] at e5 e6 e7
    rw [hN2] at w5
    clear b5 c5 a5 b7 a7
    by_cases z2 : x7 = 0
    · obtain ⟨x8, s8, o8, a8, b8, _, e8⟩ := S.nextE o7 [⟨0, [.int .i64 0, .slice none 0 0]⟩, ⟨1, nv⟩, ⟨1, ints [6, 13, 15]⟩, ⟨1, ints r1⟩, ⟨0, [.int .i64 N2, .slice (some ⟨H.length + 5, 0, none⟩) N2 N2]⟩, ⟨1, ints r2⟩] ((N2 : Int) - 1) (by omega)
      have c8 := b8 (by omega)
      have w8 : IntKind.i64.wrap ((N2 : Int) - 1) = (N2 : Int) - 1 := wrap64 (by omega) (by omega)
      have w9 : IntKind.i64.wrap (1 + x8) = 1 + x8 := wrap64 (by omega) (by omega)
      obtain ⟨y, hy⟩ : ∃ y, 1 + x8 = y := ⟨_, rfl⟩
      obtain ⟨r3, g3, e9⟩ := S.jumpsE (s' := s8) [⟨0, [.int .i64 0, .slice none 0 0]⟩, ⟨1, nv⟩, ⟨1, ints [6, 13, 15]⟩, ⟨1, ints r1⟩, ⟨0, [.int .i64 N2, .slice (some ⟨H.length + 5, 0, none⟩) N2 N2]⟩, ⟨1, ints r2⟩, ⟨1, ints [y]⟩] (.slice (some ⟨H.length + 6, 0, none⟩) 1 1) [y] (by simp [Sli, Sl, hgetS]) N2 q2.1 q2.2 (by intro q hq; simp at hq; omega) (by simp)
      have l3 := g3.rok.len
      obtain ⟨x10, s10, o10, a10, b10, _, e10⟩ := S.nextE o8 [⟨0, [.int .i64 0, .slice none 0 0]⟩, ⟨1, nv⟩, ⟨1, ints [6, 13, 15]⟩, ⟨1, ints r1⟩, ⟨0, [.int .i64 N2, .slice (some ⟨H.length + 7, 0, none⟩) N2 N2]⟩, ⟨1, ints r2⟩, ⟨1, ints [y]⟩, ⟨1, ints r3⟩] 2 (by omega)
      simp [-List.reduceReplicate] at e8 e9 e10
      rw [hy] at w9
      clear b8 c8 a8 b10 a10
      by_cases z3 : x10 = 0
      · obtain ⟨ps, s11, o11, hp, e11⟩ := S.orderE o10 [⟨0, [.int .i64 0, .slice none 0 0]⟩, ⟨1, nv⟩, ⟨1, ints [6, 13, 15]⟩, ⟨1, ints r1⟩, ⟨0, [.int .i64 N2, .slice (some ⟨H.length + 7, 0, none⟩) N2 N2]⟩, ⟨1, ints r2⟩, ⟨1, ints [y]⟩, ⟨1, ints r3⟩] N2 (by omega) q2.2
        obtain ⟨r4, g4, e12⟩ := S.renamedE (s' := s11) [⟨0, [.int .i64 0, .slice none 0 0]⟩, ⟨1, nv⟩, ⟨1, ints [6, 13, 15]⟩, ⟨1, ints r1⟩, ⟨0, [.int .i64 N2, .slice (some ⟨H.length + 7, 0, none⟩) N2 N2]⟩, ⟨1, ints r2⟩, ⟨1, ints [y]⟩, ⟨1, ints r3⟩, ⟨1, ints ps⟩] 7 8 N2 r3 ps rfl rfl g3 hp
        refine ⟨N2, r4, s11, o11, g4, ?_⟩
        have hc := S.cleanG (s' := s11) [⟨0, [.int .i64 N2, .slice (some ⟨H.length + 9, 0, none⟩) N2 N2]⟩, ⟨1, nv⟩, ⟨1, ints [6, 13, 15]⟩, ⟨1, ints r1⟩, ⟨0, [.int .i64 N2, .slice (some ⟨H.length + 7, 0, none⟩) N2 N2]⟩, ⟨1, ints r2⟩, ⟨1, ints [y]⟩, ⟨1, ints r3⟩, ⟨1, ints ps⟩, ⟨1, ints r4⟩] 9 N2 N2 r4 rfl
        simp at e11 e12 hc
        clear S o1 o2 o4 o5 o7 o8 o10 o11 hp g1 g2 g3 g4 q2 l1 l2 l3 k1 k2 hself
        refine v_spec_l01DrawRegular (by simp [i_spec_l01DrawRegular]) ?_
        rw [fbody_eq]
        simp (disch := first | assumption | omega | (simp [*] <;> omega) | fail) [-getElem?_pos, List.getElem?_cons_zero, List.getElem?_cons_succ, i_spec_l01DrawRegular, e0, e1, e2, hln, a2, c3, i2, e3, e4, z, e5, w5, hN2, e6, e7, z2, e8, w8, w9, hy, e9, e10, z3, e11, e12, hc, hn, hn', fresults, fresL, fres1, hgetS, hsetS, hgetS0, hsetS0]
      · refine ⟨N2, r3, s10, o10, g3, ?_⟩
        have hc := S.cleanG (s' := s10) [⟨0, [.int .i64 N2, .slice (some ⟨H.length + 7, 0, none⟩) N2 N2]⟩, ⟨1, nv⟩, ⟨1, ints [6, 13, 15]⟩, ⟨1, ints r1⟩, ⟨0, [.int .i64 N2, .slice (some ⟨H.length + 7, 0, none⟩) N2 N2]⟩, ⟨1, ints r2⟩, ⟨1, ints [y]⟩, ⟨1, ints r3⟩] 7 N2 N2 r3 rfl
        simp at hc
        clear S o1 o2 o4 o5 o7 o8 o10 g1 g2 g3 q2 l1 l2 l3 k1 k2 hself
        refine v_spec_l01DrawRegular (by simp [i_spec_l01DrawRegular]) ?_
        rw [fbody_eq]
        simp (disch := first | assumption | omega | (simp [*] <;> omega) | fail) [-getElem?_pos, List.getElem?_cons_zero, List.getElem?_cons_succ, i_spec_l01DrawRegular, e0, e1, e2, hln, a2, c3, i2, e3, e4, z, e5, w5, hN2, e6, e7, z2, e8, w8, w9, hy, e9, e10, z3, hc, hn, hn', fresults, fresL, fres1, hgetS, hsetS, hgetS0, hsetS0]
    · obtain ⟨x10, s10, o10, a10, b10, _, e10⟩ := S.nextE o7 [⟨0, [.int .i64 0, .slice none 0 0]⟩, ⟨1, nv⟩, ⟨1, ints [6, 13, 15]⟩, ⟨1, ints r1⟩, ⟨0, [.int .i64 N2, .slice (some ⟨H.length + 5, 0, none⟩) N2 N2]⟩, ⟨1, ints r2⟩] 2 (by omega)
      simp [-List.reduceReplicate] at e10
      clear b10 a10
      by_cases z3 : x10 = 0
      · obtain ⟨ps, s11, o11, hp, e11⟩ := S.orderE o10 [⟨0, [.int .i64 0, .slice none 0 0]⟩, ⟨1, nv⟩, ⟨1, ints [6, 13, 15]⟩, ⟨1, ints r1⟩, ⟨0, [.int .i64 N2, .slice (some ⟨H.length + 5, 0, none⟩) N2 N2]⟩, ⟨1, ints r2⟩] N2 (by omega) q2.2
        obtain ⟨r4, g4, e12⟩ := S.renamedE (s' := s11) [⟨0, [.int .i64 0, .slice none 0 0]⟩, ⟨1, nv⟩, ⟨1, ints [6, 13, 15]⟩, ⟨1, ints r1⟩, ⟨0, [.int .i64 N2, .slice (some ⟨H.length + 5, 0, none⟩) N2 N2]⟩, ⟨1, ints r2⟩, ⟨1, ints ps⟩] 5 6 N2 r2 ps rfl rfl g2 hp
        refine ⟨N2, r4, s11, o11, g4, ?_⟩
        have hc := S.cleanG (s' := s11) [⟨0, [.int .i64 N2, .slice (some ⟨H.length + 7, 0, none⟩) N2 N2]⟩, ⟨1, nv⟩, ⟨1, ints [6, 13, 15]⟩, ⟨1, ints r1⟩, ⟨0, [.int .i64 N2, .slice (some ⟨H.length + 5, 0, none⟩) N2 N2]⟩, ⟨1, ints r2⟩, ⟨1, ints ps⟩, ⟨1, ints r4⟩] 7 N2 N2 r4 rfl
        simp at e11 e12 hc
        clear S o1 o2 o4 o5 o7 o10 o11 hp g1 g2 g4 q2 l1 l2 k1 k2 hself
        refine v_spec_l01DrawRegular (by simp [i_spec_l01DrawRegular]) ?_
        rw [fbody_eq]
        simp (disch := first | assumption | omega | (simp [*] <;> omega) | fail) [-getElem?_pos, List.getElem?_cons_zero, List.getElem?_cons_succ, i_spec_l01DrawRegular, e0, e1, e2, hln, a2, c3, i2, e3, e4, z, e5, w5, hN2, e6, e7, z2, e10, z3, e11, e12, hc, hn, hn', fresults, fresL, fres1, hgetS, hsetS, hgetS0, hsetS0]
      · refine ⟨N2, r2, s10, o10, g2, ?_⟩
        have hc := S.cleanG (s' := s10) [⟨0, [.int .i64 N2, .slice (some ⟨H.length + 5, 0, none⟩) N2 N2]⟩, ⟨1, nv⟩, ⟨1, ints [6, 13, 15]⟩, ⟨1, ints r1⟩, ⟨0, [.int .i64 N2, .slice (some ⟨H.length + 5, 0, none⟩) N2 N2]⟩, ⟨1, ints r2⟩] 5 N2 N2 r2 rfl
        simp at hc
        clear S o1 o2 o4 o5 o7 o10 g1 g2 q2 l1 l2 k1 k2 hself
        refine v_spec_l01DrawRegular (by simp [i_spec_l01DrawRegular]) ?_
        rw [fbody_eq]
        simp (disch := first | assumption | omega | (simp [*] <;> omega) | fail) [-getElem?_pos, List.getElem?_cons_zero, List.getElem?_cons_succ, i_spec_l01DrawRegular, e0, e1, e2, hln, a2, c3, i2, e3, e4, z, e5, w5, hN2, e6, e7, z2, e10, z3, hc, hn, hn', fresults, fresL, fres1, hgetS, hsetS, hgetS0, hsetS0]
  · obtain ⟨x10, s10, o10, a10, b10, _, e10⟩ := S.nextE o4 [⟨0, [.int .i64 0, .slice none 0 0]⟩, ⟨1, nv⟩, ⟨1, ints [6, 13, 15]⟩, ⟨1, ints r1⟩, ⟨0, [.int .i64 N1, .slice (some ⟨H.length + 3, 0, none⟩) N1 N1]⟩] 2 (by omega)
    simp [-List.reduceReplicate] at e10
    clear b10 a10
    by_cases z3 : x10 = 0
    · obtain ⟨ps, s11, o11, hp, e11⟩ := S.orderE o10 [⟨0, [.int .i64 0, .slice none 0 0]⟩, ⟨1, nv⟩, ⟨1, ints [6, 13, 15]⟩, ⟨1, ints r1⟩, ⟨0, [.int .i64 N1, .slice (some ⟨H.length + 3, 0, none⟩) N1 N1]⟩] N1 (by omega) k1
      obtain ⟨r4, g4, e12⟩ := S.renamedE (s' := s11) [⟨0, [.int .i64 0, .slice none 0 0]⟩, ⟨1, nv⟩, ⟨1, ints [6, 13, 15]⟩, ⟨1, ints r1⟩, ⟨0, [.int .i64 N1, .slice (some ⟨H.length + 3, 0, none⟩) N1 N1]⟩, ⟨1, ints ps⟩] 3 5 N1 r1 ps rfl rfl g1 hp
      refine ⟨N1, r4, s11, o11, g4, ?_⟩
      have hc := S.cleanG (s' := s11) [⟨0, [.int .i64 N1, .slice (some ⟨H.length + 6, 0, none⟩) N1 N1]⟩, ⟨1, nv⟩, ⟨1, ints [6, 13, 15]⟩, ⟨1, ints r1⟩, ⟨0, [.int .i64 N1, .slice (some ⟨H.length + 3, 0, none⟩) N1 N1]⟩, ⟨1, ints ps⟩, ⟨1, ints r4⟩] 6 N1 N1 r4 rfl
      simp at e11 e12 hc
      clear S o1 o2 o4 o10 o11 hp g1 g4 l1 k1 k2 hself
      refine v_spec_l01DrawRegular (by simp [i_spec_l01DrawRegular]) ?_
      rw [fbody_eq]
      simp (disch := first | assumption | omega | (simp [*] <;> omega) | fail) [-getElem?_pos, List.getElem?_cons_zero, List.getElem?_cons_succ, i_spec_l01DrawRegular, e0, e1, e2, hln, a2, c3, i2, e3, e4, z, e10, z3, e11, e12, hc, hn, hn', fresults, fresL, fres1, hgetS, hsetS, hgetS0, hsetS0]
    · refine ⟨N1, r1, s10, o10, g1, ?_⟩
      have hc := S.cleanG (s' := s10) [⟨0, [.int .i64 N1, .slice (some ⟨H.length + 3, 0, none⟩) N1 N1]⟩, ⟨1, nv⟩, ⟨1, ints [6, 13, 15]⟩, ⟨1, ints r1⟩, ⟨0, [.int .i64 N1, .slice (some ⟨H.length + 3, 0, none⟩) N1 N1]⟩] 3 N1 N1 r1 rfl
      simp at hc
      clear S o1 o2 o4 o10 g1 l1 k1 k2 hself
      refine v_spec_l01DrawRegular (by simp [i_spec_l01DrawRegular]) ?_
      rw [fbody_eq]
      simp (disch := first | assumption | omega | (simp [*] <;> omega) | fail) [-getElem?_pos, List.getElem?_cons_zero, List.getElem?_cons_succ, i_spec_l01DrawRegular, e0, e1, e2, hln, a2, c3, i2, e3, e4, z, e10, z3, hc, hn, hn', fresults, fresL, fres1, hgetS, hsetS, hgetS0, hsetS0]
end
end Go.Proofs.YtghondlbkjponaaDoor.Zv

/- Draws of graphs, and of what may be none. -/
namespace Go.Proofs.YtghondlbkjponaaDoor.Zv
open Go
variable {nro : Nat}
section
variable {H : VH} {b : Nat} {cd : Value} {xs : List Int} {s : SS} (S : Srce nro H b cd xs s)
include S
/-- A graph that is drawn. -/
theorem c_spec_l01Draw : ∃ (N : Nat) (rows : List Int) (s' : SS), SOK xs s' ∧ GV N rows ∧
    vcall F nro k_spec_l01Draw [.pointer (some ⟨b, 0, some 3⟩)] H = some (gv N (.slice (some ⟨H.length, 0, none⟩) N N), H.set b (srcO cd s') ++ [⟨1, ints rows⟩]) := by
  have hlt := S.lt
  have hnb := S.nr
  have hn : nro ≤ H.length := by omega
  have hn' := fun k => Nat.le_trans hn (Nat.le_add_right H.length k)
  have hself : H.set b (srcO cd s) = H := hset_self S.at'
  obtain ⟨x1, s1, o1, a1, b1, _, e1⟩ := S.nextE S.ok [⟨0, [.int .i64 0, .slice none 0 0]⟩] 4 (by omega)
  rw [hself] at e1
  by_cases c1 : x1 = 0
  · obtain ⟨N, rows, s2, o2, g, e2⟩ := c_spec_l01DrawRegular (S.set o1 [⟨0, [.int .i64 0, .slice none 0 0]⟩])
    rw [S.setL] at e2
    refine ⟨N, rows, s2, o2, g, ?_⟩
    have hl := g.rok.len
    have hc := S.cleanG (s' := s2) [⟨0, [.int .i64 N, .slice (some ⟨H.length + 1, 0, none⟩) N N]⟩, ⟨1, ints rows⟩] 1 N N rows rfl
    simp at e1 e2 hc
    clear S o1 o2 g hl hself b1
    refine v_spec_l01Draw (by simp [i_spec_l01Draw]) ?_
    rw [fbody_eq]
    simp (disch := first | assumption | omega | (simp [*] <;> omega) | fail) [-getElem?_pos, List.getElem?_cons_zero, List.getElem?_cons_succ, i_spec_l01Draw, e1, c1, e2, hc, hn, hn', fresults, fresL, fres1, hgetS, hsetS, hgetS0, hsetS0]
  · by_cases c2 : x1 = 1
    · obtain ⟨x2, s2, o2, m2, e2⟩ := S.pickE o1 [⟨0, [.int .i64 0, .slice none 0 0]⟩, ⟨1, ints [1, 10, 20, 40, 61, 62]⟩] 1 6 [1, 10, 20, 40, 61, 62] rfl rfl (by omega) (by omega)
      have hx2 : 1 ≤ x2 ∧ x2 ≤ 62 := by
        simp only [List.mem_cons, List.not_mem_nil, or_false] at m2
        omega
      obtain ⟨N, rfl⟩ : ∃ N : Nat, x2 = N := ⟨x2.toNat, by omega⟩
      obtain ⟨rows, s3, o3, g, e3⟩ := S.drawOfE o2 [⟨0, [.int .i64 0, .slice none 0 0]⟩, ⟨1, ints [1, 10, 20, 40, 61, 62]⟩] N (by omega) (by omega)
      refine ⟨N, rows, s3, o3, g, ?_⟩
      have hc := S.cleanG (s' := s3) [⟨0, [.int .i64 N, .slice (some ⟨H.length + 2, 0, none⟩) N N]⟩, ⟨1, ints [1, 10, 20, 40, 61, 62]⟩, ⟨1, ints rows⟩] 2 N N rows rfl
      simp at e1 e2 e3 hc
      clear S o1 o2 o3 g hself b1 m2 hx2
      refine v_spec_l01Draw (by simp [i_spec_l01Draw]) ?_
      rw [fbody_eq]
      simp (disch := first | assumption | omega | (simp [*] <;> omega) | fail) [-getElem?_pos, List.getElem?_cons_zero, List.getElem?_cons_succ, i_spec_l01Draw, e1, c2, e2, e3, hc, hn, hn', fresults, fresL, fres1, hgetS, hsetS, hgetS0, hsetS0]
    · obtain ⟨x2, s2, o2, a2, b2, _, e2⟩ := S.nextE o1 [⟨0, [.int .i64 0, .slice none 0 0]⟩] 14 (by omega)
      have hx2 := b2 (by omega)
      obtain ⟨N, hN⟩ : ∃ N : Nat, 1 + x2 = N := ⟨(1 + x2).toNat, by omega⟩
      have w1 : IntKind.i64.wrap (1 + x2) = 1 + x2 := wrap64 (by omega) (by omega)
      rw [hN] at w1
      obtain ⟨rows, s3, o3, g, e3⟩ := S.drawOfE o2 [⟨0, [.int .i64 0, .slice none 0 0]⟩] N (by omega) (by omega)
      refine ⟨N, rows, s3, o3, g, ?_⟩
      have hc := S.cleanG (s' := s3) [⟨0, [.int .i64 N, .slice (some ⟨H.length + 1, 0, none⟩) N N]⟩, ⟨1, ints rows⟩] 1 N N rows rfl
      simp at e1 e2 e3 hc
      clear S o1 o2 o3 g hself b1 b2 hx2
      refine v_spec_l01Draw (by simp [i_spec_l01Draw]) ?_
      rw [fbody_eq]
      simp (disch := first | assumption | omega | (simp [*] <;> omega) | fail) [-getElem?_pos, List.getElem?_cons_zero, List.getElem?_cons_succ, i_spec_l01Draw, e1, c1, c2, e2, hN, w1, e3, hc, hn, hn', fresults, fresL, fres1, hgetS, hsetS, hgetS0, hsetS0]

set_option maxHeartbeats 4000000 in
/-- What may be no graph: the graph itself, or something fresh. -/
theorem c_spec_l01Bad (N : Nat) (sv : Value) (rows : List Int) (g : GV N rows) (hs : ∀ o, Sli (H.set b o) sv rows) (hc0 : ∀ r ∈ arefs sv, r ≠ b) : ∃ (n' : Int) (v : Value) (rows' : List Int) (s' : SS) (M : VH), SOK xs s' ∧
    vcall F nro k_spec_l01Bad [.pointer (some ⟨b, 0, some 3⟩), gv N sv] H = some (gv n' v, H.set b (srcO cd s') ++ M) ∧ rows'.length ≤ 63 ∧ -9223372036854775808 ≤ n' ∧ n' ≤ 9223372036854775807 ∧
    ((M = [] ∧ n' = N ∧ v = sv ∧ rows' = rows) ∨ (M = [⟨1, ints rows'⟩] ∧ v = .slice (some ⟨H.length, 0, none⟩) rows'.length rows'.length)) := by
  have hlt := S.lt
  have hnb := S.nr
  have hn : nro ≤ H.length := by omega
  have hn' := fun k => Nat.le_trans hn (Nat.le_add_right H.length k)
  have hself : H.set b (srcO cd s) = H := hset_self S.at'
  have hs0 := hs (srcO cd s)
  rw [hself] at hs0
  have hl := g.rok.len
  have hle := g.rok.le
  have hlo := g.lo
  have ho : Old H.length sv := hs0.old
  have hsh : ∃ a n t, sv = .slice (some a) n t := by
    have hne : ints rows ≠ [] := fun e => by
      have := congrArg List.length e
      rw [ints_length, hl] at this
      simp at this
      omega
    rcases Sl.inv hs0 with ⟨_, h⟩ | ⟨_, h⟩ | ⟨a, n, t, o, h, _⟩
    · exact absurd h hne
    · exact absurd h hne
    · exact ⟨a, n, t, h⟩
  have e0 := c_spec_l01Own (nro := nro) sv rows (H ++ [⟨0, [.int .i64 N, sv]⟩, ⟨0, [.int .i64 0, .slice none 0 0]⟩]) (hs0.app _) (by omega) (by simp; omega)
  obtain ⟨x1, s1, o1, a1, b1, _, e1⟩ := S.nextE S.ok [⟨0, [.int .i64 N, sv]⟩, ⟨0, [.int .i64 0, .slice none 0 0]⟩, ⟨1, ints rows⟩] 50 (by omega)
  rw [hself] at e1
  rw [hl] at e0
  have hso := fun k => hs0.oldCk (k := k)
  by_cases c1 : x1 = 0
  · obtain ⟨y, hy⟩ : ∃ y, y = (N : Int) + 1 := ⟨_, rfl⟩
    have wN : IntKind.i64.wrap ((N : Int) + 1) = y := by rw [hy]; exact wrap64 (by omega) (by omega)
    obtain ⟨x2, s2, o2, m2, e2⟩ := S.pickE o1 [⟨0, [.int .i64 N, sv]⟩, ⟨0, [.int .i64 0, .slice none 0 0]⟩, ⟨1, ints rows⟩, ⟨1, ints [0, 63, -1, y]⟩] 3 4 [0, 63, -1, y] rfl rfl (by omega) (by omega)
    have hx2 : -1 ≤ x2 ∧ x2 ≤ 63 := by
      simp only [List.mem_cons, List.not_mem_nil, or_false] at m2
      omega
    refine ⟨x2, .slice (some ⟨H.length, 0, none⟩) rows.length rows.length, rows, s2, [⟨1, ints rows⟩], o2, ?_, by omega, by omega, by omega, .inr ⟨rfl, rfl⟩⟩
    rw [hl]
    have hc := S.cleanG (s' := s2) [⟨0, [.int .i64 N, sv]⟩, ⟨0, [.int .i64 x2, .slice (some ⟨H.length + 2, 0, none⟩) N N]⟩, ⟨1, ints rows⟩, ⟨1, ints [0, 63, -1, y]⟩] 2 N x2 rows rfl
    simp at e0 e1 e2 hc
    clear S o1 o2 g hself b1 m2 hx2 hs hs0 hl hy
    refine v_spec_l01Bad (by simp [i_spec_l01Bad]) ?_
    rw [fbody_eq]
    simp (disch := first | assumption | omega | (simp [*] <;> omega) | fail) [-getElem?_pos, List.getElem?_cons_zero, List.getElem?_cons_succ, i_spec_l01Bad, e0, e1, c1, wN, e2, hc, hn, hn', hso, fresults, fresL, fres1, hgetS, hsetS, hgetS0, hsetS0]
  · by_cases c2 : x1 = 1
    · obtain ⟨x2, s2, o2, a2, b2, _, e2⟩ := S.nextE o1 [⟨0, [.int .i64 N, sv]⟩, ⟨0, [.int .i64 0, .slice none 0 0]⟩, ⟨1, ints rows⟩] N (by omega)
      have k2 := b2 (by omega)
      have wN : IntKind.u64.wrap (N : Int) = N := wrapu64 (by omega) (by omega)
      obtain ⟨y, hy⟩ : ∃ y, ishl .i64 1 (N : Int) = y := ⟨_, rfl⟩
      obtain ⟨x3, s3, o3, m3, e3⟩ := S.pickE o2 [⟨0, [.int .i64 N, sv]⟩, ⟨0, [.int .i64 0, .slice none 0 0]⟩, ⟨1, ints rows⟩, ⟨1, ints [-1, 1, 2, 4611686018427387904, y]⟩] 3 5 [-1, 1, 2, 4611686018427387904, y] rfl rfl (by omega) (by omega)
      refine ⟨N, .slice (some ⟨H.length, 0, none⟩) (rows.set x2.toNat x3).length (rows.set x2.toNat x3).length, rows.set x2.toNat x3, s3, [⟨1, ints (rows.set x2.toNat x3)⟩], o3, ?_, by simp; omega, by omega, by omega, .inr ⟨rfl, rfl⟩⟩
      have hl2 : (rows.set x2.toNat x3).length = N := by simp [hl]
      rw [hl2]
      have hx2 : x2.toNat < rows.length := by omega
      have hsp := splice_ints (xs := rows) (j := x2.toNat) (v := x3) hx2
      have hc := S.cleanG (s' := s3) [⟨0, [.int .i64 N, sv]⟩, ⟨0, [.int .i64 N, .slice (some ⟨H.length + 2, 0, none⟩) N N]⟩, ⟨1, ints (rows.set x2.toNat x3)⟩, ⟨1, ints [-1, 1, 2, 4611686018427387904, y]⟩] 2 N N (rows.set x2.toNat x3) rfl
      simp at e0 e1 e2 e3 hc
      clear S o1 o2 o3 g hself b1 b2 m3 hs hs0 hl2 c1
      refine v_spec_l01Bad (by simp [i_spec_l01Bad]) ?_
      rw [fbody_eq]
      simp (disch := first | assumption | omega | (simp [*] <;> omega) | fail) [-getElem?_pos, List.getElem?_cons_zero, List.getElem?_cons_succ, i_spec_l01Bad, e0, e1, c2, wN, hy, e2, e3, hl, a2, k2, hsp, hc, hn, hn', hso, fresults, fresL, fres1, hgetS, hsetS, hgetS0, hsetS0]
    · by_cases c3 : x1 = 2
      · refine ⟨N, .slice (some ⟨H.length, 0, none⟩) (rows ++ [0]).length (rows ++ [0]).length, rows ++ [0], s1, [⟨1, ints (rows ++ [0])⟩], o1, ?_, by simp; omega, by omega, by omega, .inr ⟨rfl, rfl⟩⟩
        have hl2 : (rows ++ [0]).length = N + 1 := by simp [hl]
        rw [hl2]
        have hc := S.cleanG (s' := s1) [⟨0, [.int .i64 N, sv]⟩, ⟨0, [.int .i64 N, .slice (some ⟨H.length + 2, 0, none⟩) (N + 1) (N + 1)]⟩, ⟨1, ints (rows ++ [0])⟩, ⟨1, [.int .i64 0]⟩] 2 (N + 1) N (rows ++ [0]) rfl
        have k9 : N ≤ 1099511627775 := by omega
        have hia : ints rows ++ [.int .i64 0] = ints (rows ++ [0]) := by simp [ints]
        rw [← hia] at hc ⊢
        simp at e0 e1 hc
        clear S o1 g hself b1 hs hs0 hl2 hia c1 c2
        refine v_spec_l01Bad (by simp [i_spec_l01Bad]) ?_
        rw [fbody_eq]
        simp (disch := first | assumption | omega | (simp [*] <;> omega) | fail) [-getElem?_pos, List.getElem?_cons_zero, List.getElem?_cons_succ, i_spec_l01Bad, e0, e1, c3, hl, k9, hc, hn, hn', hso, fresults, fresL, fres1, hgetS, hsetS, hgetS0, hsetS0]
      · refine ⟨N, sv, rows, s1, [], o1, ?_, by omega, by omega, by omega, .inl ⟨rfl, rfl, rfl, rfl⟩⟩
        have hc := fun (L : VH) => S.clean (s' := s1) L (vs := [.agg #[.int .i64 N, sv]]) (by
          intro v hv
          simp only [List.mem_singleton] at hv
          subst hv
          intro r hr
          obtain ⟨a, n, t, rfl⟩ := hsh
          exact ho r (by simpa [trefs, vrefs, crefs, arefs] using hr))
        simp at e0 e1
        clear S o1 g hself b1 hs hs0 hl
        refine v_spec_l01Bad (by simp [i_spec_l01Bad]) ?_
        rw [fbody_eq]
        obtain ⟨a, n, t, rfl⟩ := hsh
        simp (disch := first | assumption | omega | (simp [*] <;> omega) | fail) [-getElem?_pos, List.getElem?_cons_zero, List.getElem?_cons_succ, i_spec_l01Bad, e0, e1, c1, c2, c3, hc, hn, hn', hso, fresults, fresL, fres1, hgetS, hsetS, hgetS0, hsetS0]
/-- A graph drawn, and perhaps made none. -/
theorem Srce.badE {s' : SS} (h : SOK xs s') (L : VH) (k N : Nat) (rows : List Int) (hk : L[k]? = some ⟨1, ints rows⟩) (g : GV N rows) : ∃ (n' : Int) (m : Nat) (rows' : List Int) (s2 : SS) (M : VH), SOK xs s2 ∧
    vcall F nro k_spec_l01Bad [.pointer (some ⟨b, 0, some 3⟩), gv N (.slice (some ⟨H.length + k, 0, none⟩) N N)] (H.set b (srcO cd s') ++ L) = some (gv n' (.slice (some ⟨H.length + m, 0, none⟩) rows'.length rows'.length), H.set b (srcO cd s2) ++ (L ++ M)) ∧
    rows'.length ≤ 63 ∧ -9223372036854775808 ≤ n' ∧ n' ≤ 9223372036854775807 ∧ (L ++ M)[m]? = some ⟨1, ints rows'⟩ := by
  have hlt := S.lt
  have hl := g.rok.len
  obtain ⟨n', v, rows', s2, M, o2, e, h1, h2, h3, h4⟩ := c_spec_l01Bad (nro := nro) (S.set h L) N (.slice (some ⟨H.length + k, 0, none⟩) N N) rows g (fun o => by
    have hk2 : ((H.set b (srcO cd s') ++ L).set b o)[H.length + k]? = some ⟨1, ints rows⟩ := by
      rw [List.set_append_left _ _ (by simpa using hlt), List.getElem?_append_right (by simp)]
      simpa using hk
    have := sli_at hk2
    rwa [hl] at this) (by
    intro r hr
    simp [arefs] at hr
    omega)
  rw [S.setL, List.append_assoc] at e
  rcases h4 with ⟨rfl, rfl, rfl, rfl⟩ | ⟨rfl, rfl⟩
  · exact ⟨N, k, rows', s2, [], o2, by rw [hl]; exact e, h1, h2, h3, by rw [List.append_nil]; exact hk⟩
  · refine ⟨n', L.length, rows', s2, [⟨1, ints rows'⟩], o2, ?_, h1, h2, h3, by simp⟩
    rw [e]
    simp
end
end Go.Proofs.YtghondlbkjponaaDoor.Zv

/- Draws of FirstRegular and LeastVertices. -/
namespace Go.Proofs.YtghondlbkjponaaDoor.Zv
open Go
variable {nro : Nat}
@[simp] theorem old_tup3i (n : Nat) (k1 k2 k3 : IntKind) (a b c : Int) : Old n (.tuple #[.int k1 a, .int k2 b, .int k3 c]) := fun r hr => by simp [trefs, vrefs, crefs, arefs] at hr
section
variable {h : VH} {cd : Value} {xs : List Int} (hs : Sl h cd (bys xs)) (hx : Code' xs) (hn : nro ≤ h.length)
include hs hx hn
theorem srce_new {s : SS} (ho : SOK xs s) : Srce nro (h ++ [srcO cd s]) h.length cd xs s :=
  ⟨by simp, hn, hx, ho, fun o => by
    have : (h ++ [srcO cd s]).set h.length o = h ++ [o] := by simp
    rw [this]; exact hs.app _⟩

end
end Go.Proofs.YtghondlbkjponaaDoor.Zv

/- Draws of the second chapter. -/
namespace Go.Proofs.YtghondlbkjponaaDoor.Zv
open Go
open Classical
variable {nro : Nat}
theorem hsetK (h L : VH) (k : Nat) (o : VO) : (h ++ L).set (h.length + k) o = h ++ L.set k o := by
  rw [List.set_append_right _ _ (by omega)]
  congr 2
  omega
theorem cleanT3 (h L : VH) (k N : Nat) (w a b : Int) (rows : List Int) (hk : L[k]? = some ⟨1, ints rows⟩) : kclean h [.tuple #[.agg #[.int .i64 w, .slice (some ⟨h.length + k, 0, none⟩) N N], .int .i64 a, .int .i64 b]] (h ++ L) = ([.tuple #[.agg #[.int .i64 w, .slice (some ⟨h.length, 0, none⟩) N N], .int .i64 a, .int .i64 b]], h ++ [⟨1, ints rows⟩]) := by
  rw [cleanup_one_upd (k := k) (o := ⟨1, ints rows⟩) (Upd.rfl' h) (by simp [trefs, vrefs, crefs, arefs]) hk (flatO_ints _ _ _)]
  simp [tren, vren, cren, aren, renOf_one]
section
variable {h : VH} {cd : Value} {xs : List Int} (hs : Sl h cd (bys xs)) (hx : Code' xs) (hn : nro ≤ h.length)
include hs hx hn

end
end Go.Proofs.YtghondlbkjponaaDoor.Zv

/- Counting tuples: closed walks are counted by where they begin. -/
namespace Go.Proofs.YtghondlbkjponaaDoor.Zv
open Go
open Classical

/-- All lists of k numbers below n. -/
def tup (n : Nat) : Nat → List (List Nat)
  | 0 => [[]]
  | k + 1 => (List.range n).flatMap fun v => (tup n k).map (v :: ·)
/-! ### closed walks -/
section
variable {r : Nat → Nat → Prop} (hs : ∀ x y, r x y → r y x) (n L : Nat) (h3 : 3 ≤ L)
include hs h3
end
end Go.Proofs.YtghondlbkjponaaDoor.Zv

/- The code of a graph that has to fit k and c. -/
namespace Go.Proofs.YtghondlbkjponaaDoor.Zv
open Go
variable {nro : Nat}

theorem edges_len' (rows : List Int) (n v : Nat) (hn : n ≤ 62) : (edgesF rows n v).length ≤ (n - v) * 62 := by
  by_cases h : v < n
  · rw [edgesF_step h, List.length_append]
    have h1 := edges_len' rows n (v + 1) hn
    have h2 := edgF_len rows v n (v + 1) h
    have e : n - v = (n - (v + 1)) + 1 := by omega
    rw [e, Nat.add_mul]
    omega
  · rw [edgesF_end h]; simp
 termination_by n - v

open Classical in
theorem c_spec_l07Fits (n : Nat) (k c : Int) (s : Value) (rows : List Int) (h : VH) (hs : Sli h s rows) (g : GV n rows) (hn : nro ≤ h.length) :
    vcall F nro k_spec_l07Fits [gv n s, .int .i64 k, .int .i64 c] h = some (.bool (decide (FitsP rows n k c)), h) := by
  refine v_spec_l07Fits (by simp [i_spec_l07Fits]) ?_
  rw [fbody_eq]
  have hn' := fun k => Nat.le_trans hn (Nat.le_add_right h.length k)
  have R := g.rok
  have hle := R.le
  have l1 := l_spec_l07Fits_1 (nro := nro) h n k c s rows hs R 0
  simp only [Int.natCast_zero] at l1
  by_cases hd : ∃ u, 0 ≤ u ∧ u < n ∧ k < (deg rows u : Int)
  · rw [if_pos hd] at l1
    have hF : ¬ FitsP rows n k c := by
      rintro ⟨h1, _⟩
      obtain ⟨u, _, hu, hk⟩ := hd
      have := h1 u hu
      omega
    rw [decide_eq_false hF]
    simp (disch := first | assumption | omega | (simp [*] <;> omega) | fail) [i_spec_l07Fits, l1]
  · rw [if_neg hd] at l1
    obtain ⟨q, M, he, hS⟩ := c_spec_l01Edges (nro := nro) n s rows (bx h n s) (hs.app _) (by simp; omega) g
    rw [Int.toNat_natCast] at hS
    obtain ⟨vs, r1, r2, r3⟩ := hS.read (L := [])
    have hel := edges_len' rows n 0 hle
    have l2 := l_spec_l07Fits_2 (nro := nro) (bx h n s ++ M) h.length n c s q rows ((hs.app _).app _) g (by simp; omega) (by simp) (edgesF rows n 0) vs r1 (by omega)
      (fun L => by
        have := r2.app L
        rw [List.append_nil] at this
        exact this)
      (fun L i hi => by
        have := (r3 i hi).app L
        rw [List.append_nil] at this
        exact this)
      (fun e he => by
        obtain ⟨u, w, _, _, _, h1, h2⟩ := (edgesF_mem rows n 0 e).mp he
        exact ⟨u, w, h1, h2⟩) _ 0 rfl (Nat.zero_le _)
    rw [List.drop_zero] at l2
    simp only [Int.natCast_zero] at l2
    have hF : FitsP rows n k c ↔ ¬ ∃ e ∈ edgesF rows n 0, ∃ u w : Nat, e = [(u : Int), (w : Int)] ∧ ¬ (arF rows u w ≤ 0 ∨ c ≤ arF rows u w) := by
      constructor
      · rintro ⟨_, h2⟩ ⟨e, he, u, w, h3, h4⟩
        obtain ⟨u', w', _, _, _, h5, h6⟩ := (edgesF_mem rows n 0 e).mp he
        rw [h3] at h6
        simp at h6
        have q1 : u' = u := by omega
        have q2 : w' = w := by omega
        subst q1 q2
        exact h4 (h2 _ _ h5)
      · intro h1
        refine ⟨fun v hv => ?_, fun u w huw => ?_⟩
        · rcases Int.lt_or_le k (deg rows v : Int) with h2 | h2
          · exact absurd ⟨v, Nat.zero_le _, hv, h2⟩ hd
          · exact h2
        · obtain ⟨hu, hw⟩ := rbit_lt R huw
          by_cases h2 : arF rows u w ≤ 0 ∨ c ≤ arF rows u w
          · exact h2
          · exfalso
            have hne := g.ne huw
            rcases Nat.lt_or_gt_of_ne hne with h3 | h3
            · exact h1 ⟨_, (edgesF_mem rows n 0 _).mpr ⟨u, w, Nat.zero_le _, h3, hw, huw, rfl⟩, u, w, rfl, h2⟩
            · rw [arF_symm g huw] at h2
              exact h1 ⟨_, (edgesF_mem rows n 0 _).mpr ⟨w, u, Nat.zero_le _, h3, hu, g.sym' huw, rfl⟩, w, u, rfl, h2⟩
    by_cases hE : ∃ e ∈ edgesF rows n 0, ∃ u w : Nat, e = [(u : Int), (w : Int)] ∧ ¬ (arF rows u w ≤ 0 ∨ c ≤ arF rows u w)
    · obtain ⟨L, l3⟩ := l2.1 hE
      rw [decide_eq_false (fun h => hF.mp h hE)]
      clear l2 hF hE hel r1 r2 r3 hS
      simp at he l3
      simp (disch := first | assumption | omega | (simp [*] <;> omega) | fail) [i_spec_l07Fits, l1, he, l3, hn, hn']
    · have l3 := l2.2 hE
      rw [decide_eq_true (hF.mpr hE)]
      clear l2 hF hE hel r1 r2 r3 hS
      simp at he l3
      simp (disch := first | assumption | omega | (simp [*] <;> omega) | fail) [i_spec_l07Fits, l1, he, l3, hn, hn']

open Classical in
/-- The code. -/
noncomputable def fitC (n : Int) (rows : List Int) (k c : Int) : Int := if GV n rows then if kcB k c = true then if FitsP rows n.toNat k c then 0 else 5 else 2 else 1

open Classical in
theorem c_spec_l07Given (n k c : Int) (s : Value) (rows : List Int) (h : VH) (hs : Sli h s rows) (hn : nro ≤ h.length) :
    vcall F nro k_spec_l07Given [gv n s, .int .i64 k, .int .i64 c] h = some (.int .i64 (fitC n rows k c), h) := by
  refine v_spec_l07Given (by simp [i_spec_l07Given]) ?_
  rw [fbody_eq]
  have h1 := c_spec_l01Is (nro := nro) n s rows (bx h n s) (hs.app _)
  have h2 := c_spec_l07Numbers (nro := nro) k c (bx h n s)
  unfold fitC
  by_cases g : GV n rows
  · rw [if_pos g]
    rw [decide_eq_true g] at h1
    by_cases g2 : kcB k c = true
    · rw [if_pos g2]
      rw [g2] at h2
      have hlo := g.lo
      obtain ⟨N, rfl⟩ : ∃ N : Nat, n = N := ⟨n.toNat, by omega⟩
      rw [Int.toNat_natCast]
      have h3 := c_spec_l07Fits (nro := nro) N k c s rows (bx h N s) (hs.app _) g (by simp; omega)
      by_cases g3 : FitsP rows N k c
      · rw [if_pos g3]
        rw [decide_eq_true g3] at h3
        simp (disch := first | assumption | omega | (simp [*] <;> omega) | fail) [i_spec_l07Given, h1, h2, h3]
      · rw [if_neg g3]
        rw [decide_eq_false g3] at h3
        simp (disch := first | assumption | omega | (simp [*] <;> omega) | fail) [i_spec_l07Given, h1, h2, h3]
    · rw [if_neg g2]
      have g2' : kcB k c = false := by simpa using g2
      rw [g2'] at h2
      simp (disch := first | assumption | omega | (simp [*] <;> omega) | fail) [i_spec_l07Given, h1, h2]
  · rw [if_neg g]
    rw [decide_eq_false g] at h1
    simp (disch := first | assumption | omega | (simp [*] <;> omega) | fail) [i_spec_l07Given, h1]

open Classical in
theorem c_impl_bothCode (n k c : Int) (s : Value) (rows : List Int) (h : VH) (hs : Sli h s rows) :
    vcall F nro k_impl_bothCode [gv n s, .int .i64 k, .int .i64 c] h = some (.int .i64 (if GV n rows then if kcB k c = true then 0 else 2 else 1), h) := by
  refine v_impl_bothCode (by simp [i_impl_bothCode]) ?_
  rw [fbody_eq]
  have h1 := c_impl_IsGraph (nro := nro) n s rows (bx h n s) (hs.app _)
  have h2 := c_impl_isBoth (nro := nro) k c (bx h n s)
  by_cases g : GV n rows
  · rw [if_pos g]
    simp only [g, decide_true] at h1
    by_cases g2 : kcB k c = true
    · rw [if_pos g2]
      rw [g2] at h2
      simp (disch := first | assumption | omega | (simp [*] <;> omega) | fail) [i_impl_bothCode, h1, h2]
    · rw [if_neg g2]
      have g2' : kcB k c = false := by simpa using g2
      rw [g2'] at h2
      simp (disch := first | assumption | omega | (simp [*] <;> omega) | fail) [i_impl_bothCode, h1, h2]
  · rw [if_neg g]
    simp only [g, decide_false] at h1
    simp (disch := first | assumption | omega | (simp [*] <;> omega) | fail) [i_impl_bothCode, h1]

open Classical in
theorem c_impl_fitCode (n k c : Int) (s : Value) (rows : List Int) (h : VH) (hs : Sli h s rows) (hn : nro ≤ h.length) :
    vcall F nro k_impl_fitCode [gv n s, .int .i64 k, .int .i64 c] h = some (.int .i64 (fitC n rows k c), h) := by
  have hb := c_impl_bothCode (nro := nro) n k c s rows (bx h n s) (hs.app _)
  refine v_impl_fitCode (by simp [i_impl_fitCode]) ?_
  rw [fbody_eq]
  unfold fitC
  by_cases g : GV n rows
  · rw [if_pos g] at hb ⊢
    by_cases g2 : kcB k c = true
    · rw [if_pos g2] at hb ⊢
      have hlo := g.lo
      obtain ⟨N, rfl⟩ : ∃ N : Nat, n = N := ⟨n.toNat, by omega⟩
      rw [Int.toNat_natCast]
      have hc1 : 1 ≤ c := by
        unfold kcB at g2
        simp at g2
        omega
      have h3 := c_impl_Graph_fits (nro := nro) N k c s rows (bx h N s) (hs.app _) g hc1 (by simp; omega)
      by_cases g3 : FitsP rows N k c
      · rw [if_pos g3]
        rw [decide_eq_true g3] at h3
        simp (disch := first | assumption | omega | (simp [*] <;> omega) | fail) [i_impl_fitCode, hb, h3]
      · rw [if_neg g3]
        rw [decide_eq_false g3] at h3
        simp (disch := first | assumption | omega | (simp [*] <;> omega) | fail) [i_impl_fitCode, hb, h3]
    · rw [if_neg g2] at hb ⊢
      simp (disch := first | assumption | omega | (simp [*] <;> omega) | fail) [i_impl_fitCode, hb]
  · rw [if_neg g] at hb ⊢
    simp (disch := first | assumption | omega | (simp [*] <;> omega) | fail) [i_impl_fitCode, hb]
end Go.Proofs.YtghondlbkjponaaDoor.Zv

/- The sum of the shortest cycles of all edges, without overflow. -/
namespace Go.Proofs.YtghondlbkjponaaDoor.Zv
open Go
open Classical

/-! ### what the girth is -/
section
variable {n : Nat} {rows : List Int} (g : GV n rows)
include g
theorem gir_min (c : Int) (hc : 1 ≤ c) : (girF rows n 0 0 = 0 ∨ c ≤ girF rows n 0 0) ↔ ∀ p q, rbit rows p q = true → arF rows p q ≤ 0 ∨ c ≤ arF rows p q := by
  rw [girF_ok hc 0 0 (by omega)]
  constructor
  · rintro ⟨_, h⟩ p q hpq
    obtain ⟨h1, h2⟩ := rbit_lt g.rok hpq
    have hle := g.rok.le
    have := h p (Nat.zero_le _) h1 (q : Int) ((nbL_mem rows p q).mpr ⟨by omega, by omega, by rw [Int.toNat_natCast]; exact hpq⟩)
    rwa [Int.toNat_natCast] at this
  · intro h
    refine ⟨.inl rfl, fun u _ hu y hy => ?_⟩
    obtain ⟨h1, h2, h3⟩ := (nbL_mem rows u y).mp hy
    exact h u y.toNat h3
end
end Go.Proofs.YtghondlbkjponaaDoor.Zv

/- Shortest cycles through an edge in either direction; girths at vertices are not less than the girth. -/
namespace Go.Proofs.YtghondlbkjponaaDoor.Zv
open Go
open Classical

section
variable {n : Nat} {rows : List Int} (g : GV n rows)
include g
end
/-! ### answers -/
noncomputable def giA (n : Int) (rows : List Int) : Int × Int := if ¬ GV n rows then (0, 1) else if girF rows n.toNat 0 0 = 0 then (0, 4) else (girF rows n.toNat 0 0, 0)
end Go.Proofs.YtghondlbkjponaaDoor.Zv

/- The law of FillGraph. -/
namespace Go.Proofs.YtghondlbkjponaaDoor.Zv
open Go
variable {nro : Nat}

/-- What the function answers. -/
noncomputable def fillAns (n : Int) (rows : List Int) (k c : Int) : GAns := if fitC n rows k c = 0 then .inl (n, fillA k c n.toNat rows 0) else .inr (fitC n rows k c)
theorem fitC_gv {n : Int} {rows : List Int} {k c : Int} (h : fitC n rows k c = 0) : GV n rows := by
  unfold fitC at h
  split at h
  · assumption
  · omega

theorem c_spec_FillGraph (n k c : Int) (s : Value) (rows : List Int) (h : VH) (hs : Sli h s rows) (hn : nro ≤ h.length) :
    vcall F nro k_spec_FillGraph [gv n s, .int .i64 k, .int .i64 c] h = some (gres h (fillAns n rows k c)) := by
  have hn' := fun k => Nat.le_trans hn (Nat.le_add_right h.length k)
  refine v_spec_FillGraph (by simp [i_spec_FillGraph]) ?_
  rw [fbody_eq]
  have hc := c_spec_l07Given (nro := nro) n k c s rows (h ++ [⟨0, [.int .i64 n, s]⟩, ⟨0, [.int .i64 0, .slice none 0 0]⟩]) (hs.app _) (by simp; omega)
  unfold fillAns
  by_cases hz : fitC n rows k c = 0
  · rw [if_pos hz]
    rw [hz] at hc
    have g := fitC_gv hz
    have hlo := g.lo
    obtain ⟨N, rfl⟩ : ∃ N : Nat, n = N := ⟨n.toNat, by omega⟩
    rw [Int.toNat_natCast]
    have hf := c_spec_l07Fill (nro := nro) N k c s rows (h ++ [⟨0, [.int .i64 N, s]⟩, ⟨0, [.int .i64 0, .slice none 0 0]⟩]) (hs.app _) g.rok (by omega) (by simp; omega)
    have hl := (g.rok.fillA k c 0).len
    obtain ⟨r, hr⟩ : ∃ r, r = fillA k c N rows 0 := ⟨_, rfl⟩
    rw [← hr] at hf hl ⊢
    clear hr hz
    simp at hc hf
    simp (disch := first | assumption | omega | (simp [*] <;> omega) | fail) [i_spec_FillGraph, hc, hf, hl, fresults, fresL, fres1, hn', hn]
  · rw [if_neg hz]
    obtain ⟨x, hx⟩ : ∃ x, x = fitC n rows k c := ⟨_, rfl⟩
    rw [← hx] at hc hz ⊢
    clear hx
    simp (disch := first | assumption | omega | (simp [*] <;> omega) | fail) [i_spec_FillGraph, hc, hz, fresults, fresL, fres1, hn', hn]

theorem c_impl_FillGraph (n k c : Int) (s : Value) (rows : List Int) (h : VH) (hs : Sli h s rows) (hn : nro ≤ h.length) :
    vcall F nro k_impl_FillGraph [gv n s, .int .i64 k, .int .i64 c] h = some (gres h (fillAns n rows k c)) := by
  have hn' := fun k => Nat.le_trans hn (Nat.le_add_right h.length k)
  refine v_impl_FillGraph (by simp [i_impl_FillGraph]) ?_
  rw [fbody_eq]
  have hc := c_impl_fitCode (nro := nro) n k c s rows (h ++ [⟨0, [.int .i64 n, s]⟩, ⟨0, [.int .i64 0, .slice none 0 0]⟩]) (hs.app _) (by simp; omega)
  unfold fillAns
  by_cases hz : fitC n rows k c = 0
  · rw [if_pos hz]
    rw [hz] at hc
    have g := fitC_gv hz
    have hlo := g.lo
    obtain ⟨N, rfl⟩ : ∃ N : Nat, n = N := ⟨n.toNat, by omega⟩
    rw [Int.toNat_natCast]
    have hf := c_impl_filled (nro := nro) N k c s rows (h ++ [⟨0, [.int .i64 N, s]⟩, ⟨0, [.int .i64 0, .slice none 0 0]⟩]) (hs.app _) g.rok (by omega) (by simp; omega)
    have hl := (g.rok.fillA k c 0).len
    obtain ⟨r, hr⟩ : ∃ r, r = fillA k c N rows 0 := ⟨_, rfl⟩
    rw [← hr] at hf hl ⊢
    clear hr hz
    simp at hc hf
    simp (disch := first | assumption | omega | (simp [*] <;> omega) | fail) [i_impl_FillGraph, hc, hf, hl, fresults, fresL, fres1, hn', hn]
  · rw [if_neg hz]
    obtain ⟨x, hx⟩ : ∃ x, x = fitC n rows k c := ⟨_, rfl⟩
    rw [← hx] at hc hz ⊢
    clear hx
    simp (disch := first | assumption | omega | (simp [*] <;> omega) | fail) [i_impl_FillGraph, hc, hz, fresults, fresL, fres1, hn', hn]

end Go.Proofs.YtghondlbkjponaaDoor.Zv

/- Pairs that may be joined: lists of lists. -/
namespace Go.Proofs.YtghondlbkjponaaDoor.Zv
open Go
variable {nro : Nat}

def pairF (k c : Int) (rows : List Int) (v n w : Nat) : List (List Int) := if h : w < n then (if mayB rows k c v w = true then [[(v : Int), (w : Int)]] else []) ++ pairF k c rows v n (w + 1) else []
 termination_by n - w
theorem pairF_end {k c : Int} {rows : List Int} {v n w : Nat} (h : ¬ w < n) : pairF k c rows v n w = [] := by rw [pairF, dif_neg h]
theorem pairF_step {k c : Int} {rows : List Int} {v n w : Nat} (h : w < n) : pairF k c rows v n w = (if mayB rows k c v w = true then [[(v : Int), (w : Int)]] else []) ++ pairF k c rows v n (w + 1) := by rw [pairF, dif_pos h]
theorem pairF_len (k c : Int) (rows : List Int) (v n w : Nat) (hw : w ≤ n) : (pairF k c rows v n w).length ≤ n - w := by
  by_cases h : w < n
  · rw [pairF_step h, List.length_append]
    have := pairF_len k c rows v n (w + 1) h
    split <;> simp <;> omega
  · rw [pairF_end h]; simp
 termination_by n - w
def pairsF (k c : Int) (rows : List Int) (n v : Nat) : List (List Int) := if h : v < n then pairF k c rows v n (v + 1) ++ pairsF k c rows n (v + 1) else []
 termination_by n - v
theorem pairsF_end {k c : Int} {rows : List Int} {n v : Nat} (h : ¬ v < n) : pairsF k c rows n v = [] := by rw [pairsF, dif_neg h]
theorem pairsF_step {k c : Int} {rows : List Int} {n v : Nat} (h : v < n) : pairsF k c rows n v = pairF k c rows v n (v + 1) ++ pairsF k c rows n (v + 1) := by rw [pairsF, dif_pos h]
theorem pairsF_len (k c : Int) (rows : List Int) (n v : Nat) (hn : n ≤ 62) : (pairsF k c rows n v).length ≤ (n - v) * 62 := by
  by_cases h : v < n
  · rw [pairsF_step h, List.length_append]
    have h1 := pairsF_len k c rows n (v + 1) hn
    have h2 := pairF_len k c rows v n (v + 1) h
    have e : n - v = (n - (v + 1)) + 1 := by omega
    rw [e, Nat.add_mul]
    omega
  · rw [pairsF_end h]; simp
 termination_by n - v

theorem l_impl_Graph_pairs_1 (n : Nat) (k c : Int) (s : Value) (rows : List Int) (h : VH) (hs : Sli h s rows) (hn : nro ≤ h.length) (R : Rok n rows) (v : Nat) (hv : v < n) (vs0 : List Value) (G0 : VH) (ess0 : List (List Int)) (e0 : EI (h.length + 2) vs0 G0 ess0) (hm : vs0.length ≤ v * 62) :
    ∃ a : List Value × VH, (EI (h.length + 2) a.1 a.2 (ess0 ++ pairF k c rows v n (v + 1)) ∧ G0.length ≤ a.2.length) ∧ floop (vcall F nro) nro [1, 2, 3, 7, 8, 9, 12, 13] i_impl_Graph_pairs_B1 (eH h n s vs0 G0) [.int .i64 k, .int .i64 c, bp h, eq1 h vs0.length, .int .i64 v, .int .i64 ((v + 1 : Nat) : Int), .int .i64 n, .int .i64 v] (eH h n s vs0 G0) =
      some (.exit 2, fl [(1, .int .i64 k), (2, .int .i64 c), (3, bp h), (7, eq1 h a.1.length), (12, .int .i64 n), (13, .int .i64 v)], eH h n s a.1 a.2) := by
  have hlen := R.len
  have g0 := R.le
  refine Exists.elim (for_upR (call := vcall F nro) (nro := nro) (live := [1, 2, 3, 7, 8, 9, 12, 13]) (c := i_impl_Graph_pairs_B1) (h0 := eH h n s vs0 G0) (n := n) (fun i (a : List Value × VH) => [.int .i64 k, .int .i64 c, bp h, eq1 h a.1.length, .int .i64 v, .int .i64 i, .int .i64 n, .int .i64 v]) (fun i a => eH h n s a.1 a.2)
    (fun i a => (∃ ess, EI (h.length + 2) a.1 a.2 ess ∧ ess ++ pairF k c rows v n i = ess0 ++ pairF k c rows v n (v + 1)) ∧ G0.length ≤ a.2.length ∧ a.1.length ≤ v * 62 + i ∧ v < i) (fun a => some (.exit 2, fl [(1, .int .i64 k), (2, .int .i64 c), (3, bp h), (7, eq1 h a.1.length), (12, .int .i64 n), (13, .int .i64 v)], eH h n s a.1 a.2)) ?_ ?_ (v + 1) (vs0, G0) (by omega) ⟨⟨ess0, e0, rfl⟩, Nat.le_refl _, by simp; omega, by omega⟩) ?_
  · rintro w ⟨vs, G⟩ hlt hlt0 ⟨⟨ess, e, hess⟩, hG, hm, hvw⟩
    dsimp only at e hG hm ⊢
    rw [floop_at i_impl_Graph_pairs_B1.eq_1]
    rw [pairF_step hlt, ← List.append_assoc] at hess
    obtain ⟨H, hH⟩ : ∃ H, H = eH h n s vs G := ⟨_, rfl⟩
    have hq : H[h.length + 1]? = some ⟨1, vs⟩ := by rw [hH]; simp
    have hbx : H[h.length]? = some ⟨0, [.int .i64 n, s]⟩ := by rw [hH]; simp
    have hHl : H.length = h.length + 2 + G.length := by rw [hH]; simp; omega
    have hnH : nro ≤ H.length := by omega
    have hc := c_impl_Graph_mayJoin (nro := nro) n v w k c s rows H (by rw [hH]; exact hs.app _) R hv hlt hnH
    have hn2 := fun k => Nat.le_trans hnH (Nat.le_add_right H.length k)
    have hn1 := fun k => Nat.le_trans hn (Nat.le_add_right h.length k)
    obtain ⟨K, hK⟩ : ∃ K, K = eH h n s vs0 G0 := ⟨_, rfl⟩
    have hold : ∀ m, ∀ x ∈ [.int .i64 k, .int .i64 c, bp h, eq1 h m, .int .i64 v, .int .i64 ((w : Int) + 1), .int .i64 n, .int .i64 v], Old (h.length + 2 + G0.length) x := by
      intro m x hx
      simp at hx
      rcases hx with rfl | rfl | rfl | rfl | rfl | rfl | rfl | rfl <;> intro r hr <;> simp [trefs, vrefs, crefs, arefs] at hr ⊢ <;> omega
    by_cases hb : mayB rows k c v w = true
    · rw [if_pos hb] at hess
      have b1 : (vs.length + 1) * 24 ≤ 1099511627776 := by omega
      have b2 : vs.length < 1099511627776 := by omega
      have hnew : H.set (h.length + 1) ⟨1, vs ++ [.slice (some ⟨H.length, 0, none⟩) 2 2]⟩ ++ [⟨1, [.int .i64 v, .int .i64 w]⟩, ⟨1, [.slice (some ⟨H.length, 0, none⟩) 2 2]⟩] = eH h n s (vs ++ [.slice (some ⟨h.length + 2 + G.length, 0, none⟩) 2 2]) (G ++ ⟨1, [.int .i64 v, .int .i64 w]⟩ :: [⟨1, [.slice (some ⟨h.length + 2 + G.length, 0, none⟩) 2 2]⟩]) := by
        rw [hHl, hH]; simp
      have e1 := e.push [(v : Int), (w : Int)] [⟨1, [.slice (some ⟨h.length + 2 + G.length, 0, none⟩) 2 2]⟩]
      obtain ⟨G1, hk, e2, e3⟩ := eH_clean (n := n) (s := s) e0 e1 (by simp; omega) (hold (vs.length + 1))
      refine ⟨(_, G1), ⟨⟨_, e2, hess⟩, e3, by simp; omega, by omega⟩, ?_⟩
      rw [← hK] at hk ⊢
      rw [← hH]
      simp at hk
      simp only [List.length_append, List.length_singleton, List.length_cons, List.length_nil]
      clear hold hHl hH hK e1 e e0 e2 hess
      simp (disch := first | assumption | omega | (simp [*] <;> omega) | fail) [hbx, hq, hget_old hq, hset_old hq, hc, hb, wrap64, hlt, hlt0, hn1, hnH, hn2, b1, b2, hnew, hk]
    · rw [if_neg hb, List.append_nil] at hess
      have hb' : mayB rows k c v w = false := by simpa using hb
      obtain ⟨G1, hk, e2, e3⟩ := eH_clean (n := n) (s := s) e0 e hG (hold vs.length)
      refine ⟨(vs, G1), ⟨⟨_, e2, hess⟩, e3, by simp; omega, by omega⟩, ?_⟩
      rw [← hK, ← hH] at hk
      rw [← hK, ← hH]
      clear hold hHl hH hK e e0 e2 hess
      simp (disch := first | assumption | omega | (simp [*] <;> omega) | fail) [hbx, hq, hc, hb', wrap64, hlt, hlt0, hnH, hn2, hk]
  · rintro ⟨vs, G⟩ _
    rw [floop_at i_impl_Graph_pairs_B1.eq_1]
    simp (disch := first | assumption | omega | (simp [*] <;> omega) | fail) []
  · rintro a ⟨⟨⟨ess, k1, k2⟩, k3, k4⟩, h2⟩
    rw [pairF_end (by omega), List.append_nil] at k2
    rw [k2] at k1
    exact ⟨a, ⟨k1, k3⟩, h2⟩

theorem l_impl_Graph_pairs_2 (n : Nat) (k c : Int) (s : Value) (rows : List Int) (h : VH) (hs : Sli h s rows) (hn : nro ≤ h.length) (R : Rok n rows) :
    ∃ a : List Value × VH, EI (h.length + 2) a.1 a.2 (pairsF k c rows n 0) ∧ floop (vcall F nro) nro [1, 2, 3, 7, 12, 13] i_impl_Graph_pairs_B2 (eH h n s [] []) [.int .i64 k, .int .i64 c, bp h, eq1 h 0, .int .i64 n, .int .i64 0] (eH h n s [] []) =
      some (.exit 0, fl [(7, eq1 h a.1.length)], eH h n s a.1 a.2) := by
  have hlen := R.len
  have g0 := R.le
  refine Exists.elim (for_upR (call := vcall F nro) (nro := nro) (live := [1, 2, 3, 7, 12, 13]) (c := i_impl_Graph_pairs_B2) (h0 := eH h n s [] []) (n := n) (fun i (a : List Value × VH) => [.int .i64 k, .int .i64 c, bp h, eq1 h a.1.length, .int .i64 n, .int .i64 i]) (fun i a => eH h n s a.1 a.2)
    (fun i a => (∃ ess, EI (h.length + 2) a.1 a.2 ess ∧ ess ++ pairsF k c rows n i = pairsF k c rows n 0) ∧ a.1.length ≤ i * 62) (fun a => some (.exit 0, fl [(7, eq1 h a.1.length)], eH h n s a.1 a.2)) ?_ ?_ 0 ([], []) (by omega) ⟨⟨[], EI.nil _ _, rfl⟩, by simp⟩) ?_
  · rintro v ⟨vs, G⟩ hlt hlt0 ⟨⟨ess, e, hess⟩, hm⟩
    dsimp only at e hm ⊢
    obtain ⟨⟨vs1, G1⟩, ⟨i2, i3⟩, i1⟩ := l_impl_Graph_pairs_1 (nro := nro) n k c s rows h hs hn R v hlt vs G ess e hm
    dsimp only at i1 i2 i3
    have i4 : vs1.length ≤ (v + 1) * 62 := by
      have := i2.len
      have := e.len
      have := pairF_len k c rows v n (v + 1) (by omega)
      simp at *
      omega
    have hold : ∀ x ∈ [.int .i64 k, .int .i64 c, bp h, eq1 h vs1.length, .int .i64 n, .int .i64 ((v : Int) + 1)], Old (h.length + 2 + ([] : VH).length) x := by
      intro x hx
      simp at hx
      rcases hx with rfl | rfl | rfl | rfl | rfl | rfl <;> intro r hr <;> simp [trefs, vrefs, crefs, arefs] at hr ⊢ <;> omega
    obtain ⟨G2, hk, e2, e3⟩ := eH_clean (n := n) (s := s) (EI.nil (h.length + 2) []) i2 (by simp) hold
    rw [pairsF_step hlt, ← List.append_assoc] at hess
    refine ⟨(vs1, G2), ⟨⟨_, e2, hess⟩, i4⟩, ?_⟩
    rw [floop_at i_impl_Graph_pairs_B2.eq_1]
    obtain ⟨K, hK⟩ : ∃ K, K = eH h n s [] [] := ⟨_, rfl⟩
    obtain ⟨H, hH⟩ : ∃ H, H = eH h n s vs G := ⟨_, rfl⟩
    obtain ⟨H1, hH1⟩ : ∃ H1, H1 = eH h n s vs1 G1 := ⟨_, rfl⟩
    have hbx : H[h.length]? = some ⟨0, [.int .i64 n, s]⟩ := by rw [hH]; simp
    rw [← hK, ← hH1] at hk
    rw [← hH, ← hH1] at i1
    rw [← hK, ← hH]
    clear hold hH hH1 hK e e2 i2 hess
    simp at i1
    simp (disch := first | assumption | omega | (simp [*] <;> omega) | fail) [hbx, wrap64, hlt, hlt0, i1, hk]
  · rintro ⟨vs, G⟩ _
    rw [floop_at i_impl_Graph_pairs_B2.eq_1]
    simp (disch := first | assumption | omega | (simp [*] <;> omega) | fail) []
  · rintro a ⟨⟨⟨ess, k1, k2⟩, _⟩, h2⟩
    rw [pairsF_end (by omega), List.append_nil] at k2
    rw [k2] at k1
    exact ⟨a, k1, h2⟩

theorem l_spec_PairsToJoin_1 (n : Nat) (k c : Int) (s : Value) (rows : List Int) (h : VH) (hs : Sli h s rows) (hn : nro ≤ h.length) (R : Rok n rows) (v : Nat) (hv : v < n) (vs0 : List Value) (G0 : VH) (ess0 : List (List Int)) (e0 : EI (h.length + 2) vs0 G0 ess0) (hm : vs0.length ≤ v * 62) :
    ∃ a : List Value × VH, (EI (h.length + 2) a.1 a.2 (ess0 ++ pairF k c rows v n (v + 1)) ∧ G0.length ≤ a.2.length) ∧ floop (vcall F nro) nro [1, 2, 3, 9, 10, 11] i_spec_PairsToJoin_B1 (eH h n s vs0 G0) [.int .i64 k, .int .i64 c, bp h, eq1 h vs0.length, .int .i64 v, .int .i64 ((v + 1 : Nat) : Int)] (eH h n s vs0 G0) =
      some (.exit 2, fl [(1, .int .i64 k), (2, .int .i64 c), (3, bp h), (9, eq1 h a.1.length), (10, .int .i64 v)], eH h n s a.1 a.2) := by
  have hlen := R.len
  have g0 := R.le
  refine Exists.elim (for_upR (call := vcall F nro) (nro := nro) (live := [1, 2, 3, 9, 10, 11]) (c := i_spec_PairsToJoin_B1) (h0 := eH h n s vs0 G0) (n := n) (fun i (a : List Value × VH) => [.int .i64 k, .int .i64 c, bp h, eq1 h a.1.length, .int .i64 v, .int .i64 i]) (fun i a => eH h n s a.1 a.2)
    (fun i a => (∃ ess, EI (h.length + 2) a.1 a.2 ess ∧ ess ++ pairF k c rows v n i = ess0 ++ pairF k c rows v n (v + 1)) ∧ G0.length ≤ a.2.length ∧ a.1.length ≤ v * 62 + i ∧ v < i) (fun a => some (.exit 2, fl [(1, .int .i64 k), (2, .int .i64 c), (3, bp h), (9, eq1 h a.1.length), (10, .int .i64 v)], eH h n s a.1 a.2)) ?_ ?_ (v + 1) (vs0, G0) (by omega) ⟨⟨ess0, e0, rfl⟩, Nat.le_refl _, by simp; omega, by omega⟩) ?_
  · rintro w ⟨vs, G⟩ hlt hlt0 ⟨⟨ess, e, hess⟩, hG, hm, hvw⟩
    dsimp only at e hG hm ⊢
    rw [floop_at i_spec_PairsToJoin_B1.eq_1]
    rw [pairF_step hlt, ← List.append_assoc] at hess
    obtain ⟨H, hH⟩ : ∃ H, H = eH h n s vs G := ⟨_, rfl⟩
    have hq : H[h.length + 1]? = some ⟨1, vs⟩ := by rw [hH]; simp
    have hbx : H[h.length]? = some ⟨0, [.int .i64 n, s]⟩ := by rw [hH]; simp
    have hHl : H.length = h.length + 2 + G.length := by rw [hH]; simp; omega
    have hnH : nro ≤ H.length := by omega
    have hc := c_spec_l07May (nro := nro) n v w k c s rows H (by rw [hH]; exact hs.app _) R hv hlt (by omega)
    have hn2 := fun k => Nat.le_trans hnH (Nat.le_add_right H.length k)
    have hn1 := fun k => Nat.le_trans hn (Nat.le_add_right h.length k)
    obtain ⟨K, hK⟩ : ∃ K, K = eH h n s vs0 G0 := ⟨_, rfl⟩
    have hold : ∀ m, ∀ x ∈ [.int .i64 k, .int .i64 c, bp h, eq1 h m, .int .i64 v, .int .i64 ((w : Int) + 1)], Old (h.length + 2 + G0.length) x := by
      intro m x hx
      simp at hx
      rcases hx with rfl | rfl | rfl | rfl | rfl | rfl <;> intro r hr <;> simp [trefs, vrefs, crefs, arefs] at hr ⊢ <;> omega
    by_cases hb : mayB rows k c v w = true
    · rw [if_pos hb] at hess
      have b1 : (vs.length + 1) * 24 ≤ 1099511627776 := by omega
      have b2 : vs.length < 1099511627776 := by omega
      have hnew : H.set (h.length + 1) ⟨1, vs ++ [.slice (some ⟨H.length, 0, none⟩) 2 2]⟩ ++ [⟨1, [.int .i64 v, .int .i64 w]⟩, ⟨1, [.slice (some ⟨H.length, 0, none⟩) 2 2]⟩] = eH h n s (vs ++ [.slice (some ⟨h.length + 2 + G.length, 0, none⟩) 2 2]) (G ++ ⟨1, [.int .i64 v, .int .i64 w]⟩ :: [⟨1, [.slice (some ⟨h.length + 2 + G.length, 0, none⟩) 2 2]⟩]) := by
        rw [hHl, hH]; simp
      have e1 := e.push [(v : Int), (w : Int)] [⟨1, [.slice (some ⟨h.length + 2 + G.length, 0, none⟩) 2 2]⟩]
      obtain ⟨G1, hk, e2, e3⟩ := eH_clean (n := n) (s := s) e0 e1 (by simp; omega) (hold (vs.length + 1))
      refine ⟨(_, G1), ⟨⟨_, e2, hess⟩, e3, by simp; omega, by omega⟩, ?_⟩
      rw [← hK] at hk ⊢
      rw [← hH]
      simp at hk
      simp only [List.length_append, List.length_singleton, List.length_cons, List.length_nil]
      clear hold hHl hH hK e1 e e0 e2 hess
      simp (disch := first | assumption | omega | (simp [*] <;> omega) | fail) [hbx, hq, hget_old hq, hset_old hq, hc, hb, wrap64, hlt, hlt0, hn1, hnH, hn2, b1, b2, hnew, hk]
    · rw [if_neg hb, List.append_nil] at hess
      have hb' : mayB rows k c v w = false := by simpa using hb
      obtain ⟨G1, hk, e2, e3⟩ := eH_clean (n := n) (s := s) e0 e hG (hold vs.length)
      refine ⟨(vs, G1), ⟨⟨_, e2, hess⟩, e3, by simp; omega, by omega⟩, ?_⟩
      rw [← hK, ← hH] at hk
      rw [← hK, ← hH]
      clear hold hHl hH hK e e0 e2 hess
      simp (disch := first | assumption | omega | (simp [*] <;> omega) | fail) [hbx, hq, hc, hb', wrap64, hlt, hlt0, hnH, hn2, hk]
  · rintro ⟨vs, G⟩ _
    rw [floop_at i_spec_PairsToJoin_B1.eq_1]
    simp (disch := first | assumption | omega | (simp [*] <;> omega) | fail) []
  · rintro a ⟨⟨⟨ess, k1, k2⟩, k3, k4⟩, h2⟩
    rw [pairF_end (by omega), List.append_nil] at k2
    rw [k2] at k1
    exact ⟨a, ⟨k1, k3⟩, h2⟩

theorem l_spec_PairsToJoin_2 (n : Nat) (k c : Int) (s : Value) (rows : List Int) (h : VH) (hs : Sli h s rows) (hn : nro ≤ h.length) (R : Rok n rows) :
    ∃ a : List Value × VH, EI (h.length + 2) a.1 a.2 (pairsF k c rows n 0) ∧ floop (vcall F nro) nro [1, 2, 3, 9, 10] i_spec_PairsToJoin_B2 (eH h n s [] []) [.int .i64 k, .int .i64 c, bp h, eq1 h 0, .int .i64 0] (eH h n s [] []) =
      some (.exit 0, fl [(9, eq1 h a.1.length)], eH h n s a.1 a.2) := by
  have hlen := R.len
  have g0 := R.le
  refine Exists.elim (for_upR (call := vcall F nro) (nro := nro) (live := [1, 2, 3, 9, 10]) (c := i_spec_PairsToJoin_B2) (h0 := eH h n s [] []) (n := n) (fun i (a : List Value × VH) => [.int .i64 k, .int .i64 c, bp h, eq1 h a.1.length, .int .i64 i]) (fun i a => eH h n s a.1 a.2)
    (fun i a => (∃ ess, EI (h.length + 2) a.1 a.2 ess ∧ ess ++ pairsF k c rows n i = pairsF k c rows n 0) ∧ a.1.length ≤ i * 62) (fun a => some (.exit 0, fl [(9, eq1 h a.1.length)], eH h n s a.1 a.2)) ?_ ?_ 0 ([], []) (by omega) ⟨⟨[], EI.nil _ _, rfl⟩, by simp⟩) ?_
  · rintro v ⟨vs, G⟩ hlt hlt0 ⟨⟨ess, e, hess⟩, hm⟩
    dsimp only at e hm ⊢
    obtain ⟨⟨vs1, G1⟩, ⟨i2, i3⟩, i1⟩ := l_spec_PairsToJoin_1 (nro := nro) n k c s rows h hs hn R v hlt vs G ess e hm
    dsimp only at i1 i2 i3
    have i4 : vs1.length ≤ (v + 1) * 62 := by
      have := i2.len
      have := e.len
      have := pairF_len k c rows v n (v + 1) (by omega)
      simp at *
      omega
    have hold : ∀ x ∈ [.int .i64 k, .int .i64 c, bp h, eq1 h vs1.length, .int .i64 ((v : Int) + 1)], Old (h.length + 2 + ([] : VH).length) x := by
      intro x hx
      simp at hx
      rcases hx with rfl | rfl | rfl | rfl | rfl <;> intro r hr <;> simp [trefs, vrefs, crefs, arefs] at hr ⊢ <;> omega
    obtain ⟨G2, hk, e2, e3⟩ := eH_clean (n := n) (s := s) (EI.nil (h.length + 2) []) i2 (by simp) hold
    rw [pairsF_step hlt, ← List.append_assoc] at hess
    refine ⟨(vs1, G2), ⟨⟨_, e2, hess⟩, i4⟩, ?_⟩
    rw [floop_at i_spec_PairsToJoin_B2.eq_1]
    obtain ⟨K, hK⟩ : ∃ K, K = eH h n s [] [] := ⟨_, rfl⟩
    obtain ⟨H, hH⟩ : ∃ H, H = eH h n s vs G := ⟨_, rfl⟩
    obtain ⟨H1, hH1⟩ : ∃ H1, H1 = eH h n s vs1 G1 := ⟨_, rfl⟩
    have hbx : H[h.length]? = some ⟨0, [.int .i64 n, s]⟩ := by rw [hH]; simp
    rw [← hK, ← hH1] at hk
    rw [← hH, ← hH1] at i1
    rw [← hK, ← hH]
    clear hold hH hH1 hK e e2 i2 hess
    simp at i1
    simp (disch := first | assumption | omega | (simp [*] <;> omega) | fail) [hbx, wrap64, hlt, hlt0, i1, hk]
  · rintro ⟨vs, G⟩ _
    rw [floop_at i_spec_PairsToJoin_B2.eq_1]
    simp (disch := first | assumption | omega | (simp [*] <;> omega) | fail) []
  · rintro a ⟨⟨⟨ess, k1, k2⟩, _⟩, h2⟩
    rw [pairsF_end (by omega), List.append_nil] at k2
    rw [k2] at k1
    exact ⟨a, k1, h2⟩

theorem c_impl_Graph_pairs (n : Nat) (k c : Int) (s : Value) (rows : List Int) (h : VH) (hs : Sli h s rows) (hn : nro ≤ h.length) (R : Rok n rows) :
    ∃ v M, vcall F nro k_impl_Graph_pairs [gv n s, .int .i64 k, .int .i64 c] h = some (v, h ++ M) ∧ SL2 h.length M v (pairsF k c rows n 0) := by
  have hn' := fun k => Nat.le_trans hn (Nat.le_add_right h.length k)
  obtain ⟨⟨vs', G'⟩, l2, l1⟩ := l_impl_Graph_pairs_2 (nro := nro) n k c s rows h hs hn R
  obtain ⟨v, M, k1, k2⟩ := EI.fin1 (h := h) (pre := [⟨0, [.int .i64 n, s]⟩]) l2
  refine ⟨v, M, ?_, k2⟩
  refine v_impl_Graph_pairs (by simp [i_impl_Graph_pairs]) ?_
  rw [fbody_eq]
  simp at l1 k1
  simp (disch := first | assumption | omega | (simp [*] <;> omega) | fail) [i_impl_Graph_pairs, l1, hn', k1]

theorem c_impl_PairsToJoin (n k c : Int) (s : Value) (rows : List Int) (h : VH) (hs : Sli h s rows) (hn : nro ≤ h.length) (hz : fitC n rows k c = 0) :
    ∃ v M, vcall F nro k_impl_PairsToJoin [gv n s, .int .i64 k, .int .i64 c] h = some (.tuple #[v, .int .i64 0], h ++ M) ∧ SL2 h.length M v (pairsF k c rows n.toNat 0) := by
  have hn' := fun k => Nat.le_trans hn (Nat.le_add_right h.length k)
  have hc := c_impl_fitCode (nro := nro) n k c s rows (bx h n s) (hs.app _) (by simp; omega)
  have g := fitC_gv hz
  have hlo := g.lo
  obtain ⟨N, rfl⟩ : ∃ N : Nat, n = N := ⟨n.toNat, by omega⟩
  rw [hz] at hc
  rw [Int.toNat_natCast]
  obtain ⟨q, M, he, hS⟩ := c_impl_Graph_pairs (nro := nro) N k c s rows (bx h N s) (hs.app _) (by simp; omega) g.rok
  have hS' : SL2 (h.length + [(⟨0, [.int .i64 N, s]⟩ : VO)].length) M q (pairsF k c rows N 0) := by simpa using hS
  obtain ⟨v, M', k1, k2⟩ := hS'.fwdC .i64 0
  refine ⟨v, M', ?_, k2⟩
  refine v_impl_PairsToJoin (by simp [i_impl_PairsToJoin]) ?_
  rw [fbody_eq]
  simp at he k1
  obtain ⟨a, m, rfl⟩ := hS.shape
  clear hz hS hS' k2
  simp (disch := first | assumption | omega | (simp [*] <;> omega) | fail) [i_impl_PairsToJoin, hc, he, k1, fresults, fresL, fres1, hn', hn]
theorem c_impl_PairsToJoin_bad (n k c : Int) (s : Value) (rows : List Int) (h : VH) (hs : Sli h s rows) (hn : nro ≤ h.length) (hz : fitC n rows k c ≠ 0) :
    vcall F nro k_impl_PairsToJoin [gv n s, .int .i64 k, .int .i64 c] h = some (.tuple #[.slice none 0 0, .int .i64 (fitC n rows k c)], h) := by
  have hn' := fun k => Nat.le_trans hn (Nat.le_add_right h.length k)
  have hc := c_impl_fitCode (nro := nro) n k c s rows (bx h n s) (hs.app _) (by simp; omega)
  obtain ⟨x, hx⟩ : ∃ x, x = fitC n rows k c := ⟨_, rfl⟩
  rw [← hx] at hc hz ⊢
  clear hx
  refine v_impl_PairsToJoin (by simp [i_impl_PairsToJoin]) ?_
  rw [fbody_eq]
  simp (disch := first | assumption | omega | (simp [*] <;> omega) | fail) [i_impl_PairsToJoin, hc, hz, fresults, fresL, fres1, hn', hn]

theorem c_spec_PairsToJoin (n k c : Int) (s : Value) (rows : List Int) (h : VH) (hs : Sli h s rows) (hn : nro ≤ h.length) (hz : fitC n rows k c = 0) :
    ∃ v M, vcall F nro k_spec_PairsToJoin [gv n s, .int .i64 k, .int .i64 c] h = some (.tuple #[v, .int .i64 0], h ++ M) ∧ SL2 h.length M v (pairsF k c rows n.toNat 0) := by
  have hn' := fun k => Nat.le_trans hn (Nat.le_add_right h.length k)
  have hc := c_spec_l07Given (nro := nro) n k c s rows (bx h n s) (hs.app _) (by simp; omega)
  have g := fitC_gv hz
  have hlo := g.lo
  obtain ⟨N, rfl⟩ : ∃ N : Nat, n = N := ⟨n.toNat, by omega⟩
  rw [hz] at hc
  rw [Int.toNat_natCast]
  obtain ⟨⟨vs', G'⟩, l2, l1⟩ := l_spec_PairsToJoin_2 (nro := nro) N k c s rows h hs hn g.rok
  obtain ⟨v, M, k1, k2⟩ := EI.finC (h := h) (pre := [⟨0, [.int .i64 N, s]⟩]) l2 .i64 0
  refine ⟨v, M, ?_, k2⟩
  refine v_spec_PairsToJoin (by simp [i_spec_PairsToJoin]) ?_
  rw [fbody_eq]
  simp at l1 k1
  clear hz k2
  simp (disch := first | assumption | omega | (simp [*] <;> omega) | fail) [i_spec_PairsToJoin, hc, l1, k1, fresults, fresL, fres1, hn', hn]
theorem c_spec_PairsToJoin_bad (n k c : Int) (s : Value) (rows : List Int) (h : VH) (hs : Sli h s rows) (hn : nro ≤ h.length) (hz : fitC n rows k c ≠ 0) :
    vcall F nro k_spec_PairsToJoin [gv n s, .int .i64 k, .int .i64 c] h = some (.tuple #[.slice none 0 0, .int .i64 (fitC n rows k c)], h) := by
  have hn' := fun k => Nat.le_trans hn (Nat.le_add_right h.length k)
  have hc := c_spec_l07Given (nro := nro) n k c s rows (bx h n s) (hs.app _) (by simp; omega)
  obtain ⟨x, hx⟩ : ∃ x, x = fitC n rows k c := ⟨_, rfl⟩
  rw [← hx] at hc hz ⊢
  clear hx
  refine v_spec_PairsToJoin (by simp [i_spec_PairsToJoin]) ?_
  rw [fbody_eq]
  simp (disch := first | assumption | omega | (simp [*] <;> omega) | fail) [i_spec_PairsToJoin, hc, hz, fresults, fresL, fres1, hn', hn]

theorem pairF_el (k c : Int) (rows : List Int) (v n w : Nat) : ∀ e ∈ pairF k c rows v n w, e.length = 2 := by
  by_cases h : w < n
  · rw [pairF_step h]
    intro e he
    rcases List.mem_append.mp he with h1 | h1
    · split at h1
      · simp at h1; rw [h1]; rfl
      · cases h1
    · exact pairF_el k c rows v n (w + 1) e h1
  · rw [pairF_end h]; intro e he; cases he
 termination_by n - w
theorem pairsF_el (k c : Int) (rows : List Int) (n v : Nat) : ∀ e ∈ pairsF k c rows n v, e.length = 2 := by
  by_cases h : v < n
  · rw [pairsF_step h]
    intro e he
    rcases List.mem_append.mp he with h1 | h1
    · exact pairF_el k c rows v n (v + 1) e h1
    · exact pairsF_el k c rows n (v + 1) e h1
  · rw [pairsF_end h]; intro e he; cases he
 termination_by n - v
end Go.Proofs.YtghondlbkjponaaDoor.Zv

/- The law of IsFull. -/
namespace Go.Proofs.YtghondlbkjponaaDoor.Zv
open Go
variable {nro : Nat}

theorem pairF_nil {k c : Int} {rows : List Int} {v n : Nat} (w : Nat) : pairF k c rows v n w = [] ↔ ¬ ∃ u, w ≤ u ∧ u < n ∧ mayB rows k c v u = true := by
  by_cases h : w < n
  · rw [pairF_step h, List.append_eq_nil_iff, pairF_nil (w + 1)]
    by_cases hm : mayB rows k c v w = true
    · rw [if_pos hm]
      simp
      exact ⟨w, Nat.le_refl _, h, hm⟩
    · rw [if_neg hm]
      simp only [true_and]
      constructor
      · rintro h1 ⟨u, h2, h3, h4⟩
        by_cases e : u = w
        · subst e; exact hm h4
        · exact h1 ⟨u, by omega, h3, h4⟩
      · rintro h1 ⟨u, h2, h3, h4⟩; exact h1 ⟨u, by omega, h3, h4⟩
  · rw [pairF_end h]
    simp only [true_iff]
    rintro ⟨u, h1, h2, _⟩
    omega
 termination_by n - w
theorem pairsF_nil {k c : Int} {rows : List Int} {n : Nat} (v : Nat) : pairsF k c rows n v = [] ↔ ¬ ∃ x, v ≤ x ∧ x < n ∧ ∃ u, x + 1 ≤ u ∧ u < n ∧ mayB rows k c x u = true := by
  by_cases h : v < n
  · rw [pairsF_step h, List.append_eq_nil_iff, pairsF_nil (v + 1), pairF_nil]
    constructor
    · rintro ⟨h1, h2⟩ ⟨x, h3, h4, h5⟩
      by_cases e : x = v
      · subst e; exact h1 h5
      · exact h2 ⟨x, by omega, h4, h5⟩
    · intro h1
      exact ⟨fun h2 => h1 ⟨v, Nat.le_refl _, h, h2⟩, fun ⟨x, h3, h4, h5⟩ => h1 ⟨x, by omega, h4, h5⟩⟩
  · rw [pairsF_end h]
    simp only [true_iff]
    rintro ⟨x, h1, h2, _⟩
    omega
 termination_by n - v

open Classical in
theorem l_spec_IsFull_1 (h : VH) (n : Nat) (k c : Int) (s : Value) (rows : List Int) (hs : Sli h s rows) (R : Rok n rows) (v : Nat) (hv : v < n) (w : Nat) (hvw : v < w) :
    floop (vcall F nro) nro [1, 2, 3, 9, 10] i_spec_IsFull_B1 (bx h n s) [.int .i64 k, .int .i64 c, bp h, .int .i64 v, .int .i64 w] (bx h n s) =
      if ∃ u, w ≤ u ∧ u < n ∧ mayB rows k c v u = true then some (.ret, fl [(6, .bool false), (7, .int .i64 0)], bx h n s) else some (.exit 2, fl [(1, .int .i64 k), (2, .int .i64 c), (3, bp h), (9, .int .i64 v)], bx h n s) := by
  have hsc := fun k => hs.oldCk (k := k)
  have hle := R.le
  rw [floop_at i_spec_IsFull_B1.eq_1]
  by_cases hlt : w < n
  · have hlt' : (w : Int) < n := by omega
    have hc := c_spec_l07May (nro := nro) n v w k c s rows (bx h n s) (hs.app _) R hv hlt (by omega)
    by_cases hb : mayB rows k c v w = true
    · rw [if_pos ⟨w, Nat.le_refl _, hlt, hb⟩]
      rw [hb] at hc
      simp (disch := first | assumption | omega | (simp [*] <;> omega) | fail) [hlt', hlt, hc]
    · have hb' : mayB rows k c v w = false := by simpa using hb
      have ih := l_spec_IsFull_1 h n k c s rows hs R v hv (w + 1) (by omega)
      rw [show ((w + 1 : Nat) : Int) = (w : Int) + 1 by omega] at ih
      have e : (∃ u, w ≤ u ∧ u < n ∧ mayB rows k c v u = true) ↔ ∃ u, w + 1 ≤ u ∧ u < n ∧ mayB rows k c v u = true := by
        constructor
        · rintro ⟨u, h1, h2, h3⟩
          by_cases e : u = w
          · subst e; exact absurd h3 hb
          · exact ⟨u, by omega, h2, h3⟩
        · rintro ⟨u, h1, h2, h3⟩; exact ⟨u, by omega, h2, h3⟩
      simp only [e]
      rw [hb'] at hc
      obtain ⟨r, hr⟩ : ∃ r, r = (if ∃ u, w + 1 ≤ u ∧ u < n ∧ mayB rows k c v u = true then some (VX.ret, fl [(6, .bool false), (7, .int .i64 0)], bx h n s) else some (.exit 2, fl [(1, .int .i64 k), (2, .int .i64 c), (3, bp h), (9, .int .i64 v)], bx h n s)) := ⟨_, rfl⟩
      rw [← hr] at ih ⊢
      clear hr e
      simp (disch := first | assumption | omega | (simp [*] <;> omega) | fail) [wrap64, hlt', hlt, hc, ih, hsc]
  · have hlt' : ¬ (w : Int) < n := by omega
    rw [if_neg (by rintro ⟨u, h1, h2, _⟩; omega)]
    simp (disch := first | assumption | omega | (simp [*] <;> omega) | fail) [hlt', hlt]
 termination_by n - w

open Classical in
theorem l_spec_IsFull_2 (h : VH) (n : Nat) (k c : Int) (s : Value) (rows : List Int) (hs : Sli h s rows) (R : Rok n rows) (v : Nat) :
    floop (vcall F nro) nro [1, 2, 3, 9] i_spec_IsFull_B2 (bx h n s) [.int .i64 k, .int .i64 c, bp h, .int .i64 v] (bx h n s) =
      if ∃ x, v ≤ x ∧ x < n ∧ ∃ u, x + 1 ≤ u ∧ u < n ∧ mayB rows k c x u = true then some (.ret, fl [(6, .bool false), (7, .int .i64 0)], bx h n s) else some (.exit 0, fl [], bx h n s) := by
  have hsc := fun k => hs.oldCk (k := k)
  have hle := R.le
  rw [floop_at i_spec_IsFull_B2.eq_1]
  by_cases hlt : v < n
  · have hlt' : (v : Int) < n := by omega
    have lp := l_spec_IsFull_1 (nro := nro) h n k c s rows hs R v hlt (v + 1) (by omega)
    rw [show ((v + 1 : Nat) : Int) = (v : Int) + 1 by omega] at lp
    by_cases hb : ∃ u, v + 1 ≤ u ∧ u < n ∧ mayB rows k c v u = true
    · rw [if_pos ⟨v, Nat.le_refl _, hlt, hb⟩]
      rw [if_pos hb] at lp
      simp (disch := first | assumption | omega | (simp [*] <;> omega) | fail) [wrap64, hlt', hlt, lp]
    · have ih := l_spec_IsFull_2 h n k c s rows hs R (v + 1)
      rw [show ((v + 1 : Nat) : Int) = (v : Int) + 1 by omega] at ih
      rw [if_neg hb] at lp
      have e : (∃ x, v ≤ x ∧ x < n ∧ ∃ u, x + 1 ≤ u ∧ u < n ∧ mayB rows k c x u = true) ↔ ∃ x, v + 1 ≤ x ∧ x < n ∧ ∃ u, x + 1 ≤ u ∧ u < n ∧ mayB rows k c x u = true := by
        constructor
        · rintro ⟨x, h1, h2, h3⟩
          by_cases e : x = v
          · subst e; exact absurd h3 hb
          · exact ⟨x, by omega, h2, h3⟩
        · rintro ⟨x, h1, h2, h3⟩; exact ⟨x, by omega, h2, h3⟩
      simp only [e]
      obtain ⟨r, hr⟩ : ∃ r, r = (if ∃ x, v + 1 ≤ x ∧ x < n ∧ ∃ u, x + 1 ≤ u ∧ u < n ∧ mayB rows k c x u = true then some (VX.ret, fl [(6, .bool false), (7, .int .i64 0)], bx h n s) else some (.exit 0, fl [], bx h n s)) := ⟨_, rfl⟩
      rw [← hr] at ih ⊢
      clear hr e hb
      simp (disch := first | assumption | omega | (simp [*] <;> omega) | fail) [wrap64, hlt', hlt, lp, ih, hsc]
  · have hlt' : ¬ (v : Int) < n := by omega
    rw [if_neg (by rintro ⟨u, h1, h2, _⟩; omega)]
    simp (disch := first | assumption | omega | (simp [*] <;> omega) | fail) [hlt', hlt]
 termination_by n - v

open Classical in
/-- Is the graph full? -/
noncomputable def fullA (n : Int) (rows : List Int) (k c : Int) : Bool := decide (fitC n rows k c = 0 ∧ pairsF k c rows n.toNat 0 = [])

theorem c_spec_IsFull (n k c : Int) (s : Value) (rows : List Int) (h : VH) (hs : Sli h s rows) (hn : nro ≤ h.length) :
    vcall F nro k_spec_IsFull [gv n s, .int .i64 k, .int .i64 c] h = some (.tuple #[.bool (fullA n rows k c), .int .i64 (fitC n rows k c)], h) := by
  refine v_spec_IsFull (by simp [i_spec_IsFull]) ?_
  rw [fbody_eq]
  have hc := c_spec_l07Given (nro := nro) n k c s rows (bx h n s) (hs.app _) (by simp; omega)
  unfold fullA
  by_cases hz : fitC n rows k c = 0
  · rw [hz] at hc ⊢
    have g := fitC_gv hz
    have hlo := g.lo
    obtain ⟨N, rfl⟩ : ∃ N : Nat, n = N := ⟨n.toNat, by omega⟩
    rw [Int.toNat_natCast]
    have lp := l_spec_IsFull_2 (nro := nro) h N k c s rows hs g.rok 0
    have e := pairsF_nil (k := k) (c := c) (rows := rows) (n := N) 0
    simp only [Int.natCast_zero] at lp
    by_cases hb : ∃ x, 0 ≤ x ∧ x < N ∧ ∃ u, x + 1 ≤ u ∧ u < N ∧ mayB rows k c x u = true
    · rw [if_pos hb] at lp
      have e2 : ¬ pairsF k c rows N 0 = [] := fun h => e.mp h hb
      clear hz hb e
      simp (disch := first | assumption | omega | (simp [*] <;> omega) | fail) [i_spec_IsFull, hc, lp, e2, fresults, fresL, fres1]
    · rw [if_neg hb] at lp
      have e2 : pairsF k c rows N 0 = [] := e.mpr hb
      clear hz hb e
      simp (disch := first | assumption | omega | (simp [*] <;> omega) | fail) [i_spec_IsFull, hc, lp, e2, fresults, fresL, fres1]
  · obtain ⟨x, hx⟩ : ∃ x, x = fitC n rows k c := ⟨_, rfl⟩
    rw [← hx] at hc hz ⊢
    clear hx
    simp (disch := first | assumption | omega | (simp [*] <;> omega) | fail) [i_spec_IsFull, hc, hz, fresults, fresL, fres1]

theorem c_impl_IsFull (n k c : Int) (s : Value) (rows : List Int) (h : VH) (hs : Sli h s rows) (hn : nro ≤ h.length) :
    vcall F nro k_impl_IsFull [gv n s, .int .i64 k, .int .i64 c] h = some (.tuple #[.bool (fullA n rows k c), .int .i64 (fitC n rows k c)], h) := by
  refine v_impl_IsFull (by simp [i_impl_IsFull]) ?_
  rw [fbody_eq]
  have hn' := fun k => Nat.le_trans hn (Nat.le_add_right h.length k)
  have hc := c_impl_fitCode (nro := nro) n k c s rows (bx h n s) (hs.app _) (by simp; omega)
  unfold fullA
  by_cases hz : fitC n rows k c = 0
  · rw [hz] at hc ⊢
    have g := fitC_gv hz
    have hlo := g.lo
    obtain ⟨N, rfl⟩ : ∃ N : Nat, n = N := ⟨n.toNat, by omega⟩
    rw [Int.toNat_natCast]
    have R := g.rok
    have hle := R.le
    obtain ⟨q, M, he, hS⟩ := c_impl_Graph_pairs (nro := nro) N k c s rows (bx h N s) (hs.app _) (by simp; omega) R
    obtain ⟨vs, r1, r2, _⟩ := hS.read (L := [])
    rw [List.append_nil] at r2
    have vl := r2.vlen
    rw [r1] at vl
    obtain ⟨es, hes⟩ : ∃ es, es = pairsF k c rows N 0 := ⟨_, rfl⟩
    rw [← hes] at vl ⊢
    have e0 : ((es.length : Int) = 0) ↔ es = [] := by
      rw [← List.length_eq_zero_iff]
      omega
    clear hS r1 r2 hes hz
    simp at he vl
    by_cases hb : es = []
    · subst hb
      simp at vl
      simp (disch := first | assumption | omega | (simp [*] <;> omega) | fail) [i_impl_IsFull, hc, he, vl, hn, hn', fresults, fresL, fres1]
    · have e1 : ¬ (es.length : Int) = 0 := fun h => hb (e0.mp h)
      simp (disch := first | assumption | omega | (simp [*] <;> omega) | fail) [i_impl_IsFull, hc, he, vl, hb, e1, hn, hn', fresults, fresL, fres1]
  · obtain ⟨x, hx⟩ : ∃ x, x = fitC n rows k c := ⟨_, rfl⟩
    rw [← hx] at hc hz ⊢
    clear hx
    simp (disch := first | assumption | omega | (simp [*] <;> omega) | fail) [i_impl_IsFull, hc, hz, hn, hn', fresults, fresL, fres1]

end Go.Proofs.YtghondlbkjponaaDoor.Zv

/- Filled graphs are full, and fit; what EdgesLeft answers. -/
namespace Go.Proofs.YtghondlbkjponaaDoor.Zv
open Go
open Classical

def Sub (r r' : List Int) : Prop := ∀ x y, rbit r x y = true → rbit r' x y = true
theorem Sub.rfl' (r : List Int) : Sub r r := fun _ _ h => h
theorem Sub.trans {a b c : List Int} (h1 : Sub a b) (h2 : Sub b c) : Sub a c := fun x y h => h2 x y (h1 x y h)
theorem sub_put {n : Nat} {r : List Int} (g : GV n r) {v w : Nat} (hv : v < n) (hw : w < n) : Sub r (put2 r v w) := fun x y h => (put_iff g hv hw x y).mpr (.inl h)
theorem deg_sub {n : Nat} {r r' : List Int} (R : Rok n r) (R' : Rok n r') (h : Sub r r') {v : Nat} (hv : v < n) : (deg r v : Int) ≤ deg r' v := by
  rw [deg_sum R hv, deg_sum R' hv]
  exact sumF_le (fun i _ => one_imp (h v i))
/-- What may not be joined may not be joined later. -/
theorem may_sub {n : Nat} {r r' : List Int} (R : Rok n r) (R' : Rok n r') (h : Sub r r') {k c : Int} {v w : Nat} (hv : v < n) (hw : w < n) (hm : mayB r k c v w = false) : mayB r' k c v w = false := by
  cases hb : mayB r' k c v w with
  | false => rfl
  | true =>
    obtain ⟨h1, h2, h3, h4⟩ := mayB_iff.mp hb
    have : mayB r k c v w = true := by
      rw [mayB_iff]
      refine ⟨?_, ?_, ?_, ?_⟩
      · cases hr : rbit r v w with
        | false => rfl
        | true => rw [h v w hr] at h1; cases h1
      · have := deg_sub R R' h hv; omega
      · have := deg_sub R R' h hw; omega
      · rcases far_dist R hv w with ⟨e1, _⟩ | ⟨d, e1, e2⟩
        · left; omega
        · right
          obtain ⟨e, e3, e4⟩ := Wk.dst d (Wk.mono h e2.1)
          have := far_of R' hv e4
          omega
    rw [this] at hm
    cases hm

section
variable {n : Nat} {k c : Int}
theorem fillR_ok {v : Nat} (hv : v < n) (w : Nat) (hvw : v < w) (hw : w ≤ n) (rows : List Int) (g : GV n rows) (hf : FitsP rows n k c) :
    GV n (fillR k c n v rows w) ∧ FitsP (fillR k c n v rows w) n k c ∧ Sub rows (fillR k c n v rows w) ∧ ∀ u, w ≤ u → u < n → mayB (fillR k c n v rows w) k c v u = false := by
  by_cases hlt : w < n
  · rw [fillR_step hlt]
    by_cases hm : mayB rows k c v w = true
    · rw [if_pos hm]
      have g2 := g.put2 hv hlt (by omega)
      obtain ⟨a1, a2, a3, a4⟩ := fillR_ok hv (w + 1) (by omega) (by omega) _ g2 (fits_put g hv hlt (by omega) hm hf)
      refine ⟨a1, a2, (sub_put g hv hlt).trans a3, ?_⟩
      intro u hu hun
      by_cases e : u = w
      · subst e
        have hb : rbit (put2 rows v u) v u = true := (put_iff g hv hlt v u).mpr (.inr (.inl ⟨rfl, rfl⟩))
        have hb2 := a3 v u hb
        cases hq : mayB (fillR k c n v (put2 rows v u) (u + 1)) k c v u with
        | false => rfl
        | true => have := (mayB_iff.mp hq).1; rw [hb2] at this; cases this
      · exact a4 u (by omega) hun
    · rw [if_neg hm]
      obtain ⟨a1, a2, a3, a4⟩ := fillR_ok hv (w + 1) (by omega) (by omega) _ g hf
      refine ⟨a1, a2, a3, ?_⟩
      intro u hu hun
      by_cases e : u = w
      · subst e
        exact may_sub g.rok a1.rok a3 hv hun (by simpa using hm)
      · exact a4 u (by omega) hun
  · rw [fillR_end hlt]
    exact ⟨g, hf, Sub.rfl' _, fun u h1 h2 => by omega⟩
 termination_by n - w
theorem fillA_ok (v : Nat) (rows : List Int) (g : GV n rows) (hf : FitsP rows n k c) :
    GV n (fillA k c n rows v) ∧ FitsP (fillA k c n rows v) n k c ∧ Sub rows (fillA k c n rows v) ∧ ∀ x, v ≤ x → x < n → ∀ u, x + 1 ≤ u → u < n → mayB (fillA k c n rows v) k c x u = false := by
  by_cases hlt : v < n
  · rw [fillA_step hlt]
    obtain ⟨a1, a2, a3, a4⟩ := fillR_ok (k := k) (c := c) hlt (v + 1) (by omega) (by omega) rows g hf
    obtain ⟨b1, b2, b3, b4⟩ := fillA_ok (v + 1) _ a1 a2
    refine ⟨b1, b2, a3.trans b3, ?_⟩
    intro x hx hxn u hu hun
    by_cases e : x = v
    · subst e
      exact may_sub a1.rok b1.rok b3 hxn hun (a4 u hu hun)
    · exact b4 x (by omega) hxn u hu hun
  · rw [fillA_end hlt]
    exact ⟨g, hf, Sub.rfl' _, fun x h1 h2 => by omega⟩
 termination_by n - v
theorem fillA_full (rows : List Int) (g : GV n rows) (hf : FitsP rows n k c) : pairsF k c (fillA k c n rows 0) n 0 = [] := by
  rw [pairsF_nil]
  rintro ⟨x, h1, h2, u, h3, h4, h5⟩
  rw [(fillA_ok 0 rows g hf).2.2.2 x h1 h2 u h3 h4] at h5
  cases h5
theorem zero_fits (hk : 1 ≤ k) : FitsP (List.replicate n 0) n k c := by
  have e : ∀ v, (List.replicate n (0 : Int)).getD v 0 = 0 := by
    intro v
    rw [List.getD_eq_getElem?_getD]
    by_cases h : v < n
    · simp [h]
    · simp [h]
  refine ⟨?_, ?_⟩
  · intro v _
    unfold deg
    rw [e v]
    have : pc (0 : Int).toNat = 0 := by show pc 0 = 0; rw [pc]; rfl
    rw [this]; omega
  · intro u w h
    unfold rbit at h
    rw [e u] at h
    simp at h
end

theorem pairF_mem (k c : Int) (rows : List Int) (v n w : Nat) (e : List Int) : e ∈ pairF k c rows v n w → ∃ u : Nat, w ≤ u ∧ u < n ∧ mayB rows k c v u = true ∧ e = [(v : Int), (u : Int)] := by
  by_cases h : w < n
  · rw [pairF_step h, List.mem_append]
    rintro (h1 | h1)
    · by_cases hb : mayB rows k c v w = true
      · rw [if_pos hb, List.mem_singleton] at h1
        exact ⟨w, Nat.le_refl _, h, hb, h1⟩
      · rw [if_neg hb] at h1; cases h1
    · obtain ⟨u, a1, a2, a3, a4⟩ := pairF_mem k c rows v n (w + 1) e h1
      exact ⟨u, by omega, a2, a3, a4⟩
  · rw [pairF_end h]; intro h; cases h
 termination_by n - w
theorem pairsF_mem (k c : Int) (rows : List Int) (n v : Nat) (e : List Int) : e ∈ pairsF k c rows n v → ∃ x u : Nat, x < u ∧ u < n ∧ mayB rows k c x u = true ∧ e = [(x : Int), (u : Int)] := by
  by_cases h : v < n
  · rw [pairsF_step h, List.mem_append]
    rintro (h1 | h1)
    · obtain ⟨u, a1, a2, a3, a4⟩ := pairF_mem k c rows v n _ e h1
      exact ⟨v, u, by omega, a2, a3, a4⟩
    · exact pairsF_mem k c rows n (v + 1) e h1
  · rw [pairsF_end h]; intro h; cases h
 termination_by n - v

/-! ### EdgesLeft -/
/-- The places left. -/
def elS (rows : List Int) (k : Int) (n : Nat) : Int := sumF (fun v => k - (deg rows v : Int)) n
noncomputable def elA (n : Int) (rows : List Int) (k : Int) : Int × Int :=
  if ¬ GV n rows then (0, 1) else if ¬ (1 ≤ k ∧ k ≤ 6) then (0, 2) else if ∃ v, v < n.toNat ∧ k < (deg rows v : Int) then (0, 5) else ((elS rows k n.toNat).tdiv 2, 0)
theorem elS_rng {rows : List Int} {k : Int} (h2 : 1 ≤ k ∧ k ≤ 6) : ∀ (n : Nat), (∀ v, v < n → (deg rows v : Int) ≤ k) → 0 ≤ elS rows k n ∧ elS rows k n ≤ 6 * n
  | 0, _ => by simp [elS, sumF]
  | n + 1, h => by
    have h1 := elS_rng (rows := rows) h2 n (fun v hv => h v (by omega))
    have h3 := h n (by omega)
    unfold elS at h1 ⊢
    rw [sumF]
    omega
theorem elA_fill {n : Nat} {rows : List Int} {k c : Int} (g : GV n rows) (hf : FitsP rows n k c) (hk : 1 ≤ k ∧ k ≤ 6) : (elA n rows k).2 = 0 ∧ (elA n (fillA k c n rows 0) k).2 = 0 ∧ (elA n (fillA k c n rows 0) k).1 ≤ (elA n rows k).1 := by
  obtain ⟨a1, a2, a3, _⟩ := fillA_ok (k := k) (c := c) 0 rows g hf
  have z1 : ¬ ¬ GV n rows := fun h => h g
  have z2 : ¬ ¬ GV n (fillA k c n rows 0) := fun h => h a1
  have z3 : ¬ ¬ (1 ≤ k ∧ k ≤ 6) := fun h => h hk
  have z4 : ¬ ∃ v, v < n ∧ k < (deg rows v : Int) := by
    rintro ⟨v, h1, h2⟩
    have := hf.1 v h1
    omega
  have z5 : ¬ ∃ v, v < n ∧ k < (deg (fillA k c n rows 0) v : Int) := by
    rintro ⟨v, h1, h2⟩
    have := a2.1 v h1
    omega
  unfold elA
  rw [Int.toNat_natCast, if_neg z1, if_neg z3, if_neg z4, if_neg z2, if_neg z3, if_neg z5]
  refine ⟨rfl, rfl, ?_⟩
  have h1 : elS (fillA k c n rows 0) k n ≤ elS rows k n := by
    unfold elS
    apply sumF_le
    intro v hv
    have := deg_sub g.rok a1.rok a3 hv
    omega
  have h2 := (elS_rng (rows := fillA k c n rows 0) hk n (fun v hv => a2.1 v hv)).1
  show (elS (fillA k c n rows 0) k n).tdiv 2 ≤ (elS rows k n).tdiv 2
  rw [Int.tdiv_eq_ediv_of_nonneg h2, Int.tdiv_eq_ediv_of_nonneg (by omega)]
  omega
/-- Graphs that fit have girths as told. -/
theorem fits_girth {n : Nat} {rows : List Int} {k c : Int} (g : GV n rows) (hf : FitsP rows n k c) (hc : 1 ≤ c) (h : (giA n rows).2 = 0) : ¬ (giA n rows).1 < c := by
  unfold giA at h ⊢
  have z1 : ¬ ¬ GV n rows := fun h => h g
  rw [if_neg z1, Int.toNat_natCast] at h ⊢
  by_cases e : girF rows n 0 0 = 0
  · rw [if_pos e] at h; simp at h
  · rw [if_neg e]
    have := (gir_min g c hc).mpr hf.2
    show ¬ girF rows n 0 0 < c
    omega
/-- The rows of a subgraph. -/
theorem row_sub {n : Nat} {r r' : List Int} (R : Rok n r) (R' : Rok n r') (h : Sub r r') {v : Nat} (hv : v < n) : iand .i64 (r'.getD v 0) (r.getD v 0) = r.getD v 0 := by
  obtain ⟨a1, a2⟩ := R.row v hv
  obtain ⟨b1, b2⟩ := R'.row v hv
  have a3 := le62 R.le a2
  have b3 := le62 R.le b2
  obtain ⟨x, hx⟩ : ∃ x : Nat, r.getD v 0 = x := ⟨(r.getD v 0).toNat, by omega⟩
  obtain ⟨y, hy⟩ : ∃ y : Nat, r'.getD v 0 = y := ⟨(r'.getD v 0).toNat, by omega⟩
  have hs : ∀ j, x.testBit j = true → y.testBit j = true := by
    intro j hj
    have := h v j
    unfold rbit at this
    rw [hx, hy] at this
    exact this hj
  rw [hx] at a3 ⊢
  rw [hy] at b3 ⊢
  rw [Int.toNat_natCast] at a3 b3
  rw [iand_nat (by omega) (by omega)]
  have : y &&& x = x := by
    apply Nat.eq_of_testBit_eq
    intro j
    rw [Nat.testBit_and]
    cases hb : x.testBit j with
    | false => simp
    | true => rw [hs j hb]; rfl
  rw [this]
end Go.Proofs.YtghondlbkjponaaDoor.Zv

/- Parts: all vertices to which there is a way; connected graphs. -/
namespace Go.Proofs.YtghondlbkjponaaDoor.Zv
open Go
variable {nro : Nat}

/-- All that is met. -/
def pt (rows : List Int) (met f : Nat) : Nat :=
  if f = 0 then met else if h : met < (met ||| nxt rows f) ∧ (met ||| nxt rows f) < 2 ^ 62 then pt rows (met ||| nxt rows f) (nand (nxt rows f) met) else met
 termination_by 2 ^ 62 - met
 decreasing_by omega
/-- The part of a vertex. -/
def part (rows : List Int) (v : Nat) : Nat := pt rows (2 ^ v) (2 ^ v)
end Go.Proofs.YtghondlbkjponaaDoor.Zv

/- The program's lists of edges and parts. -/
namespace Go.Proofs.YtghondlbkjponaaDoor.Zv
open Go
variable {nro : Nat}

/-! ### edges -/
/-! ### parts -/
/-- The least number of a set. -/
def low (x : Nat) : Nat := ((bitL x).getD 0 0).toNat
end Go.Proofs.YtghondlbkjponaaDoor.Zv

/- Bipartite graphs, graphs at a distance, halves. -/
namespace Go.Proofs.YtghondlbkjponaaDoor.Zv
open Go
variable {nro : Nat}

/-! ### bipartite graphs -/
/-- Does an edge join vertices of one distance from p? -/
def badE (rows : List Int) (p : Nat) (e : List Int) : Prop := ∃ u w : Nat, e = [(u : Int), (w : Int)] ∧ 0 ≤ far rows p u ∧ far rows p u = far rows p w
theorem getD_list {ess : List (List Int)} {i : Nat} (hi : i < ess.length) : ess.getD i [] = ess[i] := by
  rw [List.getD_eq_getElem?_getD, List.getElem?_eq_getElem hi]; rfl

/-! ### graphs at a distance -/
/-! ### the reference -/
end Go.Proofs.YtghondlbkjponaaDoor.Zv

/- Regular graphs: degrees' least and greatest; lists alike; a cage graph fits. -/
namespace Go.Proofs.YtghondlbkjponaaDoor.Zv
open Go
variable {nro : Nat}

theorem l_laws_likeInts (s t : Value) (xs ys : List Int) (h : VH) (hs : Sli h s xs) (ht : Sli h t ys) (h3 : xs.length ≤ 9223372036854775806) (hl : xs.length = ys.length) :
    floop (vcall F nro) nro [0, 1, 5] i_laws_likeInts_B1 h [s, t, .int .i64 0] h = if xs = ys then some (.exit 0, fl [], h) else some (.ret, fl [(4, .bool false)], h) := by
  have key := search (fun i => floop (vcall F nro) nro [0, 1, 5] i_laws_likeInts_B1 h [s, t, .int .i64 i] h) (fun i => xs.getD i.toNat 0 ≠ ys.getD i.toNat 0) (some (.ret, fl [(4, .bool false)], h)) (some (.exit 0, fl [], h)) xs.length 0 ?_ ?_ 0 (by omega)
  · rw [key]
    by_cases e : xs = ys
    · rw [if_pos e, if_neg]
      rintro ⟨j, _, _, hj⟩
      exact hj (by rw [e])
    · rw [if_neg e, if_pos]
      apply Classical.byContradiction
      intro hno
      apply e
      apply List.ext_getElem hl
      intro k h1 h2
      apply Classical.byContradiction
      intro hne
      exact hno ⟨k, by omega, by omega, by simpa [h1, h2] using hne⟩
  · intro i h0 hi
    have hso := hs.old
    have hto := ht.old
    have e1 : xs.getD i.toNat 0 = xs[i.toNat]'(by omega) := getD_at _ (by omega)
    have e2 : ys.getD i.toNat 0 = ys[i.toNat]'(by omega) := getD_at _ (by omega)
    rw [e1, e2, floop_at i_laws_likeInts_B1.eq_1]
    constructor <;> intro hb <;> simp (disch := first | assumption | omega | (simp [*] <;> omega) | fail) [hs.vlen, hs.vidx, hs.vload, ht.vlen, ht.vidx, ht.vload, wrap64, hi, hb]
  · intro i h0 hi
    rw [floop_at i_laws_likeInts_B1.eq_1]
    simp (disch := first | assumption | omega | (simp [*] <;> omega) | fail) [hs.vlen, hi]

theorem c_laws_likeInts (s t : Value) (xs ys : List Int) (h : VH) (hs : Sli h s xs) (ht : Sli h t ys) (h3 : xs.length ≤ 9223372036854775806) :
    vcall F nro k_laws_likeInts [s, t] h = some (.bool (decide (xs = ys)), h) := by
  refine v_laws_likeInts (by simp [i_laws_likeInts]) ?_
  rw [fbody_eq]
  by_cases hl : xs.length = ys.length
  · simp (disch := first | assumption | omega | (simp [*] <;> omega) | fail) [i_laws_likeInts, hs.vlen, ht.vlen, hl, l_laws_likeInts s t xs ys h hs ht h3 hl]
    by_cases e : xs = ys <;> simp [e]
  · have hl' : ¬ (xs.length : Int) = ys.length := by omega
    have : xs ≠ ys := fun e => hl (by rw [e])
    simp (disch := first | assumption | omega | (simp [*] <;> omega) | fail) [i_laws_likeInts, hs.vlen, ht.vlen, hl', this]


theorem c_laws_graphs5 (n m : Int) (s t : Value) (xs ys : List Int) (h : VH) (hs : Sli h s xs) (ht : Sli h t ys) (h3 : xs.length ≤ 9223372036854775806) :
    vcall F nro k_laws_graphs5 [gv n s, gv m t] h = some (.bool (decide (n = m ∧ xs = ys)), h) := by
  refine v_laws_graphs5 (by simp [i_laws_graphs5]) ?_
  rw [fbody_eq]
  have hc := c_laws_likeInts (nro := nro) s t xs ys (h ++ [⟨0, [.int .i64 n, s]⟩, ⟨0, [.int .i64 m, t]⟩]) (hs.app _) (ht.app _) h3
  by_cases e1 : n = m
  · subst e1
    simp (disch := first | assumption | omega | (simp [*] <;> omega) | fail) [i_laws_graphs5, hc]
  · simp (disch := first | assumption | omega | (simp [*] <;> omega) | fail) [i_laws_graphs5, hc, e1]
end Go.Proofs.YtghondlbkjponaaDoor.Zv

/- FitsBoth, EdgesLeft, rows5, l07May at one vertex. -/
namespace Go.Proofs.YtghondlbkjponaaDoor.Zv
open Go
open Classical
variable {nro : Nat}

noncomputable def fbA (n : Int) (rows : List Int) (k c : Int) : Bool × Int := if ¬ GV n rows then (false, 1) else if ¬ kcB k c = true then (false, 2) else (decide (FitsP rows n.toNat k c), 0)
theorem kcB_rng {k c : Int} (h : kcB k c = true) : (1 ≤ k ∧ k ≤ 6) ∧ 3 ≤ c ∧ c ≤ 12 := by
  unfold kcB at h
  simpa using h
theorem c_spec_FitsBoth (n k c : Int) (s : Value) (rows : List Int) (h : VH) (hs : Sli h s rows) (hn : nro ≤ h.length) :
    vcall F nro k_spec_FitsBoth [gv n s, .int .i64 k, .int .i64 c] h = some (.tuple #[.bool (fbA n rows k c).1, .int .i64 (fbA n rows k c).2], h) := by
  refine v_spec_FitsBoth (by simp [i_spec_FitsBoth]) ?_
  rw [fbody_eq]
  have hn' := fun k => Nat.le_trans hn (Nat.le_add_right h.length k)
  have hso := fun k => hs.oldCk (k := k)
  have hi := c_spec_l01Is (nro := nro) n s rows (bx h n s) (hs.app _)
  have hk := c_spec_l07Numbers (nro := nro) k c (bx h n s)
  unfold fbA
  by_cases g : GV n rows
  · have z : ¬ ¬ GV n rows := fun h => h g
    rw [if_neg z]
    rw [decide_eq_true g] at hi
    cases hb : kcB k c with
    | false =>
      rw [hb] at hk
      clear g z
      simp (disch := first | assumption | omega | (simp [*] <;> omega) | fail) [i_spec_FitsBoth, hi, hk, hn', hso]
    | true =>
      have hlo := g.lo
      obtain ⟨N, rfl⟩ : ∃ N : Nat, n = N := ⟨n.toNat, by omega⟩
      have hf := c_spec_l07Fits (nro := nro) N k c s rows (bx h N s) (hs.app _) g (by simp; omega)
      rw [hb] at hk
      rw [Int.toNat_natCast]
      obtain ⟨b, hb2⟩ : ∃ b, b = decide (FitsP rows N k c) := ⟨_, rfl⟩
      simp only [← hb2] at hf ⊢
      clear g z hb2
      simp (disch := first | assumption | omega | (simp [*] <;> omega) | fail) [i_spec_FitsBoth, hi, hk, hf, hn', hso]
  · rw [if_pos g]
    rw [decide_eq_false g] at hi
    clear g
    simp (disch := first | assumption | omega | (simp [*] <;> omega) | fail) [i_spec_FitsBoth, hi, hn', hso]

theorem c_impl_FitsBoth (n k c : Int) (s : Value) (rows : List Int) (h : VH) (hs : Sli h s rows) (hn : nro ≤ h.length) :
    vcall F nro k_impl_FitsBoth [gv n s, .int .i64 k, .int .i64 c] h = some (.tuple #[.bool (fbA n rows k c).1, .int .i64 (fbA n rows k c).2], h) := by
  refine v_impl_FitsBoth (by simp [i_impl_FitsBoth]) ?_
  rw [fbody_eq]
  have hn' := fun k => Nat.le_trans hn (Nat.le_add_right h.length k)
  have hso := fun k => hs.oldCk (k := k)
  have hk := c_impl_bothCode (nro := nro) n k c s rows (bx h n s) (hs.app _)
  unfold fbA
  by_cases g : GV n rows
  · have z : ¬ ¬ GV n rows := fun h => h g
    rw [if_neg z]
    rw [if_pos g] at hk
    cases hb : kcB k c with
    | false =>
      rw [hb] at hk
      clear g z
      simp (disch := first | assumption | omega | (simp [*] <;> omega) | fail) [i_impl_FitsBoth, hk, hn', hso]
    | true =>
      have hlo := g.lo
      have hkc := kcB_rng hb
      obtain ⟨N, rfl⟩ : ∃ N : Nat, n = N := ⟨n.toNat, by omega⟩
      have hf := c_impl_Graph_fits (nro := nro) N k c s rows (bx h N s) (hs.app _) g (by omega) (by simp; omega)
      rw [hb] at hk
      rw [Int.toNat_natCast]
      obtain ⟨b, hb2⟩ : ∃ b, b = decide (FitsP rows N k c) := ⟨_, rfl⟩
      simp only [← hb2] at hf ⊢
      clear g z hb2
      simp (disch := first | assumption | omega | (simp [*] <;> omega) | fail) [i_impl_FitsBoth, hk, hf, hn', hso]
  · rw [if_pos g]
    rw [if_neg g] at hk
    clear g
    simp (disch := first | assumption | omega | (simp [*] <;> omega) | fail) [i_impl_FitsBoth, hk, hn', hso]

/-! ### EdgesLeft -/
def elE (rows : List Int) (k : Int) (v : Nat) (x : Int) : Int ⊕ Unit := if k < (deg rows v : Int) then .inr () else .inl (x + (k - (deg rows v : Int)))
theorem elE_ok {rows : List Int} {k : Int} (n : Nat) : ∀ (j v : Nat) (x : Int), v + j = n → x = elS rows k v → upE (elE rows k) n v x = if ∃ u, v ≤ u ∧ u < n ∧ k < (deg rows u : Int) then .inr () else .inl (elS rows k n)
  | 0, v, x, hv, hx => by
    rw [upE_end (by omega), if_neg (by rintro ⟨u, h1, h2, _⟩; omega)]
    have : v = n := by omega
    rw [hx, this]
  | j + 1, v, x, hv, hx => by
    by_cases c : k < (deg rows v : Int)
    · rw [upE_inr (b := ()) (by omega) (by unfold elE; rw [if_pos c]), if_pos ⟨v, by omega, by omega, c⟩]
    · rw [upE_inl (a' := x + (k - (deg rows v : Int))) (by omega) (by unfold elE; rw [if_neg c])]
      rw [elE_ok n j (v + 1) _ (by omega) (by unfold elS at hx ⊢; rw [sumF, hx])]
      have e : (∃ u, v + 1 ≤ u ∧ u < n ∧ k < (deg rows u : Int)) ↔ ∃ u, v ≤ u ∧ u < n ∧ k < (deg rows u : Int) := by
        constructor
        · rintro ⟨u, h1, h2, h3⟩; exact ⟨u, by omega, h2, h3⟩
        · rintro ⟨u, h1, h2, h3⟩
          refine ⟨u, ?_, h2, h3⟩
          have : u ≠ v := fun e => c (e ▸ h3)
          omega
      simp only [e]
theorem deg_le62 {n : Nat} {rows : List Int} (R : Rok n rows) {v : Nat} (hv : v < n) : (deg rows v : Int) ≤ 62 := by
  have hle := R.le
  rw [deg_sum R hv]
  have : sumF (fun w => oneIf (rbit rows v w = true)) n ≤ sumF (fun _ => 1) n := sumF_le (fun i _ => one_le _)
  have e : ∀ k : Nat, sumF (fun _ => (1 : Int)) k = k := by
    intro k; induction k with
    | zero => rfl
    | succ k ih => rw [sumF, ih]; omega
  rw [e] at this
  omega
theorem l_spec_EdgesLeft (h : VH) (n : Nat) (k : Int) (s : Value) (rows : List Int) (hs : Sli h s rows) (R : Rok n rows) (hk : 1 ≤ k ∧ k ≤ 6) (hn : nro ≤ h.length) :
    floop (vcall F nro) nro [1, 2, 6, 7] i_spec_EdgesLeft_B1 (bx h n s) [.int .i64 k, bp h, .int .i64 0, .int .i64 0] (bx h n s) =
      if ∃ u, u < n ∧ k < (deg rows u : Int) then some (.ret, fl [(4, .int .i64 0), (5, .int .i64 5)], bx h n s) else some (.exit 1, fl [(6, .int .i64 (elS rows k n))], bx h n s) := by
  have hn' := fun k => Nat.le_trans hn (Nat.le_add_right h.length k)
  have hso := fun k => hs.oldCk (k := k)
  have hle := R.le
  have key := for_upE (call := vcall F nro) (nro := nro) (live := [1, 2, 6, 7]) (c := i_spec_EdgesLeft_B1) (h0 := bx h n s) (n := n) (fun v (x : Int) => [.int .i64 k, bp h, .int .i64 x, .int .i64 v]) (fun _ _ => bx h n s) (elE rows k) (fun v x => 0 ≤ x + 62 * v ∧ x ≤ 6 * v)
    (fun r => match r with | .inl x => some (.exit 1, fl [(6, .int .i64 x)], bx h n s) | .inr _ => some (.ret, fl [(4, .int .i64 0), (5, .int .i64 5)], bx h n s)) ?_ ?_ 0 (0 : Int) (Nat.zero_le _) (by omega)
  · have e := elE_ok (rows := rows) (k := k) n n 0 0 (by omega) rfl
    have e2 : (∃ u, 0 ≤ u ∧ u < n ∧ k < (deg rows u : Int)) ↔ ∃ u, u < n ∧ k < (deg rows u : Int) := ⟨fun ⟨u, _, b, c⟩ => ⟨u, b, c⟩, fun ⟨u, b, c⟩ => ⟨u, Nat.zero_le _, b, c⟩⟩
    simp only [e2] at e
    have k1 := key.1
    rw [e] at k1
    by_cases c : ∃ u, u < n ∧ k < (deg rows u : Int)
    · rw [if_pos c] at k1 ⊢; exact k1
    · rw [if_neg c] at k1 ⊢; exact k1
  · intro v x hv hv2 hx
    have hd := c_spec_l01Degree (nro := nro) n v s rows (bx h n s) (hs.app _) R hv
    have hdl := deg_le62 R hv
    unfold elE
    obtain ⟨d, hd2⟩ : ∃ d, d = deg rows v := ⟨_, rfl⟩
    rw [← hd2] at hd hdl ⊢
    clear hd2
    by_cases c : k < (d : Int)
    · right
      refine ⟨(), by rw [if_pos c], ?_⟩
      rw [floop_at i_spec_EdgesLeft_B1.eq_1]
      simp (disch := first | assumption | omega | (simp [*] <;> omega) | fail) [hv, hv2, hd, c, hn', hso]
    · left
      refine ⟨x + (k - (d : Int)), by rw [if_neg c], by omega, ?_⟩
      have w1 : IntKind.i64.wrap (x + k) = x + k := wrap64 (by omega) (by omega)
      have w2 : IntKind.i64.wrap (x + k - (d : Int)) = x + (k - (d : Int)) := by rw [show x + k - (d : Int) = x + (k - (d : Int)) by omega]; exact wrap64 (by omega) (by omega)
      have w3 : IntKind.i64.wrap ((v : Int) + 1) = (v : Int) + 1 := wrap64 (by omega) (by omega)
      rw [floop_at i_spec_EdgesLeft_B1.eq_1]
      simp (disch := first | assumption | omega | (simp [*] <;> omega) | fail) [hv, hv2, hd, c, w1, w2, w3, hn', hso]
  · intro x _
    rw [floop_at i_spec_EdgesLeft_B1.eq_1]
    simp (disch := first | assumption | omega | (simp [*] <;> omega) | fail) [hn', hso]
theorem c_spec_EdgesLeft (n k : Int) (s : Value) (rows : List Int) (h : VH) (hs : Sli h s rows) (hn : nro ≤ h.length) :
    vcall F nro k_spec_EdgesLeft [gv n s, .int .i64 k] h = some (.tuple #[.int .i64 (elA n rows k).1, .int .i64 (elA n rows k).2], h) := by
  refine v_spec_EdgesLeft (by simp [i_spec_EdgesLeft]) ?_
  rw [fbody_eq]
  have hn' := fun k => Nat.le_trans hn (Nat.le_add_right h.length k)
  have hso := fun k => hs.oldCk (k := k)
  have hi := c_spec_l01Is (nro := nro) n s rows (bx h n s) (hs.app _)
  have hk := c_spec_l01In (nro := nro) k 1 6 (bx h n s)
  unfold elA
  by_cases g : GV n rows
  · have z : ¬ ¬ GV n rows := fun h => h g
    rw [if_neg z]
    rw [decide_eq_true g] at hi
    have hlo := g.lo
    have hhi := g.hi
    obtain ⟨N, rfl⟩ : ∃ N : Nat, n = N := ⟨n.toNat, by omega⟩
    rw [Int.toNat_natCast]
    by_cases hkr : 1 ≤ k ∧ k ≤ 6
    · have z3 : ¬ ¬ (1 ≤ k ∧ k ≤ 6) := fun h => h hkr
      rw [if_neg z3]
      have l1 := l_spec_EdgesLeft (nro := nro) h N k s rows hs g.rok hkr hn
      by_cases c : ∃ u, u < N ∧ k < (deg rows u : Int)
      · rw [if_pos c] at l1 ⊢
        clear g z z3 c
        simp (disch := first | assumption | omega | (simp [*] <;> omega) | fail) [i_spec_EdgesLeft, hi, hk, hkr, l1, hn', hso]
      · rw [if_neg c] at l1 ⊢
        have r1 := elS_rng (rows := rows) hkr N (fun v hv => by
          have : ¬ k < (deg rows v : Int) := fun h => c ⟨v, hv, h⟩
          omega)
        obtain ⟨x, hx⟩ : ∃ x, x = elS rows k N := ⟨_, rfl⟩
        rw [← hx] at l1 r1 ⊢
        have w1 : IntKind.i64.wrap (x.tdiv 2) = x.tdiv 2 := by
          rw [Int.tdiv_eq_ediv_of_nonneg r1.1]; exact wrap64 (by omega) (by omega)
        obtain ⟨y, hy⟩ : ∃ y, y = x.tdiv 2 := ⟨_, rfl⟩
        rw [← hy] at w1 ⊢
        clear g z z3 c hx r1
        simp (disch := first | assumption | omega | (simp [*] <;> omega) | fail) [i_spec_EdgesLeft, hi, hk, hkr, l1, hy.symm, w1, hn', hso]
    · rw [if_pos hkr]
      have : decide (1 ≤ k ∧ k ≤ 6) = false := decide_eq_false hkr
      clear g z
      by_cases k1 : 1 ≤ k
      · have k2 : ¬ k ≤ 6 := fun h => hkr ⟨k1, h⟩
        clear hkr
        simp (disch := first | assumption | omega | (simp [*] <;> omega) | fail) [i_spec_EdgesLeft, hi, hk, k1, k2, hn', hso]
      · clear hkr
        simp (disch := first | assumption | omega | (simp [*] <;> omega) | fail) [i_spec_EdgesLeft, hi, hk, k1, hn', hso]
  · rw [if_pos g]
    rw [decide_eq_false g] at hi
    clear g
    simp (disch := first | assumption | omega | (simp [*] <;> omega) | fail) [i_spec_EdgesLeft, hi, hn', hso]

theorem degF_get {rows : List Int} {n : Nat} : ∀ (j v : Nat), v + j < n → (degF rows n v).getD j 0 = (deg rows (v + j) : Int)
  | 0, v, h => by rw [degF_step (by omega)]; simp
  | j + 1, v, h => by
    rw [degF_step (by omega), List.getD_cons_succ, degF_get j (v + 1) (by omega)]
    congr 2; omega
theorem l_impl_EdgesLeft (H : VH) (n : Nat) (k : Int) (q : Value) (rows : List Int) (R : Rok n rows) (hq : Sli H q (degF rows n 0)) (hk : 1 ≤ k ∧ k ≤ 6) (hn : nro ≤ H.length) :
    floop (vcall F nro) nro [1, 6, 21, 22, 23] i_impl_EdgesLeft_B1 H [.int .i64 k, .int .i64 0, q, .int .i64 n, .int .i64 0] H =
      if ∃ u, u < n ∧ k < (deg rows u : Int) then some (.ret, fl [(4, .int .i64 0), (5, .int .i64 5)], H) else some (.exit 1, fl [(6, .int .i64 (elS rows k n))], H) := by
  have hle := R.le
  have hl : (degF rows n 0).length = n := by rw [degF_len]; omega
  have oq := hq.old
  have key := for_upE (call := vcall F nro) (nro := nro) (live := [1, 6, 21, 22, 23]) (c := i_impl_EdgesLeft_B1) (h0 := H) (n := n) (fun v (x : Int) => [.int .i64 k, .int .i64 x, q, .int .i64 n, .int .i64 v]) (fun _ _ => H) (elE rows k) (fun v x => 0 ≤ x + 62 * v ∧ x ≤ 6 * v)
    (fun r => match r with | .inl x => some (.exit 1, fl [(6, .int .i64 x)], H) | .inr _ => some (.ret, fl [(4, .int .i64 0), (5, .int .i64 5)], H)) ?_ ?_ 0 (0 : Int) (Nat.zero_le _) (by omega)
  · have e := elE_ok (rows := rows) (k := k) n n 0 0 (by omega) rfl
    have e2 : (∃ u, 0 ≤ u ∧ u < n ∧ k < (deg rows u : Int)) ↔ ∃ u, u < n ∧ k < (deg rows u : Int) := ⟨fun ⟨u, _, b, c⟩ => ⟨u, b, c⟩, fun ⟨u, b, c⟩ => ⟨u, Nat.zero_le _, b, c⟩⟩
    simp only [e2] at e
    have k1 := key.1
    rw [e] at k1
    by_cases c : ∃ u, u < n ∧ k < (deg rows u : Int)
    · rw [if_pos c] at k1 ⊢; exact k1
    · rw [if_neg c] at k1 ⊢; exact k1
  · intro v x hv hv2 hx
    have hdl := deg_le62 R hv
    have vx := hq.vidx (k := .i64) (j := (v : Int)) (by omega) (by omega)
    have vl := hq.vload (j := v) (by omega)
    have eg := degF_get (rows := rows) (n := n) v 0 (by omega)
    rw [Nat.zero_add, getD_at _ (by omega)] at eg
    rw [eg] at vl
    unfold elE
    obtain ⟨d, hd2⟩ : ∃ d, d = deg rows v := ⟨_, rfl⟩
    rw [← hd2] at vl hdl ⊢
    clear hd2 eg hl
    by_cases c : k < (d : Int)
    · right
      refine ⟨(), by rw [if_pos c], ?_⟩
      rw [floop_at i_impl_EdgesLeft_B1.eq_1]
      simp (disch := first | assumption | omega | (simp [*] <;> omega) | fail) [-getElem?_pos, List.getElem?_cons_zero, List.getElem?_cons_succ, hv, hv2, vx, vl, c, oq]
    · left
      refine ⟨x + (k - (d : Int)), by rw [if_neg c], by omega, ?_⟩
      have w1 : IntKind.i64.wrap (k - (d : Int)) = k - (d : Int) := wrap64 (by omega) (by omega)
      have w2 : IntKind.i64.wrap (x + (k - (d : Int))) = x + (k - (d : Int)) := wrap64 (by omega) (by omega)
      have w3 : IntKind.i64.wrap ((v : Int) + 1) = (v : Int) + 1 := wrap64 (by omega) (by omega)
      rw [floop_at i_impl_EdgesLeft_B1.eq_1]
      simp (disch := first | assumption | omega | (simp [*] <;> omega) | fail) [-getElem?_pos, List.getElem?_cons_zero, List.getElem?_cons_succ, hv, hv2, vx, vl, c, w1, w2, w3, oq]
  · intro x _
    rw [floop_at i_impl_EdgesLeft_B1.eq_1]
    simp (disch := first | assumption | omega | (simp [*] <;> omega) | fail) [-getElem?_pos, List.getElem?_cons_zero, List.getElem?_cons_succ, oq]
theorem c_impl_EdgesLeft (n k : Int) (s : Value) (rows : List Int) (h : VH) (hs : Sli h s rows) (hn : nro ≤ h.length) :
    vcall F nro k_impl_EdgesLeft [gv n s, .int .i64 k] h = some (.tuple #[.int .i64 (elA n rows k).1, .int .i64 (elA n rows k).2], h) := by
  refine v_impl_EdgesLeft (by simp [i_impl_EdgesLeft]) ?_
  rw [fbody_eq]
  have hn' := fun k => Nat.le_trans hn (Nat.le_add_right h.length k)
  have hso := fun k => hs.oldCk (k := k)
  have hi := c_impl_IsGraph (nro := nro) n s rows (bx h n s) (hs.app _)
  unfold elA
  by_cases g : GV n rows
  · have z : ¬ ¬ GV n rows := fun h => h g
    rw [if_neg z]
    rw [decide_eq_true g] at hi
    have hlo := g.lo
    have hhi := g.hi
    obtain ⟨N, rfl⟩ : ∃ N : Nat, n = N := ⟨n.toNat, by omega⟩
    rw [Int.toNat_natCast]
    by_cases hkr : 1 ≤ k ∧ k ≤ 6
    · have z3 : ¬ ¬ (1 ≤ k ∧ k ≤ 6) := fun h => h hkr
      rw [if_neg z3]
      have k1 : ¬ k < 1 := by omega
      have k2 : ¬ 6 < k := by omega
      have hd := c_impl_Graph_degrees (nro := nro) N s rows (bx h N s) (hs.app _) g.rok (by simp; omega)
      have hsl := sli_at (h := bx h N s ++ [⟨1, ints (degF rows N 0)⟩]) (b := h.length + 1) (xs := degF rows N 0) (by simp)
      have hl : (degF rows N 0).length = N := by rw [degF_len]; omega
      rw [hl] at hsl
      have l1 := l_impl_EdgesLeft (nro := nro) (bx h N s ++ [⟨1, ints (degF rows N 0)⟩]) N k _ rows g.rok hsl hkr (by simp; omega)
      obtain ⟨D, hD⟩ : ∃ D, D = degF rows N 0 := ⟨_, rfl⟩
      rw [← hD] at hd l1 hl
      simp at hd l1
      by_cases c : ∃ u, u < N ∧ k < (deg rows u : Int)
      · rw [if_pos c] at l1 ⊢
        clear g z z3 c hD hsl
        simp (disch := first | assumption | omega | (simp [*] <;> omega) | fail) [i_impl_EdgesLeft, hi, k1, k2, hd, hl, l1, hn', hso]
      · rw [if_neg c] at l1 ⊢
        have r1 := elS_rng (rows := rows) hkr N (fun v hv => by
          have : ¬ k < (deg rows v : Int) := fun h => c ⟨v, hv, h⟩
          omega)
        obtain ⟨x, hx⟩ : ∃ x, x = elS rows k N := ⟨_, rfl⟩
        rw [← hx] at l1 r1 ⊢
        have w1 : IntKind.i64.wrap (x.tdiv 2) = x.tdiv 2 := by
          rw [Int.tdiv_eq_ediv_of_nonneg r1.1]; exact wrap64 (by omega) (by omega)
        obtain ⟨y, hy⟩ : ∃ y, y = x.tdiv 2 := ⟨_, rfl⟩
        rw [← hy] at w1 ⊢
        clear g z z3 c hx r1 hD hsl
        simp (disch := first | assumption | omega | (simp [*] <;> omega) | fail) [i_impl_EdgesLeft, hi, k1, k2, hd, hl, l1, hy.symm, w1, hn', hso]
    · rw [if_pos hkr]
      clear g z
      by_cases k1 : k < 1
      · clear hkr
        simp (disch := first | assumption | omega | (simp [*] <;> omega) | fail) [i_impl_EdgesLeft, hi, k1, hn', hso]
      · have k2 : 6 < k := by omega
        clear hkr
        simp (disch := first | assumption | omega | (simp [*] <;> omega) | fail) [i_impl_EdgesLeft, hi, k1, k2, hn', hso]
  · rw [if_pos g]
    rw [decide_eq_false g] at hi
    clear g
    simp (disch := first | assumption | omega | (simp [*] <;> omega) | fail) [i_impl_EdgesLeft, hi, hn', hso]

/-- The same lists of lists. -/
theorem c_laws_rows5 (s t : Value) (es : List (List Int)) (h : VH) (hs : LL h s es) (ht : LL h t es) (hl : es.length ≤ 100000) (hel : ∀ e ∈ es, e.length ≤ 1000) : vcall F nro k_laws_rows5 [s, t] h = some (.bool true, h) := by
  obtain ⟨vs, v1, v2, v3⟩ := hs
  obtain ⟨ws, w1, w2, w3⟩ := ht
  have a1 := v2.vlen
  have a2 := w2.vlen
  rw [v1] at a1
  rw [w1] at a2
  have os := v2.old
  have ot := w2.old
  have lp : floop (vcall F nro) nro [0, 1, 5] i_laws_rows5_B1 h [s, t, .int .i64 0] h = some (.exit 0, fl [], h) := by
    refine (for_up (call := vcall F nro) (nro := nro) (live := [0, 1, 5]) (c := i_laws_rows5_B1) (h0 := h) (n := es.length) (fun j (_ : Unit) => [s, t, .int .i64 j]) (fun _ _ => h) (fun _ u => u) (fun _ _ => True) (fun _ => some (.exit 0, fl [], h)) ?_ ?_ 0 () (Nat.zero_le _) trivial).1
    · intro j _ hj hj2 _
      refine ⟨trivial, ?_⟩
      have I := v3 j (by omega)
      have K := w3 j (by omega)
      have hc := c_laws_likeInts (nro := nro) _ _ _ _ h I K (by
        rw [List.getD_eq_getElem?_getD, List.getElem?_eq_getElem hj]
        have := hel es[j] (List.getElem_mem hj)
        show es[j].length ≤ _
        omega)
      have b1 := v2.vidx (k := .i64) (j := (j : Int)) (by omega) (by omega)
      have b2 := v2.vload (j := j) (by omega)
      have b3 := w2.vidx (k := .i64) (j := (j : Int)) (by omega) (by omega)
      have b4 := w2.vload (j := j) (by omega)
      simp only [decide_true] at hc
      have wj : IntKind.i64.wrap ((j : Int) + 1) = (j : Int) + 1 := wrap64 (by omega) (by omega)
      rw [floop_at i_laws_rows5_B1.eq_1]
      simp (disch := first | assumption | omega | (simp [*] <;> omega) | fail) [-getElem?_pos, List.getElem?_cons_zero, List.getElem?_cons_succ, a1, a2, hj, hj2, b1, b2, b3, b4, hc, wj, os, ot]
    · intro _ _
      rw [floop_at i_laws_rows5_B1.eq_1]
      simp (disch := first | assumption | omega | (simp [*] <;> omega) | fail) [-getElem?_pos, List.getElem?_cons_zero, List.getElem?_cons_succ, a1, a2, os, ot]
  refine v_laws_rows5 (by simp [i_laws_rows5]) ?_
  rw [fbody_eq]
  simp (disch := first | assumption | omega | (simp [*] <;> omega) | fail) [-getElem?_pos, List.getElem?_cons_zero, List.getElem?_cons_succ, i_laws_rows5, a1, a2, lp, os, ot]

theorem c_spec_l07May_eq (n v : Nat) (k c : Int) (s : Value) (h : VH) (hso : ∀ k, OldC (h.length + k) s) (hn : nro ≤ h.length) :
    vcall F nro k_spec_l07May [gv n s, .int .i64 k, .int .i64 c, .int .i64 v, .int .i64 v] h = some (.bool false, h) := by
  refine v_spec_l07May (by simp [i_spec_l07May]) ?_
  rw [fbody_eq]
  have hn' := fun k => Nat.le_trans hn (Nat.le_add_right h.length k)
  simp (disch := first | assumption | omega | (simp [*] <;> omega) | fail) [i_spec_l07May, hn', hso]
end Go.Proofs.YtghondlbkjponaaDoor.Zv

/- Draws of the seventh chapter. -/
namespace Go.Proofs.YtghondlbkjponaaDoor.Zv
open Go
open Classical
variable {nro : Nat}

/-- The heap of l07With's loop. -/
def wiH (h : VH) (cd : Value) (N : Nat) (s : SS) (r : List Int) : VH := h ++ [⟨0, [.int .i64 0, .slice none 0 0]⟩, srcO cd s, ⟨1, ints [8, 14, 24]⟩, ⟨1, ints r⟩, ⟨0, [.int .i64 N, .slice (some ⟨h.length + 3, 0, none⟩) N N]⟩]
section
variable {h : VH} {cd : Value} {xs : List Int} (hs : Sl h cd (bys xs)) (hx : Code' xs) (hn : nro ≤ h.length)
include hs hx hn
theorem wi_next {s1 : SS} (o1 : SOK xs s1) (N : Nat) (r : List Int) (n : Int) (h1 : n ≤ 9223372036854775807) : ∃ x s2, SOK xs s2 ∧ 0 ≤ x ∧ (1 ≤ n → x < n) ∧ (n < 1 → x = 0) ∧
    vcall F nro k_spec_l01Next [.pointer (some ⟨h.length + 1, 0, some 3⟩), .int .i64 n] (wiH h cd N s1 r) = some (.int .i64 x, wiH h cd N s2 r) := by
  have S := srce_new (nro := nro) (h := h ++ [⟨0, [.int .i64 0, .slice none 0 0]⟩]) (hs.app _) hx (by simp; omega) o1
  obtain ⟨x, s2, o2, a, b, c, e⟩ := S.nextE o1 [⟨1, ints [8, 14, 24]⟩, ⟨1, ints r⟩, ⟨0, [.int .i64 N, .slice (some ⟨h.length + 3, 0, none⟩) N N]⟩] n h1
  refine ⟨x, s2, o2, a, b, c, ?_⟩
  simp [hsetK] at e
  unfold wiH
  simpa using e
omit hs hx in
theorem wi_may {s1 : SS} {N : Nat} {r : List Int} (g : GV N r) (k c : Int) (v w : Nat) (hv : v < N) (hw : w < N) : vcall F nro k_spec_l07May [gv N (.slice (some ⟨h.length + 3, 0, none⟩) N N), .int .i64 k, .int .i64 c, .int .i64 v, .int .i64 w] (wiH h cd N s1 r) = some (.bool (decide (v ≠ w) && mayB r k c v w), wiH h cd N s1 r) := by
  have hl := g.rok.len
  have hsl := sli_at (h := wiH h cd N s1 r) (b := h.length + 3) (xs := r) (by simp [wiH])
  rw [hl] at hsl
  have hlen : nro ≤ (wiH h cd N s1 r).length := by simp [wiH]; omega
  by_cases e : v = w
  · subst e
    have := c_spec_l07May_eq (nro := nro) N v k c (.slice (some ⟨h.length + 3, 0, none⟩) N N) (wiH h cd N s1 r) (fun k => hsl.oldCk (k := k)) hlen
    rw [this]; simp
  · have := c_spec_l07May (nro := nro) N v w k c _ r (wiH h cd N s1 r) hsl g.rok hv hw e
    rw [this]; simp [e]
omit hs hx in
theorem wi_put {s1 : SS} {N : Nat} {r : List Int} (g : GV N r) (v w : Nat) (hv : v < N) (hw : w < N) : vcall F nro k_spec_l01Put [gv N (.slice (some ⟨h.length + 3, 0, none⟩) N N), .int .i64 v, .int .i64 w] (wiH h cd N s1 r) = some (.tuple #[], wiH h cd N s1 (put2 r v w)) := by
  have e := mk_put (nro := nro) (P := h ++ [⟨0, [.int .i64 0, .slice none 0 0]⟩, srcO cd s1, ⟨1, ints [8, 14, 24]⟩]) (C := [⟨0, [.int .i64 N, .slice (some ⟨h.length + 3, 0, none⟩) N N]⟩]) (by simp; omega) g.rok.len g.rok.le v w hv hw
  unfold wiH
  simpa using e
omit hx hn in
theorem wi_clean {s0 s1 : SS} {N : Nat} {r0 r1 : List Int} {vs : List Value} (hv : ∀ v ∈ vs, Old (h.length + 5) v) : kclean (wiH h cd N s0 r0) vs (wiH h cd N s1 r1) = (vs, wiH h cd N s1 r1) := by
  have ho : Old h.length cd := hs.old
  have h1 := ((Upd.rfl' (wiH h cd N s0 r0)).set' (b := h.length + 1) (o := srcO cd s1) (flatO_src (ho.le (by simp [wiH])) s1)).set' (b := h.length + 3) (o := ⟨1, ints r1⟩) (flatO_ints _ _ _)
  have e : ((wiH h cd N s0 r0).set (h.length + 1) (srcO cd s1)).set (h.length + 3) ⟨1, ints r1⟩ = wiH h cd N s1 r1 := by
    unfold wiH; rw [hsetK, hsetK]; rfl
  rw [e] at h1
  have := cleanup_upd (L := []) h1 (vs := vs) (by simpa [wiH] using hv)
  rwa [List.append_nil] at this
omit hs hx hn in
theorem wi_get (N : Nat) (s : SS) (r : List Int) : (wiH h cd N s r)[h.length + 4]? = some ⟨0, [.int .i64 N, .slice (some ⟨h.length + 3, 0, none⟩) N N]⟩ := by simp [wiH]
omit hs hx hn in
theorem wi_len (N : Nat) (s : SS) (r : List Int) : (wiH h cd N s r).length = h.length + 5 := by simp [wiH]

theorem l_spec_l07With (N : Nat) (k c : Int) (s0 : SS) (r0 : List Int) : ∀ (t : Nat) (s1 : SS) (r : List Int), t ≤ 1000 → SOK xs s1 → GV N r → ∃ s2 r2, SOK xs s2 ∧ GV N r2 ∧
    floop (vcall F nro) nro [2, 5, 6, 7, 8, 9] i_spec_l07With_B1 (wiH h cd N s0 r0) [.pointer (some ⟨h.length, 0, some 2⟩), .pointer (some ⟨h.length + 1, 0, some 3⟩), .int .i64 k, .int .i64 c, .pointer (some ⟨h.length + 4, 0, some 2⟩), .int .i64 t] (wiH h cd N s1 r) =
      some (.exit 0, fl [(2, .pointer (some ⟨h.length, 0, some 2⟩)), (5, .pointer (some ⟨h.length + 1, 0, some 3⟩)), (6, .int .i64 k), (7, .int .i64 c), (8, .pointer (some ⟨h.length + 4, 0, some 2⟩))], wiH h cd N s2 r2)
  | 0, s1, r, _, o1, g => by
    refine ⟨s1, r, o1, g, ?_⟩
    have hcl := fun vs => wi_clean (h := h) (cd := cd) hs (s0 := s0) (s1 := s1) (N := N) (r0 := r0) (r1 := r) (vs := vs)
    rw [floop_at i_spec_l07With_B1.eq_1]
    simp (disch := first | assumption | omega | (simp [*] <;> omega) | fail) [-getElem?_pos, List.getElem?_cons_zero, List.getElem?_cons_succ, hcl, wi_len]
  | t + 1, s1, r, ht, o1, g => by
    have hlo := g.lo
    have hle := g.rok.le
    obtain ⟨x2, s2, o2, a2, b2, _, e2⟩ := wi_next (nro := nro) hs hx hn o1 N r N (by omega)
    obtain ⟨x3, s3, o3, a3, b3, _, e3⟩ := wi_next (nro := nro) hs hx hn o2 N r N (by omega)
    have c2 := b2 (by omega)
    have c3 := b3 (by omega)
    obtain ⟨v, rfl⟩ : ∃ v : Nat, x2 = v := ⟨x2.toNat, by omega⟩
    obtain ⟨w, rfl⟩ : ∃ w : Nat, x3 = w := ⟨x3.toNat, by omega⟩
    have hv : v < N := by omega
    have hw : w < N := by omega
    have em := wi_may (nro := nro) (h := h) (cd := cd) hn (s1 := s3) g k c v w hv hw
    have ep := wi_put (nro := nro) (h := h) (cd := cd) hn (s1 := s3) g v w hv hw
    have hcl := fun (s : SS) (q : List Int) vs => wi_clean (h := h) (cd := cd) hs (s0 := s0) (s1 := s) (N := N) (r0 := r0) (r1 := q) (vs := vs)
    have wt : IntKind.i64.wrap (t : Int) = t := wrap64 (by omega) (by omega)
    have ht0 : 0 < (t : Int) + 1 := by omega
    obtain ⟨B, hB⟩ : ∃ B, B = (decide (v ≠ w) && mayB r k c v w) := ⟨_, rfl⟩
    rw [← hB] at em
    cases B with
    | true =>
      have hne : v ≠ w := by
        intro e
        simp [e] at hB
      obtain ⟨r1, hr1⟩ : ∃ q, q = put2 r v w := ⟨_, rfl⟩
      have g1 : GV N r1 := by rw [hr1]; exact g.put2 hv hw hne
      rw [← hr1] at ep
      obtain ⟨s4, r4, o4, g4, e4⟩ := l_spec_l07With N k c s0 r0 t s3 r1 (by omega) o3 g1
      refine ⟨s4, r4, o4, g4, ?_⟩
      rw [← e4]
      clear e4 g1 g4 o1 o2 o3 o4 g hB hr1 hs b2 b3 c2 c3 hv hw hne
      rw [floop_at i_spec_l07With_B1.eq_1]
      simp (disch := first | assumption | omega | (simp [*] <;> omega) | fail) [-getElem?_pos, List.getElem?_cons_zero, List.getElem?_cons_succ, ht0, e2, e3, em, ep, wt, wi_get, hcl, wi_len]
    | false =>
      obtain ⟨s4, r4, o4, g4, e4⟩ := l_spec_l07With N k c s0 r0 t s3 r (by omega) o3 g
      refine ⟨s4, r4, o4, g4, ?_⟩
      rw [← e4]
      clear e4 g4 o1 o2 o3 o4 g hB hs b2 b3 c2 c3 hv hw ep
      rw [floop_at i_spec_l07With_B1.eq_1]
      simp (disch := first | assumption | omega | (simp [*] <;> omega) | fail) [-getElem?_pos, List.getElem?_cons_zero, List.getElem?_cons_succ, ht0, e2, e3, em, wt, wi_get, hcl, wi_len]
end
theorem GV.fillR' {n : Nat} {k c : Int} {v : Nat} (hv : v < n) (w : Nat) (hvw : v < w) (rows : List Int) (g : GV n rows) : GV n (Zv.fillR k c n v rows w) := by
  by_cases hlt : w < n
  · rw [fillR_step hlt]
    by_cases hm : mayB rows k c v w = true
    · rw [if_pos hm]
      exact GV.fillR' hv (w + 1) (by omega) _ (g.put2 hv hlt (by omega))
    · rw [if_neg hm]
      exact GV.fillR' hv (w + 1) (by omega) _ g
  · rw [fillR_end hlt]; exact g
 termination_by n - w
theorem GV.fillA' {n : Nat} {k c : Int} (v : Nat) (rows : List Int) (g : GV n rows) : GV n (Zv.fillA k c n rows v) := by
  by_cases hlt : v < n
  · rw [fillA_step hlt]
    exact GV.fillA' (v + 1) _ (g.fillR' hlt (v + 1) (by omega))
  · rw [fillA_end hlt]; exact g
 termination_by n - v

section
variable {h : VH} {cd : Value} {xs : List Int} (hs : Sl h cd (bys xs)) (hx : Code' xs) (hn : nro ≤ h.length)
include hs hx hn
set_option maxHeartbeats 4000000 in
theorem c_spec_l07With : ∃ (n k c : Int) (rows : List Int), rows.length ≤ 63 ∧ vcall F nro k_spec_l07With [cd] h = some (.tuple #[gv n (.slice (some ⟨h.length, 0, none⟩) rows.length rows.length), .int .i64 k, .int .i64 c], h ++ [⟨1, ints rows⟩]) := by
  have hn' := fun k => Nat.le_trans hn (Nat.le_add_right h.length k)
  obtain ⟨s, ho, e1⟩ := c_spec_l01From (nro := nro) (h ++ [⟨0, [.int .i64 0, .slice none 0 0]⟩]) cd xs (hs.app _) hx (by simp; omega)
  have S := srce_new (nro := nro) (h := h ++ [⟨0, [.int .i64 0, .slice none 0 0]⟩]) (hs.app _) hx (by simp; omega) ho
  obtain ⟨k, c, s2, o2, e2⟩ := c_spec_l07DrawNumbers S
  obtain ⟨x3, s3, o3, a3, b3, _, e3⟩ := S.nextE o2 [] 5 (by omega)
  have hb := c_spec_l07Numbers (nro := nro) k c
  by_cases c1 : x3 = 0
  · obtain ⟨N, r, s4, o4, g, e4⟩ := c_spec_l01Draw (S.set o3 [])
    rw [S.setL] at e4
    obtain ⟨n', m, rows, s5, M, o5, e5, h1, _, _, h4⟩ := S.badE o4 [⟨1, ints r⟩] 0 N r rfl g
    refine ⟨n', k, c, rows, h1, ?_⟩
    have hcl := cleanT3 h (⟨0, [.int .i64 n', .slice (some ⟨h.length + (2 + m), 0, none⟩) rows.length rows.length]⟩ :: srcO cd s5 :: ([⟨1, ints r⟩] ++ M)) (2 + m) rows.length n' k c rows (by rw [show 2 + m = m + 1 + 1 by omega]; exact h4)
    obtain ⟨q, hq⟩ : ∃ q, q = rows.length := ⟨_, rfl⟩
    rw [← hq] at e5 hcl ⊢
    simp [hsetK, Nat.add_assoc] at e1 e2 e3 e4 e5 hcl
    clear S o2 o3 o4 o5 g a3 b3 h4 hq h1 hs hx
    refine v_spec_l07With (by simp [i_spec_l07With]) ?_
    rw [fbody_eq]
    simp (disch := first | assumption | omega | (simp [*] <;> omega) | fail) [i_spec_l07With, e1, e2, e3, c1, e4, e5, hcl, hn, hn', fresults, fresL, fres1]
  · obtain ⟨x4, s4, o4, m4, e4⟩ := S.pickE o3 [⟨1, ints [8, 14, 24]⟩] 0 3 [8, 14, 24] rfl rfl (by omega) (by omega)
    have hx4 : 8 ≤ x4 ∧ x4 ≤ 24 := by
      simp only [List.mem_cons, List.not_mem_nil, or_false] at m4
      omega
    obtain ⟨x5, s5, o5, a5, b5, _, e5⟩ := S.nextE o4 [⟨1, ints [8, 14, 24]⟩] x4 (by omega)
    have c5 := b5 (by omega)
    obtain ⟨N, hN⟩ : ∃ N : Nat, 1 + x5 = N := ⟨(1 + x5).toNat, by omega⟩
    have w1 : IntKind.i64.wrap (1 + x5) = 1 + x5 := wrap64 (by omega) (by omega)
    rw [hN] at w1
    have e6 := c_spec_l01Empty (nro := nro) N (h ++ [⟨0, [.int .i64 0, .slice none 0 0]⟩, srcO cd s5, ⟨1, ints [8, 14, 24]⟩]) (by omega) (by omega) (by simp; omega)
    rw [Int.toNat_natCast] at e6
    obtain ⟨z, hz⟩ : ∃ z, z = List.replicate N (0 : Int) := ⟨_, rfl⟩
    have gz : GV N z := by rw [hz]; exact GV.zero (by omega) (by omega)
    rw [← hz] at e6
    have hb5 := hb (wiH h cd N s5 z)
    have hN62 : 1 ≤ N ∧ N ≤ 25 := by omega
    clear m4 b5 hz
    cases hB : kcB k c with
    | false =>
      rw [hB] at hb5
      obtain ⟨n', m, rows, s7, M, o7, e7, h1, _, _, h4⟩ := S.badE o5 [⟨1, ints [8, 14, 24]⟩, ⟨1, ints z⟩, ⟨0, [.int .i64 N, .slice (some ⟨h.length + 3, 0, none⟩) N N]⟩] 1 N z rfl gz
      refine ⟨n', k, c, rows, h1, ?_⟩
      have hcl := cleanT3 h (⟨0, [.int .i64 n', .slice (some ⟨h.length + (2 + m), 0, none⟩) rows.length rows.length]⟩ :: srcO cd s7 :: ([⟨1, ints [8, 14, 24]⟩, ⟨1, ints z⟩, ⟨0, [.int .i64 N, .slice (some ⟨h.length + 3, 0, none⟩) N N]⟩] ++ M)) (2 + m) rows.length n' k c rows (by rw [show 2 + m = m + 1 + 1 by omega]; exact h4)
      obtain ⟨q, hq⟩ : ∃ q, q = rows.length := ⟨_, rfl⟩
      rw [← hq] at e7 hcl ⊢
      unfold wiH at hb5
      simp [hsetK, Nat.add_assoc] at e1 e2 e3 e4 e5 e6 e7 hb5 hcl
      clear S o2 o3 o4 o5 o7 gz a3 b3 h4 hq h1 hs hx hB hb hN62 hx4
      refine v_spec_l07With (by simp [i_spec_l07With]) ?_
      rw [fbody_eq]
      simp (disch := first | assumption | omega | (simp [*] <;> omega) | fail) [i_spec_l07With, e1, e2, e3, c1, e4, e5, w1, hN, e6, hb5, e7, hcl, hn, hn', fresults, fresL, fres1]
    | true =>
      rw [hB] at hb5
      have w2 : IntKind.i64.wrap (2 * (N : Int)) = 2 * (N : Int) := wrap64 (by omega) (by omega)
      obtain ⟨x6, s6, o6, a6, b6, _, e6b⟩ := wi_next (nro := nro) hs hx hn o5 N z (2 * (N : Int)) (by omega)
      have c6 := b6 (by omega)
      obtain ⟨t, rfl⟩ : ∃ t : Nat, x6 = t := ⟨x6.toNat, by omega⟩
      obtain ⟨s7, r7, o7, g7, lp⟩ := l_spec_l07With (nro := nro) hs hx hn N k c s6 z t s6 z (by omega) o6 gz
      obtain ⟨x8, s8, o8, a8, b8, _, e8⟩ := wi_next (nro := nro) hs hx hn o7 N r7 5 (by omega)
      by_cases c8 : x8 = 0
      · have hsl := sli_at (h := wiH h cd N s8 r7) (b := h.length + 3) (xs := r7) (by simp [wiH])
        rw [g7.rok.len] at hsl
        have ef := c_spec_l07Fill (nro := nro) N k c _ r7 (wiH h cd N s8 r7) hsl g7.rok hN62.1 (by simp [wiH]; omega)
        have gf := g7.fillA' (k := k) (c := c) 0
        obtain ⟨f, hf⟩ : ∃ f, f = fillA k c N r7 0 := ⟨_, rfl⟩
        rw [← hf] at ef gf
        obtain ⟨n', m, rows, s9, M, o9, e9, h1, _, _, h4⟩ := S.badE o8 [⟨1, ints [8, 14, 24]⟩, ⟨1, ints r7⟩, ⟨0, [.int .i64 N, .slice (some ⟨h.length + 5, 0, none⟩) N N]⟩, ⟨1, ints f⟩] 3 N f rfl gf
        refine ⟨n', k, c, rows, h1, ?_⟩
        have hcl := cleanT3 h (⟨0, [.int .i64 n', .slice (some ⟨h.length + (2 + m), 0, none⟩) rows.length rows.length]⟩ :: srcO cd s9 :: ([⟨1, ints [8, 14, 24]⟩, ⟨1, ints r7⟩, ⟨0, [.int .i64 N, .slice (some ⟨h.length + 5, 0, none⟩) N N]⟩, ⟨1, ints f⟩] ++ M)) (2 + m) rows.length n' k c rows (by rw [show 2 + m = m + 1 + 1 by omega]; exact h4)
        obtain ⟨q, hq⟩ : ∃ q, q = rows.length := ⟨_, rfl⟩
        rw [← hq] at e9 hcl ⊢
        unfold wiH at hb5 e6b lp e8 ef
        simp [hsetK, Nat.add_assoc] at e1 e2 e3 e4 e5 e6 e6b lp e8 ef e9 hb5 hcl
        clear S o2 o3 o4 o5 o6 o7 o8 o9 gz g7 gf a3 b3 h4 hq h1 hs hx hB hb hN62 hx4 hsl hf
        refine v_spec_l07With (by simp [i_spec_l07With]) ?_
        rw [fbody_eq]
        simp (disch := first | assumption | omega | (simp [*] <;> omega) | fail) [i_spec_l07With, e1, e2, e3, c1, e4, e5, w1, hN, e6, hb5, w2, e6b, lp, e8, c8, ef, e9, hcl, hn, hn', fresults, fresL, fres1]
      · obtain ⟨n', m, rows, s9, M, o9, e9, h1, _, _, h4⟩ := S.badE o8 [⟨1, ints [8, 14, 24]⟩, ⟨1, ints r7⟩, ⟨0, [.int .i64 N, .slice (some ⟨h.length + 3, 0, none⟩) N N]⟩] 1 N r7 rfl g7
        refine ⟨n', k, c, rows, h1, ?_⟩
        have hcl := cleanT3 h (⟨0, [.int .i64 n', .slice (some ⟨h.length + (2 + m), 0, none⟩) rows.length rows.length]⟩ :: srcO cd s9 :: ([⟨1, ints [8, 14, 24]⟩, ⟨1, ints r7⟩, ⟨0, [.int .i64 N, .slice (some ⟨h.length + 3, 0, none⟩) N N]⟩] ++ M)) (2 + m) rows.length n' k c rows (by rw [show 2 + m = m + 1 + 1 by omega]; exact h4)
        obtain ⟨q, hq⟩ : ∃ q, q = rows.length := ⟨_, rfl⟩
        rw [← hq] at e9 hcl ⊢
        unfold wiH at hb5 e6b lp e8
        simp [hsetK, Nat.add_assoc] at e1 e2 e3 e4 e5 e6 e6b lp e8 e9 hb5 hcl
        clear S o2 o3 o4 o5 o6 o7 o8 o9 gz g7 a3 b3 h4 hq h1 hs hx hB hb hN62 hx4
        refine v_spec_l07With (by simp [i_spec_l07With]) ?_
        rw [fbody_eq]
        simp (disch := first | assumption | omega | (simp [*] <;> omega) | fail) [i_spec_l07With, e1, e2, e3, c1, e4, e5, w1, hN, e6, hb5, w2, e6b, lp, e8, c8, e9, hcl, hn, hn', fresults, fresL, fres1]
end
end Go.Proofs.YtghondlbkjponaaDoor.Zv

/- Draws of the seventh chapter: what the laws of it call. -/
namespace Go.Proofs.YtghondlbkjponaaDoor.Zv
open Go
variable {nro : Nat}
section
variable {h : VH} {cd : Value} {xs : List Int} (hs : Sl h cd (bys xs)) (hx : Code' xs) (hn : nro ≤ h.length)
include hs hx hn
theorem c_spec_DrawGreedyGraph : ∃ n k c, vcall F nro k_spec_DrawGreedyGraph [cd] h = some (.tuple #[.int .i64 n, .int .i64 k, .int .i64 c], h) := by
  have hn' := fun k => Nat.le_trans hn (Nat.le_add_right h.length k)
  obtain ⟨s, ho, e1⟩ := c_spec_l01From h cd xs hs hx hn
  have S := srce_new hs hx hn ho
  obtain ⟨k, c, s1, o1, e2⟩ := c_spec_l07DrawNumbers S
  obtain ⟨x3, s3, o3, m3, e3⟩ := S.pickE o1 [⟨1, ints [10, 20, 62]⟩] 0 3 [10, 20, 62] rfl rfl (by omega) (by omega)
  have hx3 : 10 ≤ x3 ∧ x3 ≤ 62 := by
    simp only [List.mem_cons, List.not_mem_nil, or_false] at m3
    omega
  obtain ⟨x4, s4, o4, a4, b4, _, e4⟩ := S.nextE o3 [⟨1, ints [10, 20, 62]⟩] x3 (by omega)
  have c4 := b4 (by omega)
  obtain ⟨y, hy⟩ : ∃ y, 1 + x4 = y := ⟨_, rfl⟩
  have w1 : IntKind.i64.wrap (1 + x4) = 1 + x4 := wrap64 (by omega) (by omega)
  rw [hy] at w1
  obtain ⟨x5, s5, o5, m5, e5⟩ := S.pickE o4 [⟨1, ints [10, 20, 62]⟩, ⟨1, ints [y, y, y, y, y, y, 0, 63]⟩] 1 8 [y, y, y, y, y, y, 0, 63] rfl rfl (by omega) (by omega)
  refine ⟨x5, k, c, ?_⟩
  clear m3 m5 b4 c4 a4 hx3
  refine v_spec_DrawGreedyGraph (by simp [i_spec_DrawGreedyGraph]) ?_
  rw [fbody_eq]
  simp at e2 e3 e4 e5
  simp (disch := first | assumption | omega | (simp [*] <;> omega) | fail) [i_spec_DrawGreedyGraph, e1, e2, e3, e4, hy, w1, e5, hn, hn']
theorem c_spec_DrawFillGraph : ∃ (n k c : Int) (rows : List Int), rows.length ≤ 63 ∧ vcall F nro k_spec_DrawFillGraph [cd] h = some (.tuple #[gv n (.slice (some ⟨h.length, 0, none⟩) rows.length rows.length), .int .i64 k, .int .i64 c], h ++ [⟨1, ints rows⟩]) := by
  have hn' := fun k => Nat.le_trans hn (Nat.le_add_right h.length k)
  obtain ⟨n, k, c, rows, h1, e1⟩ := c_spec_l07With (nro := nro) (h := h ++ [⟨0, [.int .i64 0, .slice none 0 0]⟩]) (hs.app _) hx (by simp; omega)
  refine ⟨n, k, c, rows, h1, ?_⟩
  obtain ⟨m, hm⟩ : ∃ m, m = rows.length := ⟨_, rfl⟩
  rw [← hm] at e1 ⊢
  refine v_spec_DrawFillGraph (by simp [i_spec_DrawFillGraph]) ?_
  rw [fbody_eq]
  simp at e1
  have hcl := cleanT3 h [⟨0, [.int .i64 n, .slice (some ⟨h.length + 1, 0, none⟩) m m]⟩, ⟨1, ints rows⟩, ⟨0, [.int .i64 n, .slice (some ⟨h.length + 1, 0, none⟩) m m]⟩] 1 m n k c rows rfl
  clear hm
  simp (disch := first | assumption | omega | (simp [*] <;> omega) | fail) [i_spec_DrawFillGraph, e1, hcl, hn, hn', fresults, fresL, fres1]
theorem c_spec_DrawPairsToJoin : ∃ (n k c : Int) (rows : List Int), rows.length ≤ 63 ∧ vcall F nro k_spec_DrawPairsToJoin [cd] h = some (.tuple #[gv n (.slice (some ⟨h.length, 0, none⟩) rows.length rows.length), .int .i64 k, .int .i64 c], h ++ [⟨1, ints rows⟩]) := by
  have hn' := fun k => Nat.le_trans hn (Nat.le_add_right h.length k)
  obtain ⟨n, k, c, rows, h1, e1⟩ := c_spec_l07With (nro := nro) (h := h ++ [⟨0, [.int .i64 0, .slice none 0 0]⟩]) (hs.app _) hx (by simp; omega)
  refine ⟨n, k, c, rows, h1, ?_⟩
  obtain ⟨m, hm⟩ : ∃ m, m = rows.length := ⟨_, rfl⟩
  rw [← hm] at e1 ⊢
  refine v_spec_DrawPairsToJoin (by simp [i_spec_DrawPairsToJoin]) ?_
  rw [fbody_eq]
  simp at e1
  have hcl := cleanT3 h [⟨0, [.int .i64 n, .slice (some ⟨h.length + 1, 0, none⟩) m m]⟩, ⟨1, ints rows⟩, ⟨0, [.int .i64 n, .slice (some ⟨h.length + 1, 0, none⟩) m m]⟩] 1 m n k c rows rfl
  clear hm
  simp (disch := first | assumption | omega | (simp [*] <;> omega) | fail) [i_spec_DrawPairsToJoin, e1, hcl, hn, hn', fresults, fresL, fres1]
theorem c_spec_DrawFitsBoth : ∃ (n k c : Int) (rows : List Int), rows.length ≤ 63 ∧ vcall F nro k_spec_DrawFitsBoth [cd] h = some (.tuple #[gv n (.slice (some ⟨h.length, 0, none⟩) rows.length rows.length), .int .i64 k, .int .i64 c], h ++ [⟨1, ints rows⟩]) := by
  have hn' := fun k => Nat.le_trans hn (Nat.le_add_right h.length k)
  obtain ⟨n, k, c, rows, h1, e1⟩ := c_spec_l07With (nro := nro) (h := h ++ [⟨0, [.int .i64 0, .slice none 0 0]⟩]) (hs.app _) hx (by simp; omega)
  refine ⟨n, k, c, rows, h1, ?_⟩
  obtain ⟨m, hm⟩ : ∃ m, m = rows.length := ⟨_, rfl⟩
  rw [← hm] at e1 ⊢
  refine v_spec_DrawFitsBoth (by simp [i_spec_DrawFitsBoth]) ?_
  rw [fbody_eq]
  simp at e1
  have hcl := cleanT3 h [⟨0, [.int .i64 n, .slice (some ⟨h.length + 1, 0, none⟩) m m]⟩, ⟨1, ints rows⟩, ⟨0, [.int .i64 n, .slice (some ⟨h.length + 1, 0, none⟩) m m]⟩] 1 m n k c rows rfl
  clear hm
  simp (disch := first | assumption | omega | (simp [*] <;> omega) | fail) [i_spec_DrawFitsBoth, e1, hcl, hn, hn', fresults, fresL, fres1]
theorem c_spec_DrawIsFull : ∃ (n k c : Int) (rows : List Int), rows.length ≤ 63 ∧ vcall F nro k_spec_DrawIsFull [cd] h = some (.tuple #[gv n (.slice (some ⟨h.length, 0, none⟩) rows.length rows.length), .int .i64 k, .int .i64 c], h ++ [⟨1, ints rows⟩]) := by
  have hn' := fun k => Nat.le_trans hn (Nat.le_add_right h.length k)
  obtain ⟨n, k, c, rows, h1, e1⟩ := c_spec_l07With (nro := nro) (h := h ++ [⟨0, [.int .i64 0, .slice none 0 0]⟩]) (hs.app _) hx (by simp; omega)
  refine ⟨n, k, c, rows, h1, ?_⟩
  obtain ⟨m, hm⟩ : ∃ m, m = rows.length := ⟨_, rfl⟩
  rw [← hm] at e1 ⊢
  refine v_spec_DrawIsFull (by simp [i_spec_DrawIsFull]) ?_
  rw [fbody_eq]
  simp at e1
  have hcl := cleanT3 h [⟨0, [.int .i64 n, .slice (some ⟨h.length + 1, 0, none⟩) m m]⟩, ⟨1, ints rows⟩, ⟨0, [.int .i64 n, .slice (some ⟨h.length + 1, 0, none⟩) m m]⟩] 1 m n k c rows rfl
  clear hm
  simp (disch := first | assumption | omega | (simp [*] <;> omega) | fail) [i_spec_DrawIsFull, e1, hcl, hn, hn', fresults, fresL, fres1]
theorem c_spec_DrawEdgesLeft : ∃ (n k : Int) (rows : List Int), rows.length ≤ 63 ∧ vcall F nro k_spec_DrawEdgesLeft [cd] h = some (.tuple #[gv n (.slice (some ⟨h.length, 0, none⟩) rows.length rows.length), .int .i64 k], h ++ [⟨1, ints rows⟩]) := by
  have hn' := fun k => Nat.le_trans hn (Nat.le_add_right h.length k)
  obtain ⟨n, k, c, rows, h1, e1⟩ := c_spec_l07With (nro := nro) (h := h ++ [⟨0, [.int .i64 0, .slice none 0 0]⟩]) (hs.app _) hx (by simp; omega)
  refine ⟨n, k, rows, h1, ?_⟩
  obtain ⟨m, hm⟩ : ∃ m, m = rows.length := ⟨_, rfl⟩
  rw [← hm] at e1 ⊢
  refine v_spec_DrawEdgesLeft (by simp [i_spec_DrawEdgesLeft]) ?_
  rw [fbody_eq]
  simp at e1
  clear hm
  simp (disch := first | assumption | omega | (simp [*] <;> omega) | fail) [i_spec_DrawEdgesLeft, e1, hn, hn', fresults, fresL, fres1]
end
end Go.Proofs.YtghondlbkjponaaDoor.Zv

/- GirthOf, GirthAt, CountShortest, EdgesOf. -/
namespace Go.Proofs.YtghondlbkjponaaDoor.Zv
open Go
open Classical
variable {nro : Nat}

theorem c_impl_found (x : Int) (h : VH) : vcall F nro k_impl_found [.int .i64 x] h = some (.tuple #[.int .i64 x, .int .i64 (if x = 0 then 4 else 0)], h) := by
  refine v_impl_found (by simp [i_impl_found]) ?_
  rw [fbody_eq]
  by_cases c : x = 0
  · simp (disch := first | assumption | omega | (simp [*] <;> omega) | fail) [i_impl_found, c]
  · simp (disch := first | assumption | omega | (simp [*] <;> omega) | fail) [i_impl_found, c]

theorem c_impl_GirthOf (n : Int) (s : Value) (rows : List Int) (h : VH) (hs : Sli h s rows) (hn : nro ≤ h.length) :
    vcall F nro k_impl_GirthOf [gv n s] h = some (.tuple #[.int .i64 (giA n rows).1, .int .i64 (giA n rows).2], h) := by
  refine v_impl_GirthOf (by simp [i_impl_GirthOf]) ?_
  rw [fbody_eq]
  have hn' := fun k => Nat.le_trans hn (Nat.le_add_right h.length k)
  have hso := fun k => hs.oldCk (k := k)
  have hi := c_impl_IsGraph (nro := nro) n s rows (bx h n s) (hs.app _)
  have hf := fun x => c_impl_found (nro := nro) x (bx h n s)
  unfold giA
  by_cases g : GV n rows
  · have hlo := g.lo
    obtain ⟨N, rfl⟩ : ∃ N : Nat, n = N := ⟨n.toNat, by omega⟩
    have hg := c_impl_Graph_girth (nro := nro) N s rows (bx h N s) (hs.app _) g (by simp; omega)
    rw [if_neg (fun h => h g), Int.toNat_natCast]
    rw [decide_eq_true g] at hi
    obtain ⟨x, hx⟩ : ∃ x, x = girF rows N 0 0 := ⟨_, rfl⟩
    rw [← hx] at hg ⊢
    clear hx g
    by_cases c2 : x = 0
    · subst c2
      simp (disch := first | assumption | omega | (simp [*] <;> omega) | fail) [i_impl_GirthOf, hi, hg, hf, hn', hso]
    · simp (disch := first | assumption | omega | (simp [*] <;> omega) | fail) [i_impl_GirthOf, hi, hg, hf, c2, hn', hso]
  · rw [if_pos g]
    rw [decide_eq_false g] at hi
    clear g
    simp (disch := first | assumption | omega | (simp [*] <;> omega) | fail) [i_impl_GirthOf, hi, hn', hso]

/-! ### CountShortest -/
end Go.Proofs.YtghondlbkjponaaDoor.Zv

