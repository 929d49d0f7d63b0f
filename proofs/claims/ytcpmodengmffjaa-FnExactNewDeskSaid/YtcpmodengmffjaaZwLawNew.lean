/- The law of NewDesk: no arguments, so the kernel runs it. -/
import Derived.Test.YtcpmodengmffjaaZvEval
import Derived.Test.YtcpmodengmffjaaZwIr
namespace Go.Proofs.Ytcpmodengmffjaa.Zv
open Go

theorem lookup_mem {f : Nat} {fn : FF} : ∀ {T : List (Nat × FF)}, T.lookup f = some fn → ∃ p ∈ T, p.2 = fn
  | [], h => by cases h
  | (a, b) :: T, h => by
    simp only [List.lookup_cons] at h
    split at h
    · cases h
      exact ⟨_, List.mem_cons_self .., rfl⟩
    · obtain ⟨p, hp, e⟩ := lookup_mem h
      exact ⟨p, List.mem_cons_of_mem _ hp, e⟩

theorem tab_ok : (tab.all fun p => p.2.ok) = true := by kernel_rfl

theorem xrun {k n f : Nat} {nro : Nat} {args : List Value} {h : VH} {r : Value × VH} (hr : xcall tab nro k n f args h = some r) : vcall F nro f args h = some r := by
  refine xcall_sound (fun f fn hf => ⟨by unfold F; rw [hf]; rfl, ?_⟩) n f args h r hr
  obtain ⟨p, hp, rfl⟩ := lookup_mem hf
  exact List.all_eq_true.mp tab_ok p hp

def isTrue0 : Option (Value × VH) → Bool
  | some (.bool true, []) => true
  | _ => false
theorem isTrue0_eq {q : Option (Value × VH)} (h : isTrue0 q = true) : q = some (.bool true, []) := by
  unfold isTrue0 at h
  split at h
  · rfl
  · cases h

theorem law_NewDesk : vcall F ([] : VH).length k_laws_FnExactNewDesk [] [] = some (.bool true, []) :=
  xrun (k := 50) (n := 30) (isTrue0_eq (by kernel_rfl))
end Go.Proofs.Ytcpmodengmffjaa.Zv
