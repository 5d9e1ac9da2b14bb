/- Plain: one more kind that is right: the list stays well formed. -/
import Derived.Test.YtdfeloeainabjaaDoorKinP
namespace Go.Proofs.YtdfeloeainabjaaDoor

theorem get_take_up {l : List Knd} {i m : Nat} {x : Knd} (h : (l.take i)[m]? = some x) : (l.take (i + 1))[m]? = some x := by
  rw [List.getElem?_take] at h ⊢
  split at h
  · rw [if_pos (by omega)]; exact h
  · cases h
theorem get_take_dn {l : List Knd} {i m : Nat} {x : Knd} (hm : m < i) (h : (l.take (i + 1))[m]? = some x) : (l.take i)[m]? = some x := by
  rw [List.getElem?_take] at h ⊢
  rw [if_pos (by omega)] at h
  rw [if_pos hm]; exact h
theorem wf_snoc {l : List Knd} {i : Nat} {k : Knd} (hw : Wf (l.take i)) (hk : l[i]? = some k) (hnew : kFind (l.take i) k.name < 0) (ho : ofsE (l.take i) [] k.ofs = 0) : Wf (l.take (i + 1)) := by
  intro m x hx
  by_cases hm : m < i
  · obtain ⟨a, b⟩ := hw m x (get_take_dn hm hx)
    refine ⟨fun j y hj hy => a j y hj (get_take_dn (by omega) hy), fun s hs => ?_⟩
    obtain ⟨j, y, h1, h2, h3⟩ := b s hs
    exact ⟨j, y, h1, get_take_up h2, h3⟩
  · have hmi : m = i := by
      have := (List.getElem?_eq_some_iff.1 hx).1
      simp at this; omega
    subst hmi
    have hxk : x = k := by
      rw [List.getElem?_take, if_pos (by omega), hk] at hx
      injection hx with hx; exact hx.symm
    subst hxk
    refine ⟨fun j y hj hy => kFind_neg hnew y (List.mem_of_getElem? (get_take_dn hj hy)), fun s hs => ?_⟩
    obtain ⟨j, y, h1, h2, h3, _⟩ := kFind_pos (ofsE_zero ho s hs)
    have hjl := (List.getElem?_eq_some_iff.1 h2).1
    simp at hjl
    exact ⟨j, y, by omega, get_take_up h2, h3⟩
end Go.Proofs.YtdfeloeainabjaaDoor
