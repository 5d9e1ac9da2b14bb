/- Plain: the search by breadth of package stat, as functions on lists; what stays true from step to step. -/
import Derived.Test.YtdfeloeainabjaaFindB
namespace Go.Proofs.Ytdfeloeainabjaa

def farEnd (nodes : List Nod) (id d : Int) (e : Int × Int) (st : List Int × List Nat) : List Int × List Nat :=
  if e.1 = id ∧ fhas nodes e.2 = true ∧ st.1.getD (fpos nodes e.2) 0 < 0 then (st.1.set (fpos nodes e.2) (d + 1), st.2 ++ [fpos nodes e.2]) else st
def tieEnds (t : Tie) : List (Int × Int) := [(t.src, t.dst), (t.dst, t.src)]
def farTie (nodes : List Nod) (id d : Int) (st : List Int × List Nat) (t : Tie) : List Int × List Nat := (tieEnds t).foldl (fun st e => farEnd nodes id d e st) st
def farTies (nodes : List Nod) (id d : Int) (ts : List Tie) (st : List Int × List Nat) : List Int × List Nat := ts.foldl (farTie nodes id d) st
def idAt (nodes : List Nod) (r : Nat) : Int := match nodes[r]? with | some n => n.id | none => 0
def farRun (g : Grf) : Nat → List Int × List Nat → List Int
  | 0, st => st.1
  | f + 1, st => match st.2 with
    | [] => st.1
    | r :: _ => farRun g f ((farTies g.nodes (idAt g.nodes r) (st.1.getD r 0) g.ties st).1, (farTies g.nodes (idAt g.nodes r) (st.1.getD r 0) g.ties st).2.tail)
def farI (g : Grf) (src : Nat) : List Int := farRun g g.nodes.length ((List.replicate g.nodes.length (-1)).set src 0, [src])

def negs (l : List Int) : Nat := l.countP (fun v => decide (v < 0))
theorem negs_set : ∀ {l : List Int} {k : Nat} {v : Int}, k < l.length → l.getD k 0 < 0 → 0 ≤ v → negs (l.set k v) + 1 = negs l
  | a :: r, 0, v, _, h2, h3 => by
    simp only [List.getD_cons_zero] at h2
    simp [negs, h2, Int.not_lt.2 h3]
  | a :: r, k + 1, v, h1, h2, h3 => by
    have ih := negs_set (l := r) (k := k) (v := v) (by simpa using h1) (by simpa using h2) h3
    simp only [negs, List.set_cons_succ, List.countP_cons] at ih ⊢
    omega
theorem getD_set_other {l : List Int} {j k : Nat} {v : Int} (h : k ≠ j) : (l.set k v).getD j 0 = l.getD j 0 := by
  simp [List.getD, h]
theorem getD_set_self {l : List Int} {k : Nat} {v : Int} (h : k < l.length) : (l.set k v).getD k 0 = v := by
  simp [List.getD, h]

structure FInv (n gk r0 : Nat) (d : Int) (st : List Int × List Nat) : Prop where
  len : st.1.length = n
  hd : ∃ rest, st.2 = r0 :: rest
  mem : ∀ r ∈ st.2, r < n ∧ 0 ≤ st.1.getD r 0
  val : st.1.getD r0 0 = d
  pos : 0 ≤ d
  low : d + gk ≤ n
  top : ∀ v ∈ st.1, -1 ≤ v ∧ v + gk ≤ n + 1
  meas : st.2.length + negs st.1 ≤ gk
theorem FInv.push {n gk r0 : Nat} {d : Int} {st : List Int × List Nat} (h : FInv n gk r0 d st) {k : Nat} (hk : k < n) (hv : st.1.getD k 0 < 0) : FInv n gk r0 d (st.1.set k (d + 1), st.2 ++ [k]) := by
  have hne : k ≠ r0 := by rintro rfl; have := h.val; have := h.pos; omega
  have hkl : k < st.1.length := by rw [h.len]; exact hk
  obtain ⟨rest, hr⟩ := h.hd
  refine ⟨by simp [h.len], ⟨rest ++ [k], by simp [hr]⟩, ?_, ?_, h.pos, h.low, ?_, ?_⟩
  · intro r hr
    simp only [List.mem_append, List.mem_singleton] at hr
    rcases hr with hr | rfl
    · obtain ⟨h1, h2⟩ := h.mem r hr
      refine ⟨h1, ?_⟩
      rw [getD_set_other (by rintro rfl; omega)]
      exact h2
    · refine ⟨hk, ?_⟩
      rw [getD_set_self hkl]
      have := h.pos; omega
  · show (st.1.set k (d + 1)).getD r0 0 = d
    rw [getD_set_other hne]; exact h.val
  · intro v hv
    rcases List.mem_or_eq_of_mem_set hv with h1 | rfl
    · exact h.top v h1
    · have := h.pos; have := h.low; omega
  · have h1 := negs_set (l := st.1) (k := k) (v := d + 1) hkl hv (by have := h.pos; omega)
    have h2 := h.meas
    simp only [List.length_append, List.length_singleton]
    omega

/-- At the head of the outer loop. -/
structure OInv (n gk : Nat) (st : List Int × List Nat) : Prop where
  len : st.1.length = n
  mem : ∀ r ∈ st.2, r < n ∧ 0 ≤ st.1.getD r 0
  top : ∀ v ∈ st.1, -1 ≤ v ∧ v + gk ≤ n
  meas : st.2.length + negs st.1 ≤ gk
theorem mem_getD {l : List Int} {k : Nat} (h : k < l.length) : l.getD k 0 ∈ l := by
  simp only [List.getD, List.getElem?_eq_getElem h, Option.getD_some]
  exact List.getElem_mem h
theorem OInv.enter {n gk r0 : Nat} {st : List Int × List Nat} {rest : List Nat} (h : OInv n gk st) (hr : st.2 = r0 :: rest) : FInv n gk r0 (st.1.getD r0 0) st := by
  obtain ⟨h1, h2⟩ := h.mem r0 (by simp [hr])
  have h3 := (h.top _ (mem_getD (l := st.1) (k := r0) (by rw [h.len]; exact h1))).2
  exact ⟨h.len, ⟨rest, hr⟩, h.mem, rfl, h2, h3, fun v hv => ⟨(h.top v hv).1, by have := (h.top v hv).2; omega⟩, h.meas⟩
theorem FInv.leave {n gk r0 : Nat} {d : Int} {st : List Int × List Nat} (h : FInv n gk r0 d st) : OInv n (gk - 1) (st.1, st.2.tail) := by
  obtain ⟨rest, hr⟩ := h.hd
  have hm := h.meas
  rw [hr] at hm
  simp only [List.length_cons] at hm
  refine ⟨h.len, fun r hr' => h.mem r (List.mem_of_mem_tail hr'), fun v hv => ⟨(h.top v hv).1, by have := (h.top v hv).2; omega⟩, ?_⟩
  simp only [hr, List.tail_cons]
  omega
theorem negs_replicate (n : Nat) : negs (List.replicate n (-1)) = n := by simp [negs, List.countP_replicate]
theorem OInv.start {n src : Nat} (h : src < n) : OInv n n ((List.replicate n (-1)).set src 0, [src]) := by
  have hl : src < (List.replicate n (-1 : Int)).length := by simpa using h
  have hg : (List.replicate n (-1 : Int)).getD src 0 = -1 := by simp [List.getD, h]
  refine ⟨by simp, ?_, ?_, ?_⟩
  · intro r hr
    simp only [List.mem_singleton] at hr
    subst hr
    refine ⟨h, ?_⟩
    rw [getD_set_self hl]
    omega
  · intro v hv
    rcases List.mem_or_eq_of_mem_set hv with h1 | rfl
    · have := List.eq_of_mem_replicate h1
      omega
    · omega
  · have h1 := negs_set (l := List.replicate n (-1)) (k := src) (v := 0) hl (by rw [hg]; omega) (by omega)
    rw [negs_replicate] at h1
    simp only [List.length_singleton]
    omega
theorem fhas_lt {l : List Nod} {id : Int} (h : fhas l id = true) : fpos l id < l.length := by
  unfold fhas eqAt at h
  split at h
  · rename_i d hd
    exact (List.getElem?_eq_some_iff.1 hd).1
  · cases h
theorem map_getD {l : List Int} {k : Nat} (h : k < l.length) : (l.map (Value.int .i64))[k]? = some (.int .i64 (l.getD k 0)) := by
  simp [List.getD, h]
theorem farEnd_no {nodes : List Nod} {id d : Int} {e : Int × Int} {st : List Int × List Nat} (h : ¬ (e.1 = id ∧ fhas nodes e.2 = true ∧ st.1.getD (fpos nodes e.2) 0 < 0)) : farEnd nodes id d e st = st := by
  unfold farEnd; rw [if_neg h]
theorem farEnd_yes {nodes : List Nod} {id d : Int} {e : Int × Int} {st : List Int × List Nat} (h : e.1 = id ∧ fhas nodes e.2 = true ∧ st.1.getD (fpos nodes e.2) 0 < 0) :
    farEnd nodes id d e st = (st.1.set (fpos nodes e.2) (d + 1), st.2 ++ [fpos nodes e.2]) := by
  unfold farEnd; rw [if_pos h]
theorem fold_drop {α β : Type} {f : β → α → β} {l : List α} {k : Nat} {e : α} {x s : β} (h : x = (l.drop k).foldl f s) (he : l[k]? = some e) : x = (l.drop (k + 1)).foldl f (f s e) := by
  rw [h, drop_cons he]; rfl
end Go.Proofs.Ytdfeloeainabjaa
