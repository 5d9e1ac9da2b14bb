/- Parts: DbR, OpenA. -/
import Derived.Test.YtfjnkidblalckaaMg09
import Derived.Test.YtfjnkidblalckaaMg01
import Derived.Test.YtfjnkidblalckaaRows
import Derived.Deep.Slices
import Derived.Lib.SmallJoins
import Derived.JoinedCond
import Derived.Carry
/- Plain: what is between two right graphs, op by op, makes of the one the other. No condition. -/
namespace Go.Proofs.Ytfjnkidblalckaa
open Go

/-- A node of just that id and kind. -/
def keptN (g : Grf) (n : Nod) : Option Nod := match g.nodes[fpos g.nodes n.id]? with
  | some m => if fhas g.nodes n.id = true ∧ m.kind = n.kind then some m else none
  | none => none
def propsL (a b : Nod) : List Opr := (a.props.filter fun p => !rhas b.props p.name).map (fun p => unsetOpr a.id p.name) ++ (b.props.filter fun p => decide (p ∉ a.props)).map (setOpr a.id)
def lostIds (a b : Grf) : List Int := (a.nodes.filter fun n => (keptN b n).isNone).map (·.id)
def diffL (a b : Grf) : List Opr :=
  (a.ties.filter fun t => decide (t ∉ b.ties)).map looseOpr ++ ((lostIds a b).map goneOpr ++ ((b.nodes.filter fun n => (keptN a n).isNone).map newOpr ++
    (a.nodes.flatMap (fun n => match keptN b n with | some o => propsL n o | none => []) ++ (b.ties.filter fun t => decide (t ∉ a.ties ∨ t.src ∈ lostIds a b ∨ t.dst ∈ lostIds a b)).map bindOpr)))
theorem kept_iff {g : Grf} (h : grfE g = 0) {n m : Nod} : keptN g n = some m ↔ m ∈ g.nodes ∧ m.id = n.id ∧ m.kind = n.kind := by
  unfold keptN
  constructor
  · intro hk
    cases hq : g.nodes[fpos g.nodes n.id]? with
    | none => rw [hq] at hk; cases hk
    | some x =>
      rw [hq] at hk
      simp only at hk
      split at hk
      · rename_i hc
        injection hk with hk
        subst hk
        obtain ⟨y, hy, e⟩ := (fhas_mem h n.id).1 hc.1
        have := (fpos_of h hy).2
        rw [e, hq] at this
        injection this with this
        subst this
        exact ⟨hy, e, hc.2⟩
      · cases hk
  · rintro ⟨h1, h2, h3⟩
    obtain ⟨p1, p2⟩ := fpos_of h h1
    rw [h2] at p1 p2
    rw [p2]
    simp only
    rw [if_pos ⟨p1, h3⟩]
theorem all_cons {g : Grf} {o : Opr} {l : List Opr} (h : opE g o = 0) : allE g (o :: l) = allE (opG g o) l ∧ allG g (o :: l) = allG (opG g o) l := by
  constructor
  · rw [allE, if_pos h]
  · rw [allG, if_pos h]
theorem all_append {l m : List Opr} : ∀ {g : Grf}, allE g l = 0 → allE g (l ++ m) = allE (allG g l) m ∧ allG g (l ++ m) = allG (allG g l) m := by
  induction l with
  | nil => intro g _; exact ⟨rfl, rfl⟩
  | cons o r ih =>
    intro g h
    unfold allE at h
    by_cases h0 : opE g o = 0
    · rw [if_pos h0] at h
      obtain ⟨i1, i2⟩ := ih h
      have e1 := all_cons (l := r ++ m) h0
      have e2 := all_cons (l := r) h0
      rw [List.cons_append, e1.1, e1.2, e2.2]
      exact ⟨i1, i2⟩
    · rw [if_neg h0] at h; exact absurd h h0
theorem loose_all : ∀ (ts : List Tie) {g : Grf}, grfE g = 0 → (∀ t ∈ ts, t ∈ g.ties) → ts.Nodup → allE g (ts.map looseOpr) = 0 ∧ (allG g (ts.map looseOpr)).nodes = g.nodes ∧ ∀ u, u ∈ (allG g (ts.map looseOpr)).ties ↔ u ∈ g.ties ∧ u ∉ ts
  | [], g, _, _, _ => ⟨rfl, rfl, fun u => by simp [allG]⟩
  | t :: ts, g, h, hm, hn => by
    obtain ⟨n1, n2⟩ := List.nodup_cons.1 hn
    obtain ⟨a1, a2, a3⟩ := loose_op h (hm t (by simp))
    obtain ⟨b1, b2, b3⟩ := loose_all ts (op_right h a1) (fun t' ht' => (a3 t').2 ⟨hm t' (by simp [ht']), fun e => n1 (by rw [← e]; exact ht')⟩) n2
    rw [List.map_cons, (all_cons a1).1, (all_cons a1).2]
    refine ⟨b1, b2.trans a2, fun u => ?_⟩
    rw [b3, a3, List.mem_cons]
    constructor
    · rintro ⟨⟨c1, c2⟩, c3⟩; exact ⟨c1, fun e => e.elim c2 c3⟩
    · rintro ⟨c1, c2⟩; exact ⟨⟨c1, fun e => c2 (.inl e)⟩, fun e => c2 (.inr e)⟩
theorem gone_all : ∀ (ids : List Int) {g : Grf}, grfE g = 0 → (∀ i ∈ ids, ∃ n ∈ g.nodes, n.id = i) → ids.Nodup → allE g (ids.map goneOpr) = 0 ∧ (∀ m, m ∈ (allG g (ids.map goneOpr)).nodes ↔ m ∈ g.nodes ∧ m.id ∉ ids) ∧ ∀ u, u ∈ (allG g (ids.map goneOpr)).ties ↔ u ∈ g.ties ∧ u.src ∉ ids ∧ u.dst ∉ ids
  | [], g, _, _, _ => ⟨rfl, fun u => by simp [allG], fun u => by simp [allG]⟩
  | i :: ids, g, h, hm, hn => by
    obtain ⟨n1, n2⟩ := List.nodup_cons.1 hn
    obtain ⟨a1, a2, a3⟩ := gone_op h (hm i (by simp))
    obtain ⟨b1, b2, b3⟩ := gone_all ids (op_right h a1) (fun j hj => by
      obtain ⟨n, hn1, hn2⟩ := hm j (by simp [hj])
      exact ⟨n, (a2 n).2 ⟨hn1, fun e => n1 (by rw [← e, hn2]; exact hj)⟩, hn2⟩) n2
    rw [List.map_cons, (all_cons a1).1, (all_cons a1).2]
    refine ⟨b1, fun m => ?_, fun u => ?_⟩
    · rw [b2, a2, List.mem_cons]
      constructor
      · rintro ⟨⟨c1, c2⟩, c3⟩; exact ⟨c1, fun e => e.elim c2 c3⟩
      · rintro ⟨c1, c2⟩; exact ⟨⟨c1, fun e => c2 (.inl e)⟩, fun e => c2 (.inr e)⟩
    · rw [b3, a3, List.mem_cons, List.mem_cons]
      constructor
      · rintro ⟨⟨c1, c2, c3⟩, c4, c5⟩; exact ⟨c1, fun e => e.elim c2 c4, fun e => e.elim c3 c5⟩
      · rintro ⟨c1, c2, c3⟩; exact ⟨⟨c1, fun e => c2 (.inl e), fun e => c3 (.inl e)⟩, fun e => c2 (.inr e), fun e => c3 (.inr e)⟩
theorem ids_pw {g : Grf} (h : grfE g = 0) : (g.nodes.map (·.id)).Pairwise (fun a b : Int => a < b) := by
  rw [List.pairwise_map]
  refine (nods_pw h).imp fun {a b} hab => ?_
  unfold nodLt at hab
  exact of_decide_eq_true hab
theorem names_pw {r : List Prp} (h : recE r = 0) : (r.map (·.name)).Pairwise (fun a b => cmpS a b < 0) := by
  rw [List.pairwise_map]
  exact (prps_pw h).imp fun {a b} hab => prpLt_iff.1 hab
theorem cmpS_ir : ∀ a : ByteArray, ¬ cmpS a a < 0 := fun a h => by have := (cmpS_zero (a := a) (b := a)).2 rfl; omega
theorem new_all {b : Grf} (hb : grfE b = 0) : ∀ (ns : List Nod) {g : Grf}, grfE g = 0 → (∀ n ∈ ns, n ∈ b.nodes) → ns.Pairwise (fun x y => x.id ≠ y.id) → (∀ m ∈ g.nodes, ∀ n ∈ ns, m.id ≠ n.id) → (∀ m ∈ g.nodes, ∃ o ∈ b.nodes, o.id = m.id) →
    allE g (ns.map newOpr) = 0 ∧ (∀ m, m ∈ (allG g (ns.map newOpr)).nodes ↔ m ∈ g.nodes ∨ m ∈ ns) ∧ (allG g (ns.map newOpr)).ties = g.ties
  | [], g, _, _, _, _, _ => ⟨rfl, fun u => by simp [allG], rfl⟩
  | n :: ns, g, h, hm, hn, hd, hs => by
    obtain ⟨n1, n2⟩ := List.pairwise_cons.1 hn
    have hnb := hm n (by simp)
    have hl : g.nodes.length < 60 := by
      have h1 := pw_short (R := fun a b : Int => a < b) (fun a b c => Int.lt_trans) (fun a => Int.lt_irrefl a) (ids_pw h) (ids_pw hb) (fun x hx => by
        obtain ⟨m, hm1, rfl⟩ := List.mem_map.1 hx
        obtain ⟨o, ho, e⟩ := hs m hm1
        exact List.mem_map.2 ⟨o, ho, e⟩) (y := n.id) (List.mem_map.2 ⟨n, hnb, rfl⟩) (fun hx => by
        obtain ⟨m, hm1, e⟩ := List.mem_map.1 hx
        exact hd m hm1 n (by simp) e)
      rw [List.length_map, List.length_map] at h1
      have := (grf_ok hb).1
      omega
    obtain ⟨a1, a2, a3⟩ := new_op h (fun m hm1 => hd m hm1 n (by simp)) hl ((grf_ok hb).2.2.2 n hnb).2
    obtain ⟨b1, b2, b3⟩ := new_all hb ns (op_right h a1) (fun x hx => hm x (by simp [hx])) n2 (fun m hm1 x hx => by
      rcases (a2 m).1 hm1 with h1 | rfl
      · exact hd m h1 x (by simp [hx])
      · exact n1 x hx) (fun m hm1 => by
      rcases (a2 m).1 hm1 with h1 | rfl
      · exact hs m h1
      · exact ⟨_, hnb, rfl⟩)
    rw [List.map_cons, (all_cons a1).1, (all_cons a1).2]
    refine ⟨b1, fun m => ?_, b3.trans a3⟩
    rw [b2, a2, List.mem_cons, or_assoc]
theorem bind_all {b : Grf} (hb : grfE b = 0) : ∀ (ts : List Tie) {g : Grf}, grfE g = 0 → (∀ t ∈ ts, t ∈ b.ties) → ts.Nodup → (∀ t ∈ ts, t ∉ g.ties) → (∀ u ∈ g.ties, u ∈ b.ties) →
    allE g (ts.map bindOpr) = 0 ∧ (allG g (ts.map bindOpr)).nodes = g.nodes ∧ ∀ u, u ∈ (allG g (ts.map bindOpr)).ties ↔ u ∈ g.ties ∨ u ∈ ts
  | [], g, _, _, _, _, _ => ⟨rfl, rfl, fun u => by simp [allG]⟩
  | t :: ts, g, h, hm, hn, hd, hs => by
    obtain ⟨n1, n2⟩ := List.nodup_cons.1 hn
    have hl : g.ties.length < 120 := by
      have h1 := pw_short tieLt_tr tieLt_ir (ties_pw h) (ties_pw hb) hs (hm t (by simp)) (hd t (by simp))
      have := (grf_ok hb).2.1
      omega
    obtain ⟨a1, a2, a3⟩ := bind_op h (hd t (by simp)) hl ((grf_ties hb).2 t (hm t (by simp)))
    obtain ⟨b1, b2, b3⟩ := bind_all hb ts (op_right h a1) (fun x hx => hm x (by simp [hx])) n2 (fun x hx hin => by
      rcases (a3 x).1 hin with h1 | rfl
      · exact hd x (by simp [hx]) h1
      · exact n1 hx) (fun u hu => by
      rcases (a3 u).1 hu with h1 | rfl
      · exact hs u h1
      · exact hm _ (by simp))
    rw [List.map_cons, (all_cons a1).1, (all_cons a1).2]
    refine ⟨b1, b2.trans a2, fun u => ?_⟩
    rw [b3, a3, List.mem_cons, or_assoc]
/-! ### The records -/
theorem unset_all (id : Int) (kd : ByteArray) : ∀ (ps : List Prp) {g : Grf} {r : List Prp}, grfE g = 0 → (⟨id, kd, r⟩ : Nod) ∈ g.nodes → recE r = 0 → (∀ p ∈ ps, p ∈ r) → ps.Pairwise (fun x y => x.name ≠ y.name) →
    ∃ r', recE r' = 0 ∧ (∀ q, q ∈ r' ↔ q ∈ r ∧ ∀ p ∈ ps, q.name ≠ p.name) ∧ allE g (ps.map fun p => unsetOpr id p.name) = 0 ∧ (∀ m, m ∈ (allG g (ps.map fun p => unsetOpr id p.name)).nodes ↔ (m ∈ g.nodes ∧ m.id ≠ id) ∨ m = ⟨id, kd, r'⟩) ∧ (allG g (ps.map fun p => unsetOpr id p.name)).ties = g.ties
  | [], g, r, h, hn, hr, _, _ => ⟨r, hr, fun q => by simp, rfl, fun m => by
      show m ∈ g.nodes ↔ _
      constructor
      · intro hm
        by_cases e : m.id = id
        · exact .inr (id_uniq h hm hn e)
        · exact .inl ⟨hm, e⟩
      · rintro (⟨hm, _⟩ | rfl)
        · exact hm
        · exact hn, rfl⟩
  | p :: ps, g, r, h, hn, hr, hm, hd => by
    obtain ⟨n1, n2⟩ := List.pairwise_cons.1 hd
    obtain ⟨u1, u2⟩ := unset_rec hr (hm p (by simp))
    obtain ⟨a1, a2, a3⟩ := unset_op h hn (nm := p.name) u1
    have a1 : opE g (unsetOpr id p.name) = 0 := a1
    have hn1 : (⟨id, kd, unsetR r p.name⟩ : Nod) ∈ (opG g (unsetOpr id p.name)).nodes := (a2 _).2 (.inr rfl)
    obtain ⟨r', c1, c2, c3, c4, c5⟩ := unset_all id kd ps (op_right h a1) hn1 (unset_right u1) (fun x hx => (u2 x).2 ⟨hm x (by simp [hx]), (n1 x hx).symm⟩) n2
    refine ⟨r', c1, fun q => ?_, ?_⟩
    · rw [c2, u2]
      constructor
      · rintro ⟨⟨d1, d2⟩, d3⟩
        refine ⟨d1, fun x hx => ?_⟩
        rcases List.mem_cons.1 hx with rfl | hx
        · exact d2
        · exact d3 x hx
      · rintro ⟨d1, d2⟩
        exact ⟨⟨d1, d2 p (by simp)⟩, fun x hx => d2 x (by simp [hx])⟩
    · rw [List.map_cons, (all_cons a1).1, (all_cons a1).2]
      refine ⟨c3, fun m => ?_, c5.trans a3⟩
      rw [c4]
      constructor
      · rintro (⟨d1, d2⟩ | d1)
        · rcases (a2 m).1 d1 with d3 | rfl
          · exact .inl d3
          · exact absurd rfl d2
        · exact .inr d1
      · rintro (d1 | d1)
        · exact .inl ⟨(a2 m).2 (.inl d1), d1.2⟩
        · exact .inr d1
theorem set_all (id : Int) (kd : ByteArray) {o : List Prp} (ho : recE o = 0) : ∀ (qs : List Prp) {g : Grf} {r : List Prp}, grfE g = 0 → (⟨id, kd, r⟩ : Nod) ∈ g.nodes → recE r = 0 → (∀ p ∈ qs, p ∈ o) → qs.Pairwise (fun x y => x.name ≠ y.name) → (∀ p ∈ r, ∃ q ∈ o, q.name = p.name) →
    ∃ r', recE r' = 0 ∧ (∀ q, q ∈ r' ↔ (q ∈ r ∧ ∀ p ∈ qs, q.name ≠ p.name) ∨ q ∈ qs) ∧ allE g (qs.map (setOpr id)) = 0 ∧ (∀ m, m ∈ (allG g (qs.map (setOpr id))).nodes ↔ (m ∈ g.nodes ∧ m.id ≠ id) ∨ m = ⟨id, kd, r'⟩) ∧ (allG g (qs.map (setOpr id))).ties = g.ties
  | [], g, r, h, hn, hr, _, _, _ => ⟨r, hr, fun q => by simp, rfl, fun m => by
      show m ∈ g.nodes ↔ _
      constructor
      · intro hm
        by_cases e : m.id = id
        · exact .inr (id_uniq h hm hn e)
        · exact .inl ⟨hm, e⟩
      · rintro (⟨hm, _⟩ | rfl)
        · exact hm
        · exact hn, rfl⟩
  | p :: ps, g, r, h, hn, hr, hm, hd, hs => by
    obtain ⟨n1, n2⟩ := List.pairwise_cons.1 hd
    have hpo := hm p (by simp)
    have hl : (∃ q ∈ r, q.name = p.name) ∨ r.length < 8 := by
      by_cases hx : ∃ q ∈ r, q.name = p.name
      · exact .inl hx
      · refine .inr ?_
        have h1 := pw_short (R := fun a b => cmpS a b < 0) (fun a b c => cmpS_trans) cmpS_ir (names_pw hr) (names_pw ho) (fun x hx => by
          obtain ⟨q, hq, rfl⟩ := List.mem_map.1 hx
          obtain ⟨z, hz, e⟩ := hs q hq
          exact List.mem_map.2 ⟨z, hz, e⟩) (y := p.name) (List.mem_map.2 ⟨p, hpo, rfl⟩) (fun hy => by
          obtain ⟨q, hq, e⟩ := List.mem_map.1 hy
          exact hx ⟨q, hq, e⟩)
        rw [List.length_map, List.length_map] at h1
        have := (rec_ok ho).1
        omega
    obtain ⟨u1, u2⟩ := set_rec hr ((rec_ok ho).2.1 p hpo) hl
    obtain ⟨a1, a2, a3⟩ := set_op h hn u1
    have a1 : opE g (setOpr id p) = 0 := a1
    have hn1 : (⟨id, kd, setR r p⟩ : Nod) ∈ (opG g (setOpr id p)).nodes := (a2 _).2 (.inr rfl)
    obtain ⟨r', c1, c2, c3, c4, c5⟩ := set_all id kd ho ps (op_right h a1) hn1 (set_right u1) (fun x hx => hm x (by simp [hx])) n2 (fun x hx => by
      rcases (u2 x).1 hx with d | rfl
      · exact hs x d.1
      · exact ⟨_, hpo, rfl⟩)
    refine ⟨r', c1, fun q => ?_, ?_⟩
    · rw [c2, u2, List.mem_cons]
      constructor
      · rintro (⟨d1 | rfl, d3⟩ | d1)
        · refine .inl ⟨d1.1, fun x hx => ?_⟩
          rcases List.mem_cons.1 hx with rfl | hx
          · exact d1.2
          · exact d3 x hx
        · exact .inr (.inl rfl)
        · exact .inr (.inr d1)
      · rintro (⟨d1, d2⟩ | rfl | d1)
        · exact .inl ⟨.inl ⟨d1, d2 p (by simp)⟩, fun x hx => d2 x (by simp [hx])⟩
        · exact .inl ⟨.inr rfl, fun x hx => n1 x hx⟩
        · exact .inr d1
    · rw [List.map_cons, (all_cons a1).1, (all_cons a1).2]
      refine ⟨c3, fun m => ?_, c5.trans a3⟩
      rw [c4]
      constructor
      · rintro (⟨d1, d2⟩ | d1)
        · rcases (a2 m).1 d1 with d3 | rfl
          · exact .inl d3
          · exact absurd rfl d2
        · exact .inr d1
      · rintro (d1 | d1)
        · exact .inl ⟨(a2 m).2 (.inl d1), d1.2⟩
        · exact .inr d1
theorem pw_names {r : List Prp} (h : recE r = 0) : r.Pairwise (fun x y => x.name ≠ y.name) :=
  (prps_pw h).imp fun {a b} hab e => by
    rw [prpLt_iff, e] at hab
    exact cmpS_ir _ hab
theorem props_all {g : Grf} (h : grfE g = 0) {n o : Nod} (hn : n ∈ g.nodes) (hnr : recE n.props = 0) (ho : recE o.props = 0) (hi : o.id = n.id) (hk : o.kind = n.kind) :
    allE g (propsL n o) = 0 ∧ (∀ m, m ∈ (allG g (propsL n o)).nodes ↔ (m ∈ g.nodes ∧ m.id ≠ n.id) ∨ m = o) ∧ (allG g (propsL n o)).ties = g.ties := by
  obtain ⟨r1, a1, a2, a3, a4, a5⟩ := unset_all n.id n.kind (n.props.filter fun p => !rhas o.props p.name) h (r := n.props) hn hnr (fun p hp => (List.mem_filter.1 hp).1) ((pw_names hnr).filter _)
  have hg1 := all_right h a3
  have hn1 : (⟨n.id, n.kind, r1⟩ : Nod) ∈ (allG g ((n.props.filter fun p => !rhas o.props p.name).map fun p => unsetOpr n.id p.name)).nodes := (a4 _).2 (.inr rfl)
  have hin : ∀ q, q ∈ r1 → q ∈ n.props ∧ ∃ z ∈ o.props, z.name = q.name := fun q hq => by
    obtain ⟨d1, d2⟩ := (a2 q).1 hq
    refine ⟨d1, ?_⟩
    cases hh : rhas o.props q.name with
    | true => exact (rhas_mem ho q.name).1 hh
    | false => exact absurd rfl (d2 q (List.mem_filter.2 ⟨d1, by rw [hh]; rfl⟩))
  obtain ⟨r2, b1, b2, b3, b4, b5⟩ := set_all n.id n.kind ho (o.props.filter fun p => decide (p ∉ n.props)) hg1 hn1 a1 (fun p hp => (List.mem_filter.1 hp).1) ((pw_names ho).filter _) (fun p hp => (hin p hp).2)
  have hr2 : r2 = o.props := by
    refine pw_ext prpLt_tr prpLt_ir (prps_pw b1) (prps_pw ho) fun q => ?_
    rw [b2]
    constructor
    · rintro (⟨d1, d2⟩ | d1)
      · obtain ⟨e1, z, ez, en⟩ := hin q d1
        by_cases hz : z ∈ n.props
        · rw [← name_uniq hnr hz e1 en]; exact ez
        · exact absurd en.symm (d2 z (List.mem_filter.2 ⟨ez, decide_eq_true hz⟩))
      · exact (List.mem_filter.1 d1).1
    · intro hq
      by_cases hz : q ∈ n.props
      · refine .inl ⟨(a2 q).2 ⟨hz, fun p hp e => ?_⟩, fun p hp e => ?_⟩
        · have h1 := (List.mem_filter.1 hp).2
          have h2 := (rhas_mem ho p.name).2 ⟨q, hq, e⟩
          rw [h2] at h1; cases h1
        · obtain ⟨p1, p2⟩ := List.mem_filter.1 hp
          have p2 := of_decide_eq_true p2
          rw [← name_uniq ho hq p1 e] at p2
          exact p2 hz
      · exact .inr (List.mem_filter.2 ⟨hq, decide_eq_true hz⟩)
  have ho2 : (⟨n.id, n.kind, r2⟩ : Nod) = o := by rw [hr2, ← hi, ← hk]
  unfold propsL
  rw [(all_append a3).1, (all_append a3).2]
  refine ⟨b3, fun m => ?_, b5.trans a5⟩
  rw [b4, ho2]
  constructor
  · rintro (⟨d1, d2⟩ | d1)
    · rcases (a4 m).1 d1 with d3 | rfl
      · exact .inl d3
      · exact absurd rfl d2
    · exact .inr d1
  · rintro (d1 | d1)
    · exact .inl ⟨(a4 m).2 (.inl d1), d1.2⟩
    · exact .inr d1
theorem nod_rec0 {g : Grf} (h : grfE g = 0) {n : Nod} (hn : n ∈ g.nodes) : recE n.props = 0 := by
  have h5 := ((grf_ok h).2.2.2 n hn).2
  unfold nodE at h5
  split at h5
  · cases h5
  · split at h5
    · exact h5
    · rename_i h6; exact absurd h5 h6
theorem keep_all {b : Grf} (hb : grfE b = 0) : ∀ (ns : List Nod) {g : Grf}, grfE g = 0 → ns.Pairwise (fun x y => x.id ≠ y.id) → (∀ n ∈ ns, (keptN b n).isSome = true → n ∈ g.nodes) →
    allE g (ns.flatMap fun n => match keptN b n with | some o => propsL n o | none => []) = 0 ∧
    (∀ m, m ∈ (allG g (ns.flatMap fun n => match keptN b n with | some o => propsL n o | none => [])).nodes ↔ (m ∈ g.nodes ∧ ∀ n ∈ ns, (keptN b n).isSome = true → m.id ≠ n.id) ∨ ∃ n ∈ ns, keptN b n = some m) ∧
    (allG g (ns.flatMap fun n => match keptN b n with | some o => propsL n o | none => [])).ties = g.ties
  | [], g, _, _, _ => ⟨rfl, fun m => by simp [allG], rfl⟩
  | n :: ns, g, h, hd, hm => by
    obtain ⟨n1, n2⟩ := List.pairwise_cons.1 hd
    rw [List.flatMap_cons]
    cases hq : keptN b n with
    | none =>
      obtain ⟨b1, b2, b3⟩ := keep_all hb ns h n2 (fun x hx => hm x (by simp [hx]))
      simp only [List.nil_append]
      refine ⟨b1, fun m => ?_, b3⟩
      rw [b2]
      constructor
      · rintro (⟨d1, d2⟩ | ⟨x, hx, e⟩)
        · refine .inl ⟨d1, fun x hx hk => ?_⟩
          rcases List.mem_cons.1 hx with rfl | hx
          · rw [hq] at hk; cases hk
          · exact d2 x hx hk
        · exact .inr ⟨x, by simp [hx], e⟩
      · rintro (⟨d1, d2⟩ | ⟨x, hx, e⟩)
        · exact .inl ⟨d1, fun x hx hk => d2 x (by simp [hx]) hk⟩
        · rcases List.mem_cons.1 hx with rfl | hx
          · rw [hq] at e; cases e
          · exact .inr ⟨x, hx, e⟩
    | some o =>
      obtain ⟨k1, k2, k3⟩ := (kept_iff hb).1 hq
      have hng := hm n (by simp) (by rw [hq]; rfl)
      obtain ⟨a1, a2, a3⟩ := props_all h hng (nod_rec0 h hng) (nod_rec0 hb k1) k2 k3
      simp only
      have hg1 := all_right h a1
      obtain ⟨b1, b2, b3⟩ := keep_all hb ns hg1 n2 (fun x hx hk => (a2 x).2 (.inl ⟨hm x (by simp [hx]) hk, (n1 x hx).symm⟩))
      rw [(all_append a1).1, (all_append a1).2]
      refine ⟨b1, fun m => ?_, b3.trans a3⟩
      rw [b2]
      constructor
      · rintro (⟨d1, d2⟩ | ⟨x, hx, e⟩)
        · rcases (a2 m).1 d1 with d3 | rfl
          · refine .inl ⟨d3.1, fun x hx hk => ?_⟩
            rcases List.mem_cons.1 hx with rfl | hx
            · exact d3.2
            · exact d2 x hx hk
          · exact .inr ⟨n, by simp, hq⟩
        · exact .inr ⟨x, by simp [hx], e⟩
      · rintro (⟨d1, d2⟩ | ⟨x, hx, e⟩)
        · exact .inl ⟨(a2 m).2 (.inl ⟨d1, d2 n (by simp) (by rw [hq]; rfl)⟩), fun x hx hk => d2 x (by simp [hx]) hk⟩
        · rcases List.mem_cons.1 hx with rfl | hx
          · rw [hq] at e
            injection e with e
            subst e
            refine .inl ⟨(a2 o).2 (.inr rfl), fun x hx hk => ?_⟩
            rw [k2]; exact n1 x hx
          · exact .inr ⟨x, hx, e⟩
theorem nods_ids {g : Grf} (h : grfE g = 0) : g.nodes.Pairwise (fun x y => x.id ≠ y.id) :=
  (nods_pw h).imp fun {a b} hab e => by
    unfold nodLt at hab
    have := of_decide_eq_true hab
    omega
theorem ties_nodup {g : Grf} (h : grfE g = 0) : g.ties.Nodup :=
  (ties_pw h).imp fun {a b} hab e => by subst e; exact tieLt_ir a hab
/-- What is between two right graphs makes of the one the other. -/
theorem diff_all {a b : Grf} (ha : grfE a = 0) (hb : grfE b = 0) : allE a (diffL a b) = 0 ∧ allG a (diffL a b) = b := by
  have hlost : ∀ i, i ∈ lostIds a b ↔ ∃ n ∈ a.nodes, n.id = i ∧ keptN b n = none := fun i => by
    unfold lostIds
    simp only [List.mem_map, List.mem_filter, Option.isNone_iff_eq_none]
    constructor
    · rintro ⟨n, ⟨h1, h2⟩, h3⟩; exact ⟨n, h1, h3, h2⟩
    · rintro ⟨n, h1, h3, h2⟩; exact ⟨n, ⟨h1, h2⟩, h3⟩
  obtain ⟨p1, p2, p3⟩ := loose_all (a.ties.filter fun t => decide (t ∉ b.ties)) ha (fun t ht => (List.mem_filter.1 ht).1) ((ties_nodup ha).filter _)
  have g1 := all_right ha p1
  have hd : diffL a b = (a.ties.filter fun t => decide (t ∉ b.ties)).map looseOpr ++ ((lostIds a b).map goneOpr ++ ((b.nodes.filter fun n => (keptN a n).isNone).map newOpr ++
    (a.nodes.flatMap (fun n => match keptN b n with | some o => propsL n o | none => []) ++ (b.ties.filter fun t => decide (t ∉ a.ties ∨ t.src ∈ lostIds a b ∨ t.dst ∈ lostIds a b)).map bindOpr))) := rfl
  rw [hd, (all_append p1).1, (all_append p1).2]
  generalize allG a ((a.ties.filter fun t => decide (t ∉ b.ties)).map looseOpr) = G1 at *
  have hln : (lostIds a b).Nodup := by
    unfold lostIds
    unfold List.Nodup
    rw [List.pairwise_map]
    exact (nods_ids ha).filter _
  obtain ⟨q1, q2, q3⟩ := gone_all (lostIds a b) g1 (fun i hi => by
    obtain ⟨n, h1, h2, _⟩ := (hlost i).1 hi
    exact ⟨n, by rw [p2]; exact h1, h2⟩) hln
  have g2 := all_right g1 q1
  rw [(all_append q1).1, (all_append q1).2]
  generalize allG G1 ((lostIds a b).map goneOpr) = G2 at *
  have n2 : ∀ m, m ∈ G2.nodes ↔ m ∈ a.nodes ∧ ∃ o, keptN b m = some o := fun m => by
    rw [q2, p2, hlost]
    constructor
    · rintro ⟨h1, h2⟩
      refine ⟨h1, ?_⟩
      cases hk : keptN b m with
      | some o => exact ⟨o, rfl⟩
      | none => exact absurd ⟨m, h1, rfl, hk⟩ h2
    · rintro ⟨h1, o, h2⟩
      refine ⟨h1, ?_⟩
      rintro ⟨n, e1, e2, e3⟩
      rw [id_uniq ha e1 h1 e2, h2] at e3
      cases e3
  have t2 : ∀ u, u ∈ G2.ties ↔ (u ∈ a.ties ∧ u ∈ b.ties) ∧ u.src ∉ lostIds a b ∧ u.dst ∉ lostIds a b := fun u => by
    rw [q3, p3, List.mem_filter]
    constructor
    · rintro ⟨⟨h1, h2⟩, h3⟩
      refine ⟨⟨h1, ?_⟩, h3⟩
      by_cases hx : u ∈ b.ties
      · exact hx
      · exact absurd ⟨h1, decide_eq_true hx⟩ h2
    · rintro ⟨⟨h1, h2⟩, h3⟩
      exact ⟨⟨h1, fun h => of_decide_eq_true h.2 h2⟩, h3⟩
  obtain ⟨r1, r2, r3⟩ := new_all hb (b.nodes.filter fun n => (keptN a n).isNone) g2 (fun n hn => (List.mem_filter.1 hn).1) ((nods_ids hb).filter _) (fun m hm n hn e => by
    obtain ⟨h1, o, h2⟩ := (n2 m).1 hm
    obtain ⟨h3, h4⟩ := List.mem_filter.1 hn
    obtain ⟨k1, k2, k3⟩ := (kept_iff hb).1 h2
    have hon : o = n := id_uniq hb k1 h3 (by rw [k2, e])
    subst hon
    have : keptN a o = some m := (kept_iff ha).2 ⟨h1, k2.symm, k3.symm⟩
    rw [this] at h4; cases h4) (fun m hm => by
    obtain ⟨h1, o, h2⟩ := (n2 m).1 hm
    obtain ⟨k1, k2, _⟩ := (kept_iff hb).1 h2
    exact ⟨o, k1, k2⟩)
  have g3 := all_right g2 r1
  rw [(all_append r1).1, (all_append r1).2]
  generalize allG G2 ((b.nodes.filter fun n => (keptN a n).isNone).map newOpr) = G3 at *
  obtain ⟨s1, s2, s3⟩ := keep_all hb a.nodes g3 (nods_ids ha) (fun n hn hk => by
    obtain ⟨o, ho⟩ := Option.isSome_iff_exists.1 hk
    exact (r2 n).2 (.inl ((n2 n).2 ⟨hn, o, ho⟩)))
  have g4 := all_right g3 s1
  rw [(all_append s1).1, (all_append s1).2]
  generalize allG G3 (a.nodes.flatMap fun n => match keptN b n with | some o => propsL n o | none => []) = G4 at *
  have n4 : ∀ m, m ∈ G4.nodes ↔ m ∈ b.nodes := fun m => by
    rw [s2]
    constructor
    · rintro (⟨h1, h2⟩ | ⟨n, _, h2⟩)
      · rcases (r2 m).1 h1 with h3 | h3
        · obtain ⟨e1, o, e2⟩ := (n2 m).1 h3
          exact absurd rfl (h2 m e1 (by rw [e2]; rfl))
        · exact (List.mem_filter.1 h3).1
      · exact ((kept_iff hb).1 h2).1
    · intro hm
      cases hk : keptN a m with
      | some n =>
        obtain ⟨k1, k2, k3⟩ := (kept_iff ha).1 hk
        exact .inr ⟨n, k1, (kept_iff hb).2 ⟨hm, k2.symm, k3.symm⟩⟩
      | none =>
        refine .inl ⟨(r2 m).2 (.inr (List.mem_filter.2 ⟨hm, by rw [hk]; rfl⟩)), fun n hn hs e => ?_⟩
        obtain ⟨o, ho⟩ := Option.isSome_iff_exists.1 hs
        obtain ⟨k1, k2, k3⟩ := (kept_iff hb).1 ho
        have hom : o = m := id_uniq hb k1 hm (by rw [k2, e])
        subst hom
        rw [(kept_iff ha).2 ⟨hn, k2.symm, k3.symm⟩] at hk
        cases hk
  have t4 : ∀ u, u ∈ G4.ties ↔ (u ∈ a.ties ∧ u ∈ b.ties) ∧ u.src ∉ lostIds a b ∧ u.dst ∉ lostIds a b := fun u => by rw [s3, r3]; exact t2 u
  obtain ⟨v1, v2, v3⟩ := bind_all hb (b.ties.filter fun t => decide (t ∉ a.ties ∨ t.src ∈ lostIds a b ∨ t.dst ∈ lostIds a b)) g4 (fun t ht => (List.mem_filter.1 ht).1) ((ties_nodup hb).filter _) (fun t ht hin => by
    obtain ⟨⟨h1, _⟩, h2, h3⟩ := (t4 t).1 hin
    rcases of_decide_eq_true (List.mem_filter.1 ht).2 with h | h | h
    · exact h h1
    · exact h2 h
    · exact h3 h) (fun u hu => ((t4 u).1 hu).1.2)
  have g5 := all_right g4 v1
  refine ⟨v1, grf_ext g5 hb (fun n => by rw [v2]; exact n4 n) (fun t => ?_)⟩
  rw [v3, t4, List.mem_filter]
  constructor
  · rintro (h | h)
    · exact h.1.2
    · exact h.1
  · intro h
    by_cases hx : t ∉ a.ties ∨ t.src ∈ lostIds a b ∨ t.dst ∈ lostIds a b
    · exact .inr ⟨h, decide_eq_true hx⟩
    · refine .inl ⟨⟨?_, h⟩, fun e => hx (.inr (.inl e)), fun e => hx (.inr (.inr e))⟩
      by_cases h1 : t ∈ a.ties
      · exact h1
      · exact absurd (.inl h1) hx
end Go.Proofs.Ytfjnkidblalckaa

/- Plain: what comes in, read as data of bulk at most 1048576, lies in memory as the contracts want it. -/
namespace Go.Proofs.Ytfjnkidblalckaa
open Go Go.RowKit Go.Deep Go.ChangeShapes Go.WideShapes Go.Joins

/-! ### Bulk -/
section
variable {H : Type}
theorem bulk_part {d : DataW H} {l : List (DataW H)} (h : d ∈ l) : Rows.uptoBulk d ≤ Rows.uptoBulkAll l := by
  induction l with
  | nil => cases h
  | cons x r ih =>
    simp only [Rows.uptoBulkAll]
    cases List.mem_cons.1 h with
    | inl e => subst e; omega
    | inr e => have := ih e; omega
theorem bulk_small {ds : List (DataW H)} (hk : Rows.uptoSmall H ds = true) {d : DataW H} (h : d ∈ ds) : Rows.uptoBulk d ≤ 1048576 := by
  have h1 : Rows.uptoBulkAll ds ≤ 1048576 := of_decide_eq_true hk
  have := bulk_part h
  omega
end

/-- Data of type t lie as L says. -/
def Opens {D : Type} (P : Program) (L : Lay D) (t : TypeId) : Prop :=
  ∀ (H : Type) (enc : TypeId × Value → H) (w : World) (base : Nat) (spare : Nat → Bool) (held : Bool) (fuel : Nat) (cs : List Value) (x : DataW H × List MemPlace),
    DataW.trod enc P w base spare held fuel t cs = some x → Rows.uptoBulk x.1 ≤ 1048576 → ∃ d, L.cells w d cs

theorem add_off (b o n : Nat) : (⟨b, o, none⟩ : Addr).add n = ⟨b, o + n, none⟩ := by
  unfold Addr.add
  split
  · rename_i h; subst h; rfl
  · rfl

theorem rows_of {D : Type} {L : Lay D} {w : World} {a : Addr} {len : Nat} (h : ∀ i, i < len → ∃ d cs, L.cells w d cs ∧ ∀ j u, cs[j]? = some u → w.cell? ((a.add (i * L.sz)).add j) = some u) :
    ∀ k, k ≤ len → ∃ l : List D, l.length = k ∧ ∀ i d, l[i]? = some d → ∃ cs, L.cells w d cs ∧ ∀ j u, cs[j]? = some u → w.cell? ((a.add (i * L.sz)).add j) = some u
  | 0, _ => ⟨[], rfl, fun i d hi => by simp at hi⟩
  | k + 1, hk => by
    obtain ⟨l, hl, hall⟩ := rows_of h k (by omega)
    obtain ⟨d, cs, hc, hcell⟩ := h k (by omega)
    refine ⟨l ++ [d], by simp [hl], fun i x hi => ?_⟩
    by_cases hik : i < l.length
    · rw [List.getElem?_append_left hik] at hi
      exact hall i x hi
    · rw [List.getElem?_append_right (by omega)] at hi
      have e1 : i - l.length = 0 := by
        have := (List.getElem?_eq_some_iff.1 hi).1
        simp at this; omega
      rw [e1] at hi
      simp at hi
      subst hi
      obtain rfl : i = k := by omega
      exact ⟨cs, hc, hcell⟩

theorem Opens.slice {D : Type} {P : Program} {L : Lay D} {t e : TypeId} (ht : P.underlying t = some (.slice e)) (hC : P.cellsOf e = L.sz) (hs : 0 < L.sz) (h : Opens P L e) : Opens P (slL L) t := by
  intro H enc w base spare held fuel cs x hx hb
  rcases open_slice ht hx with ⟨rfl, rfl⟩ | ⟨a, len, cap, m, n, D', Pl, rfl, hbb, hl, hm, hmm, rfl, hi⟩
  · exact ⟨[], _, rfl, Sl.nil 0 (by unfold maxLen; omega) none⟩
  · have hm' : len ≤ m := by rw [hmm]; split <;> omega
    have hbA : Rows.uptoBulkAll ((List.range len).map D') ≤ 1048576 := by
      simp only [Rows.uptoBulk] at hb
      omega
    have each : ∀ i, i < len → ∃ d cs, L.cells w d cs ∧ ∀ j u, cs[j]? = some u → w.cell? ((a.add (i * L.sz)).add j) = some u := fun i hil => by
      obtain ⟨cs', hc, ht'⟩ := hi i (by omega)
      rw [hC] at hc
      obtain ⟨_, hcl, hat⟩ := World.cells?_some hc
      have hbi : Rows.uptoBulk (D' i) ≤ 1048576 := by
        have := bulk_part (d := D' i) (l := (List.range len).map D') (List.mem_map.2 ⟨i, List.mem_range.2 hil, rfl⟩)
        omega
      obtain ⟨d, hd⟩ := h H enc w base spare held n cs' _ ht' hbi
      refine ⟨d, cs', hd, fun j u hj => ?_⟩
      have hjl : j < L.sz := by have := (List.getElem?_eq_some_iff.1 hj).1; omega
      rw [hat j hjl, hj]
    by_cases h0 : len = 0
    · subst h0
      exact ⟨[], _, rfl, Sl.nil cap hm (some a)⟩
    · obtain ⟨b, o, spot⟩ := a
      have hspot : spot = none := by
        obtain ⟨d, cs', hd, hcell⟩ := each 0 (by omega)
        have hl0 := L.len hd
        have h1 := hcell 0 _ (List.getElem?_eq_getElem (by omega))
        simpa [Addr.add] using World.cell?_spot h1
      subst hspot
      obtain ⟨l, hll, hall⟩ := rows_of each len (Nat.le_refl _)
      subst hll
      refine ⟨l, _, rfl, _, cap, rfl, hl, hm, fun i d hid => ?_⟩
      obtain ⟨cs', hd, hcell⟩ := hall i d hid
      refine ⟨b, o, cs', rfl, hd, fun j u hj => ?_⟩
      have := hcell j u hj
      rw [add_off, add_off, Nat.add_assoc] at this
      exact this

theorem field_at {H : Type} {enc : TypeId × Value → H} {P : Program} {w : World} {base : Nat} {spare : Nat → Bool} {held : Bool} {t : TypeId} {fs : Array Field} {fuel : Nat} {cs : List Value} {x : DataW H × List MemPlace}
    (ht : P.underlying t = some (.struct fs)) (h : DataW.trod enc P w base spare held fuel t cs = some x) (hb : Rows.uptoBulk x.1 ≤ 1048576) :
    cs.length = P.cellsOf t ∧ ∀ {D : Type} {L : Lay D} (i : Nat) (f : Field) (k : Nat), fs[i]? = some f → P.cellsOf f.type = k → Opens P L f.type → ∃ d, L.cells w d ((cs.drop f.offset).take k) := by
  obtain ⟨xs, n, _, rfl, hl, hxl, hf⟩ := DataW.trod_struct ht h
  refine ⟨hl, fun i f k hi hk ho => ?_⟩
  have h1 := hf i f hi
  have hil : i < xs.length := by have := (Array.getElem?_eq_some_iff.1 hi).1; omega
  obtain ⟨y, hy⟩ : ∃ y, xs[i]? = some y := ⟨_, List.getElem?_eq_getElem hil⟩
  rw [hy, hk] at h1
  refine ho H enc w base spare held n _ y h1 ?_
  have := bulk_part (d := y.1) (l := xs.map (·.1)) (List.mem_map.2 ⟨y, List.mem_of_getElem? hy, rfl⟩)
  simp only [Rows.uptoBulk] at hb
  omega

theorem opens_int {P : Program} {t : TypeId} (ht : P.underlying t = some (.int .i64)) : Opens P intL t := by
  intro H enc w base spare held fuel cs x hx hb
  obtain ⟨n, rfl, rfl, hw⟩ := DataW.trod_int ht hx
  refine ⟨n, rfl, ?_⟩
  have e1 : IntKind.i64.min = -9223372036854775808 := rfl
  have e2 : IntKind.i64.max = 9223372036854775807 := rfl
  simp [Lit.wf, e1, e2] at hw
  exact hw
theorem opens_str {P : Program} {t : TypeId} (ht : P.underlying t = some .string) : Opens P strL t := by
  intro H enc w base spare held fuel cs x hx hb
  obtain ⟨s, rfl, rfl, hw⟩ := DataW.trod_string ht hx
  refine ⟨s, rfl, ?_⟩
  simp only [Rows.uptoBulk, Array.length_toList] at hb
  show s.data.size ≤ 1048576
  omega
def boolL : Lay Bool := flatL 1 (fun _ => True) (fun b => [.bool b]) (fun _ => rfl)
theorem opens_bool {P : Program} {t : TypeId} (ht : P.underlying t = some .bool) : Opens P boolL t := by
  intro H enc w base spare held fuel cs x hx hb
  obtain ⟨b, rfl, rfl⟩ := DataW.trod_bool ht hx
  exact ⟨b, rfl, trivial⟩
end Go.Proofs.Ytfjnkidblalckaa
