/- Parts: GrC, TieP, RecT. -/
import Derived.Test.YthefofclbepkoaaMg09
/- Plain: what a right graph gives. -/
namespace Go.Proofs.Ythefofclbepkoaa

/-! ### What a right graph gives -/
theorem nodsE_step {p : Option Nod} {n : Nod} {r : List Nod} (h : nodsE p (n :: r) = 0) : idB n.id = true ∧ nodE n = 0 ∧ nodsE (some n) r = 0 ∧ (∀ a, p = some a → nodLt a n = true) := by
  have h1 : idB n.id = true := by
    cases h1 : idB n.id with
    | true => rfl
    | false => unfold nodsE at h; rw [if_pos h1] at h; cases h
  have key : ∀ b : Bool, (if b = true then (7 : Int) else if nodE n = 0 then nodsE (some n) r else nodE n) = 0 → b = false ∧ nodE n = 0 ∧ nodsE (some n) r = 0 := by
    intro b hb
    cases b with
    | true => cases hb
    | false =>
      simp only [Bool.false_eq_true, if_false] at hb
      by_cases h3 : nodE n = 0
      · rw [if_pos h3] at hb; exact ⟨rfl, h3, hb⟩
      · rw [if_neg h3] at hb; exact absurd hb h3
  have hid : ¬ (idB n.id = false) := by simp [h1]
  cases p with
  | none =>
    unfold nodsE at h
    rw [if_neg hid] at h
    obtain ⟨_, k2, k3⟩ := key false h
    exact ⟨h1, k2, k3, fun a ha => by cases ha⟩
  | some q =>
    unfold nodsE at h
    rw [if_neg hid] at h
    obtain ⟨k1, k2, k3⟩ := key (decide (n.id ≤ q.id)) h
    refine ⟨h1, k2, k3, fun a ha => ?_⟩
    cases ha
    unfold nodLt
    simpa using k1
theorem nodsE_zero : ∀ {l : List Nod} {p : Option Nod}, nodsE p l = 0 → (∀ n ∈ l, idB n.id = true ∧ nodE n = 0) ∧ chain nodLt l = true ∧ (∀ a b, p = some a → l.head? = some b → nodLt a b = true)
  | [], p, _ => ⟨by simp, rfl, by simp⟩
  | n :: r, p, h => by
    obtain ⟨s1, s2, s3, s4⟩ := nodsE_step h
    obtain ⟨i1, i2, i3⟩ := nodsE_zero s3
    refine ⟨?_, ?_, ?_⟩
    · intro m hm
      rcases List.mem_cons.1 hm with rfl | hm
      · exact ⟨s1, s2⟩
      · exact i1 m hm
    · cases r with
      | nil => rfl
      | cons b r => simp only [chain, Bool.and_eq_true]; exact ⟨i3 n b rfl rfl, i2⟩
    · intro a b ha hb
      simp at hb
      subst hb
      exact s4 a ha
theorem grf_ok {g : Grf} (h : grfE g = 0) : g.nodes.length ≤ 60 ∧ g.ties.length ≤ 120 ∧ chain nodLt g.nodes = true ∧ ∀ n ∈ g.nodes, idB n.id = true ∧ nodE n = 0 := by
  unfold grfE at h
  by_cases h1 : 60 < g.nodes.length ∨ 120 < g.ties.length
  · rw [if_pos h1] at h; cases h
  rw [if_neg h1] at h
  by_cases h2 : nodsE none g.nodes = 0
  · obtain ⟨i1, i2, _⟩ := nodsE_zero h2
    exact ⟨by omega, by omega, i2, i1⟩
  · rw [if_neg h2] at h; exact absurd h h2

theorem fhas_some' {l : List Nod} {id : Int} (h : fhas l id = true) : ∃ n, l[fpos l id]? = some n := by
  unfold fhas eqAt at h
  cases hd : l[fpos l id]? with
  | none => rw [hd] at h; simp at h
  | some d => exact ⟨d, rfl⟩
end Go.Proofs.Ythefofclbepkoaa

/- Plain: the order of ties; what a right graph's ties give. -/
namespace Go.Proofs.Ythefofclbepkoaa

def tieLt (a b : Tie) : Bool := decide (tieO a b < 0)
def tieC (t : Tie) (d : Tie) : Int := tieO d t
def tpos (l : List Tie) (t : Tie) : Nat := lowI (tieC t) l
def thas (l : List Tie) (t : Tie) : Bool := eqAt (tieC t) l (tpos l t)
theorem tieO_neg {a b : Tie} : tieO a b < 0 ↔ cmpS a.bond b.bond < 0 ∨ (a.bond = b.bond ∧ (a.src < b.src ∨ (a.src = b.src ∧ a.dst < b.dst))) := by
  have h0 := @cmpS_zero a.bond b.bond
  have h1 := @cmpI_neg a.src b.src
  have h2 := @cmpI_zero a.src b.src
  have h3 := @cmpI_neg a.dst b.dst
  unfold tieO orI
  by_cases e1 : cmpS a.bond b.bond = 0
  · rw [if_pos e1]
    unfold orI
    by_cases e2 : cmpI a.src b.src = 0
    · rw [if_pos e2]
      unfold orI orI
      have e4 := h2.1 e2
      by_cases e3 : cmpI a.dst b.dst = 0
      · rw [if_pos e3]
        have : ¬ a.dst < b.dst := fun h => by have := h3.2 h; omega
        constructor
        · intro h; omega
        · rintro (h | ⟨_, h | ⟨_, h⟩⟩) <;> omega
      · rw [if_neg e3]
        constructor
        · intro h; exact .inr ⟨h0.1 e1, .inr ⟨e4, h3.1 h⟩⟩
        · rintro (h | ⟨_, h | ⟨_, h⟩⟩)
          · omega
          · omega
          · exact h3.2 h
    · rw [if_neg e2]
      constructor
      · intro h; exact .inr ⟨h0.1 e1, .inl (h1.1 h)⟩
      · rintro (h | ⟨_, h | ⟨h, _⟩⟩)
        · omega
        · exact h1.2 h
        · exact absurd (h2.2 h) e2
  · rw [if_neg e1]
    constructor
    · intro h; exact .inl h
    · rintro (h | ⟨h, _⟩)
      · exact h
      · exact absurd (h0.2 h) e1
theorem tieO_zero {a b : Tie} : tieO a b = 0 ↔ a = b := by
  have h0 := @cmpS_zero a.bond b.bond
  have h2 := @cmpI_zero a.src b.src
  have h3 := @cmpI_zero a.dst b.dst
  have hx : a = b ↔ a.bond = b.bond ∧ a.src = b.src ∧ a.dst = b.dst := by
    cases a; cases b; simp
  rw [hx]
  unfold tieO orI
  by_cases e1 : cmpS a.bond b.bond = 0
  · rw [if_pos e1]
    unfold orI
    by_cases e2 : cmpI a.src b.src = 0
    · rw [if_pos e2]
      unfold orI orI
      by_cases e3 : cmpI a.dst b.dst = 0
      · rw [if_pos e3]; exact ⟨fun _ => ⟨h0.1 e1, h2.1 e2, h3.1 e3⟩, fun _ => rfl⟩
      · rw [if_neg e3]; exact ⟨fun h => absurd h e3, fun h => absurd (h3.2 h.2.2) e3⟩
    · rw [if_neg e2]; exact ⟨fun h => absurd h e2, fun h => absurd (h2.2 h.2.1) e2⟩
  · rw [if_neg e1]; exact ⟨fun h => absurd h e1, fun h => absurd (h0.2 h.1) e1⟩
theorem tieO_trans {a b c : Tie} (h : tieO a b < 0) (k : tieO b c < 0) : tieO a c < 0 := by
  rw [tieO_neg] at h k ⊢
  rcases h with h | ⟨e1, h⟩
  · rcases k with k | ⟨e2, _⟩
    · exact .inl (cmpS_trans h k)
    · exact .inl (by rw [← e2]; exact h)
  · rcases k with k | ⟨e2, k⟩
    · exact .inl (by rw [e1]; exact k)
    · refine .inr ⟨e1.trans e2, ?_⟩
      omega
theorem tieC_mono (t : Tie) : ∀ a b, tieLt a b = true → 0 ≤ tieC t a → 0 ≤ tieC t b := by
  intro a b h h1
  unfold tieLt at h
  unfold tieC at h1 ⊢
  have h := of_decide_eq_true h
  by_cases hb : tieO b t < 0
  · have := tieO_trans h hb; omega
  · omega
theorem tiesE_step {p : Option Tie} {t : Tie} {r : List Tie} (h : tiesE p (t :: r) = 0) : tieE t = 0 ∧ tiesE (some t) r = 0 ∧ (∀ a, p = some a → tieLt a t = true) := by
  have e : tiesE p (t :: r) = if tieE t = 0 then (if (match p with | some q => decide (0 ≤ tieO q t) | none => false) then 7 else tiesE (some t) r) else tieE t := by cases p <;> rfl
  rw [e] at h
  by_cases h1 : tieE t = 0
  · rw [if_pos h1] at h
    cases p with
    | none => exact ⟨h1, h, fun a ha => by cases ha⟩
    | some q =>
      have h : (if decide (0 ≤ tieO q t) = true then (7 : Int) else tiesE (some t) r) = 0 := h
      by_cases h2 : 0 ≤ tieO q t
      · rw [if_pos (decide_eq_true h2)] at h; omega
      · rw [if_neg (fun x => h2 (of_decide_eq_true x))] at h
        exact ⟨h1, h, fun a ha => by cases ha; exact decide_eq_true (by omega)⟩
  · rw [if_neg h1] at h; exact absurd h h1
theorem tiesE_zero : ∀ {l : List Tie} {p : Option Tie}, tiesE p l = 0 → (∀ t ∈ l, tieE t = 0) ∧ chain tieLt l = true ∧ (∀ a b, p = some a → l.head? = some b → tieLt a b = true)
  | [], p, _ => ⟨by simp, rfl, by simp⟩
  | n :: r, p, h => by
    obtain ⟨s1, s3, s4⟩ := tiesE_step h
    obtain ⟨i1, i2, i3⟩ := tiesE_zero s3
    refine ⟨?_, ?_, ?_⟩
    · intro m hm
      rcases List.mem_cons.1 hm with rfl | hm
      · exact s1
      · exact i1 m hm
    · cases r with
      | nil => rfl
      | cons b r => simp only [chain, Bool.and_eq_true]; exact ⟨i3 n b rfl rfl, i2⟩
    · intro a b ha hb
      simp at hb
      subst hb
      exact s4 a ha
theorem grf_parts {g : Grf} (h : grfE g = 0) : nodsE none g.nodes = 0 ∧ tiesE none g.ties = 0 := by
  unfold grfE at h
  by_cases h1 : 60 < g.nodes.length ∨ 120 < g.ties.length
  · rw [if_pos h1] at h; cases h
  rw [if_neg h1] at h
  by_cases h2 : nodsE none g.nodes = 0
  · rw [if_pos h2] at h; exact ⟨h2, h⟩
  · rw [if_neg h2] at h; exact absurd h h2
theorem grf_ties {g : Grf} (h : grfE g = 0) : chain tieLt g.ties = true ∧ ∀ t ∈ g.ties, tieE t = 0 := by
  obtain ⟨i1, i2, _⟩ := tiesE_zero (grf_parts h).2
  exact ⟨i2, i1⟩
end Go.Proofs.Ythefofclbepkoaa

/- Contract: record.Set. -/
namespace Go.Proofs.Ythefofclbepkoaa
open Go Go.RowKit

theorem flat_set4 (p : Prp) : ∀ (r : List Prp) (i : Nat), i < r.length → ((((r.flatMap Prp.enc).set (i * 4) (.string p.name)).set (i * 4 + 1) (.int .i64 p.v.ty)).set (i * 4 + 2) (.int .i64 p.v.n)).set (i * 4 + 3) (.string p.v.s) = (r.set i p).flatMap Prp.enc
  | [], i, h => by simp at h
  | a :: r, 0, _ => by simp [Prp.enc]
  | a :: r, i + 1, h => by
    have ih := flat_set4 p r i (by simpa using h)
    have e : (i + 1) * 4 = i * 4 + 4 := by omega
    rw [List.set_cons_succ, List.flatMap_cons, List.flatMap_cons, ← ih, e]
    rfl
def setE (r : List Prp) (p : Prp) : Int := if recE r = 0 then (if prpE p = 0 then (if rhas r p.name then 0 else if 8 ≤ r.length then 4 else 0) else prpE p) else recE r
def putP (r : List Prp) (p : Prp) : List Prp := if rhas r p.name then r.set (rpos r p.name) p else r.take (rpos r p.name) ++ p :: r.drop (rpos r p.name)
def setR (r : List Prp) (p : Prp) : List Prp := if setE r p = 0 then putP r p else []
/-- A record and an error. -/
def RetR (l : List Prp) (err : Int) (w : World) (e : Ending) (w' : World) : Prop := ∃ v, e = .returned (.tuple #[v, errV err]) ∧ Sl prpL w' v l ∧ Below w.heap.size w w'
/-- A record that is the call's own. -/
def OwnP (w : World) (B : Nat) (v : Value) (l : List Prp) : Prop := Own w B 26 4 v l.length (l.flatMap Prp.enc) ∧ ∀ x ∈ l, x.ok
theorem OwnP.nil {w : World} {B : Nat} : OwnP w B (.slice none 0 0) [] := ⟨Own.nil _ _ _ _, fun x hx => by cases hx⟩
/-- The same, the record the call's own. -/
def RetO (l : List Prp) (err : Int) (w : World) (e : Ending) (w' : World) : Prop := ∃ v, e = .returned (.tuple #[v, errV err]) ∧ OwnP w' w.heap.size v l ∧ Below w.heap.size w w'
theorem RetO.r {l : List Prp} {err : Int} {w w' : World} {e : Ending} (h : RetO l err w e w') : RetR l err w e w' := by
  obtain ⟨v, h1, h2, h3⟩ := h
  exact ⟨v, h1, h2.1.prps h2.2, h3⟩
theorem cell_box4' (w : World) (a b c d : Value) (t : TypeId) : (w.alloc (.cells #[a, b, c, d] t)).cell? ⟨w.heap.size, 0, none⟩ = some a ∧ (w.alloc (.cells #[a, b, c, d] t)).cell? ⟨w.heap.size, 1, none⟩ = some b ∧
    (w.alloc (.cells #[a, b, c, d] t)).cell? ⟨w.heap.size, 2, none⟩ = some c ∧ (w.alloc (.cells #[a, b, c, d] t)).cell? ⟨w.heap.size, 3, none⟩ = some d :=
  ⟨by rw [World.cell?_alloc_at _ _ _ _ rfl]; rfl, by rw [World.cell?_alloc_at _ _ _ _ rfl]; rfl, by rw [World.cell?_alloc_at _ _ _ _ rfl]; rfl, by rw [World.cell?_alloc_at _ _ _ _ rfl]; rfl⟩
set_option maxRecDepth 100000 in
set_option maxHeartbeats 4000000 in
theorem set_own (r : List Prp) (p : Prp) (v : Value) (w : World) (hv : Sl prpL w v r) (hp : p.ok) :
    Calls Try.prog 30 #[v, .agg #[.string p.name, .int .i64 p.v.ty, .int .i64 p.v.n, .string p.v.s]] w (RetO (setR r p) (setE r p) w) := by
  have hb0 : Below w.heap.size w (w.alloc (.cells #[.string p.name, .int .i64 p.v.ty, .int .i64 p.v.n, .string p.v.s] 26)) := (Below.refl _ _).alloc (Nat.le_refl _) _
  obtain ⟨z0, z1, z2, z3⟩ := cell_box4' w (.string p.name) (.int .i64 p.v.ty) (.int .i64 p.v.n) (.string p.v.s) 26
  have h1 := recCheck_any r v _ (hv.below hb0)
  have HV := Lib.hid hv
  obtain ⟨A, c, rfl, _, _⟩ := hv.form
  clear hv
  go_enter Try.func30, Try.ntmps30
  go_wp2_with fail
  refine h1.mono ?_
  clear h1
  rintro e w1 ⟨rfl, hb1⟩
  have hB1 := hb0.trans (hb1.mono hb0.size)
  have y0 := cell_below hb1 z0
  have y1 := cell_below hb1 z1
  have y2 := cell_below hb1 z2
  have y3 := cell_below hb1 z3
  clear z0 z1 z2 z3 hb0 hb1
  by_cases he : recE r = 0
  case neg =>
    have HE : Hid (errV (setE r p) = .iface 82 (.int .i64 (recE r)) ∧ setR r p = []) := by
      have h0 : setE r p = recE r := by unfold setE; rw [if_neg he]
      exact ⟨by rw [h0]; exact errV_some he, by unfold setR; rw [h0, if_neg he]⟩
    rw [errV_some he]
    clear he
    go_wp2_with fail
    go_ret2
    exact ⟨.slice none 0 0, by rw [HE.out.1]; rfl, by rw [HE.out.2]; exact OwnP.nil, hB1⟩
  obtain ⟨hl8, _, hch⟩ := rec_ok he
  have HE0 : Hid (setE r p = if prpE p = 0 then (if rhas r p.name then 0 else if 8 ≤ r.length then 4 else 0) else prpE p) := by unfold Hid setE; rw [if_pos he]
  rw [errV_zero he]
  clear he
  go_wp2_with fail
  refine (prop_any p hp w1).mono ?_
  rintro e w2 ⟨rfl, hb2⟩
  have hB2 := hB1.trans (hb2.mono hB1.size)
  have x0 := cell_below hb2 y0
  have x1 := cell_below hb2 y1
  have x2 := cell_below hb2 y2
  have x3 := cell_below hb2 y3
  clear y0 y1 y2 y3 hb2 hB1
  by_cases he : prpE p = 0
  case neg =>
    have HE : Hid (errV (setE r p) = .iface 82 (.int .i64 (prpE p)) ∧ setR r p = []) := by
      have h0 : setE r p = prpE p := by rw [HE0.out, if_neg he]
      exact ⟨by rw [h0]; exact errV_some he, by unfold setR; rw [h0, if_neg he]⟩
    rw [errV_some he]
    clear he
    go_wp2_with fail
    go_ret2
    exact ⟨.slice none 0 0, by rw [HE.out.1]; rfl, by rw [HE.out.2]; exact OwnP.nil, hB2⟩
  have HE : Hid (setE r p = if rhas r p.name then 0 else if 8 ≤ r.length then 4 else 0) := by unfold Hid; rw [HE0.out, if_pos he]
  rw [errV_zero he]
  have hfd := rfind_any r p.name _ w2 (HV.out.below hB2) hch (by omega)
  clear he hch HE0
  go_wp2_with fail
  refine hfd.mono ?_
  clear hfd
  rintro e w3 ⟨rfl, hb3⟩
  have hB3 := hB2.trans (hb3.mono hB2.size)
  have y0 := cell_below hb3 x0
  have y1 := cell_below hb3 x1
  have y2 := cell_below hb3 x2
  have y3 := cell_below hb3 x3
  have hK := lowI_le (prpC p.name) r
  have h3lt : w.heap.size < w3.heap.size := World.block_lt_of_cell? _ _ y0
  have HP : Hid (putP r p = if rhas r p.name then r.set (rpos r p.name) p else r.take (rpos r p.name) ++ p :: r.drop (rpos r p.name)) := rfl
  have hcl := clone_prps (HV.out.below hB3) (by omega)
  clear x0 x1 x2 x3 hb3 hB2
  go_wp2_with fail
  refine hcl.mono ?_
  clear hcl
  rintro e w4 ⟨v4, xs, rfl, hown, hrow, hb4⟩
  obtain ⟨rfl, hoks⟩ := Row.flat hrow
  have hown : Own w4 w3.heap.size 26 4 v4 r.length (r.flatMap Prp.enc) := hown
  have hB4 := hB3.trans (hb4.mono hB3.size)
  have h34 := hB3.size
  have hl4 := hb4.size
  have x0 := cell_below hb4 y0
  have x1 := cell_below hb4 y1
  have x2 := cell_below hb4 y2
  have x3 := cell_below hb4 y3
  have HO : Hid (∀ q ∈ r, q.ok) := hoks
  clear y0 y1 y2 y3 hrow hoks
  cases hq : rhas r p.name with
  | true =>
    obtain ⟨d, hd⟩ := rhas_some hq
    have hpl := (List.getElem?_eq_some_iff.1 hd).1
    have HF : Hid (setE r p = 0 ∧ setR r p = r.set (rpos r p.name) p) := by
      have h0 : setE r p = 0 := by rw [HE.out, hq]; rfl
      exact ⟨h0, by unfold setR; rw [if_pos h0, HP.out, hq]; rfl⟩
    obtain ⟨g, o, c4, rfl, hg1, hg2⟩ := hown.addr (by omega)
    have hS := flat_set4 p r (rpos r p.name) hpl
    have hlen := hown.1
    have s1 := hown.store (rpos r p.name * 4) (by omega) (.string p.name)
    have s2 := s1.store (rpos r p.name * 4 + 1) (by omega) (.int .i64 p.v.ty)
    have s3 := s2.store (rpos r p.name * 4 + 2) (by omega) (.int .i64 p.v.n)
    have s4 := s3.store (rpos r p.name * 4 + 3) (by omega) (.string p.v.s)
    rw [hS] at s4
    obtain ⟨b, o', hA, _, q0, q1, q2, q3⟩ := prp_at (hown.prps HO.out) hd
    injection hA with hA
    injection hA with hA1 hA2
    subst hA1; subst hA2
    have f0 := hown.frozen rfl (o + rpos r p.name * 4)
    have f1 := hown.frozen rfl (o + rpos r p.name * 4 + 1)
    have f2 := hown.frozen rfl (o + rpos r p.name * 4 + 2)
    have f3 := hown.frozen rfl (o + rpos r p.name * 4 + 3)
    have hne : w.heap.size ≠ g := by omega
    have HS4 := Lib.hid s4
    have hpl' : (rpos r p.name : Int) < (r.length : Int) := by omega
    have HL : Hid ((r.set (rpos r p.name) p).length = r.length) := List.length_set ..
    have HO2 : Hid (∀ q ∈ r.set (rpos r p.name) p, q.ok) := fun q hq2 => by
      rcases List.mem_or_eq_of_mem_set hq2 with h | rfl
      · exact HO.out q h
      · exact hp
    generalize rpos r p.name = K at *
    clear hq HE HP hd hS s1 s2 s3 s4 hown
    go_wp2_with fail
    go_ret2
    refine ⟨.slice (some ⟨g, o, none⟩) r.length c4, by rw [HF.out.1, errV_zero rfl]; rfl, ?_, ?_⟩
    · rw [HF.out.2]
      exact ⟨(Own.mono (by rw [HL.out]; exact HS4.out) h34), HO2.out⟩
    · exact (((hB4.setCell (p := ⟨g, _, none⟩) (by show w.heap.size ≤ g; omega) _).setCell (p := ⟨g, _, none⟩) (by show w.heap.size ≤ g; omega) _).setCell (p := ⟨g, _, none⟩) (by show w.heap.size ≤ g; omega) _).setCell (p := ⟨g, _, none⟩) (by show w.heap.size ≤ g; omega) _
  | false =>
    by_cases h8 : 8 ≤ r.length
    · have HF : Hid (setE r p = 4 ∧ setR r p = []) := by
        have h0 : setE r p = 4 := by rw [HE.out, hq]; simp [h8]
        exact ⟨h0, by unfold setR; rw [h0]; rfl⟩
      have h8' : (8 : Int) ≤ (r.length : Int) := by omega
      obtain ⟨A4, c4, rfl, _, _⟩ := hown.form
      clear hq HE HP hown
      go_wp2_with fail
      go_ret2
      exact ⟨.slice none 0 0, by rw [HF.out.1]; rfl, by rw [HF.out.2]; exact OwnP.nil, hB4⟩
    · have HF : Hid (setE r p = 0 ∧ setR r p = r.take (rpos r p.name) ++ p :: r.drop (rpos r p.name)) := by
        have h0 : setE r p = 0 := by rw [HE.out, hq]; simp [h8]
        exact ⟨h0, by unfold setR; rw [if_pos h0, HP.out, hq]; rfl⟩
      have h8' : (r.length : Int) < 8 := by omega
      have hK' : rpos r p.name ≤ r.length := hK
      have hfi := flat_insert Prp.enc_len r (rpos r p.name) hK' p
      have hil := ins_prp (w4.alloc (.cells #[.string p.name, .int .i64 p.v.ty, .int .i64 p.v.n, .string p.v.s] 26)) w3.heap.size v4 r.length (r.flatMap Prp.enc) (hown.alloc _) (rpos r p.name) hK' w4.heap.size p.enc rfl (heap_alloc_new _ _) p.enc_one (oneCell_flat Prp.enc_one r)
        (fun e => by have := (hown.lt _ e).2; omega) (by simp; omega) (by omega)
      rw [hfi] at hil
      have HOK : Hid (∀ q ∈ r.take (rpos r p.name) ++ p :: r.drop (rpos r p.name), q.ok) := fun q hq2 => by
        rcases List.mem_append.1 hq2 with h | h
        · exact HO.out q (List.mem_of_mem_take h)
        · rcases List.mem_cons.1 h with rfl | h
          · exact hp
          · exact HO.out q (List.mem_of_mem_drop h)
      have HL : Hid ((r.take (rpos r p.name) ++ p :: r.drop (rpos r p.name)).length = r.length + 1) := by unfold Hid; simp; omega
      generalize r.take (rpos r p.name) ++ p :: r.drop (rpos r p.name) = r' at *
      generalize rpos r p.name = K at *
      have HW := Lib.hid hown
      obtain ⟨A4, c4, rfl, _, _⟩ := hown.form
      clear hq HE HP hfi hown
      go_wp2_with fail
      refine hil.mono ?_
      clear hil
      rintro e w5 ⟨v5, rfl, hown5, hg5⟩
      rw [← HL.out] at hown5
      have hsl := hown5.mono h34
      have hB5 : Below w.heap.size w w5 := (hB4.alloc hB4.size _).grown hg5 (by have := hB4.size; simp; omega) (fun kk e => by have := (HW.out.lt kk e).1; omega)
      obtain ⟨A5, c5, rfl, _, _⟩ := hown5.form
      have HSL := Lib.hid hsl
      clear hg5 hown5 hsl
      go_wp2_with fail
      go_ret2
      exact ⟨.slice A5 r'.length c5, by rw [HF.out.1, errV_zero rfl]; rfl, by rw [HF.out.2]; exact ⟨HSL.out, HOK.out⟩, hB5⟩
theorem set_any (r : List Prp) (p : Prp) (v : Value) (w : World) (hv : Sl prpL w v r) (hp : p.ok) :
    Calls Try.prog 30 #[v, .agg #[.string p.name, .int .i64 p.v.ty, .int .i64 p.v.n, .string p.v.s]] w (RetR (setR r p) (setE r p) w) := (set_own r p v w hv hp).mono fun _ _ h => h.r
end Go.Proofs.Ythefofclbepkoaa
