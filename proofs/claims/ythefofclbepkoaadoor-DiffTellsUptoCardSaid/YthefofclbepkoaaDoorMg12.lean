/- Parts: GrC, TieP, RecS, RecT, DeltaP. -/
import Derived.Test.YthefofclbepkoaaDoorMg07
import Derived.Test.YthefofclbepkoaaDoorMg05
import Derived.Test.YthefofclbepkoaaDoorMg10
import Derived.Test.YthefofclbepkoaaDoorMg06
/- Plain: what a right graph gives. -/
namespace Go.Proofs.YthefofclbepkoaaDoor

/-! ### What a right graph gives -/
theorem nodsE_step {p : Option Nod} {n : Nod} {r : List Nod} (h : nodsE p (n :: r) = 0) : idB n.id = true ∧ nodE n = 0 ∧ nodsE (some n) r = 0 ∧ (∀ a, p = some a → nodLt a n = true) := by
  have h1 : idB n.id = true := by
    cases h1 : idB n.id with
    | true => rfl
    | false => unfold nodsE at h; rw [if_pos h1] at h; cases h
  have key : ∀ b : Bool, (if b = true then (7 : Int) else if nodE n = 0 then nodsE (some n) r else nodE n) = 0 → b = false ∧ nodE n = 0 ∧ nodsE (some n) r = 0 := by
    intro b hb
    cases b with
    | true => cases hb
    | false =>
      simp only [Bool.false_eq_true, if_false] at hb
      by_cases h3 : nodE n = 0
      · rw [if_pos h3] at hb; exact ⟨rfl, h3, hb⟩
      · rw [if_neg h3] at hb; exact absurd hb h3
  have hid : ¬ (idB n.id = false) := by simp [h1]
  cases p with
  | none =>
    unfold nodsE at h
    rw [if_neg hid] at h
    obtain ⟨_, k2, k3⟩ := key false h
    exact ⟨h1, k2, k3, fun a ha => by cases ha⟩
  | some q =>
    unfold nodsE at h
    rw [if_neg hid] at h
    obtain ⟨k1, k2, k3⟩ := key (decide (n.id ≤ q.id)) h
    refine ⟨h1, k2, k3, fun a ha => ?_⟩
    cases ha
    unfold nodLt
    simpa using k1
theorem nodsE_zero : ∀ {l : List Nod} {p : Option Nod}, nodsE p l = 0 → (∀ n ∈ l, idB n.id = true ∧ nodE n = 0) ∧ chain nodLt l = true ∧ (∀ a b, p = some a → l.head? = some b → nodLt a b = true)
  | [], p, _ => ⟨by simp, rfl, by simp⟩
  | n :: r, p, h => by
    obtain ⟨s1, s2, s3, s4⟩ := nodsE_step h
    obtain ⟨i1, i2, i3⟩ := nodsE_zero s3
    refine ⟨?_, ?_, ?_⟩
    · intro m hm
      rcases List.mem_cons.1 hm with rfl | hm
      · exact ⟨s1, s2⟩
      · exact i1 m hm
    · cases r with
      | nil => rfl
      | cons b r => simp only [chain, Bool.and_eq_true]; exact ⟨i3 n b rfl rfl, i2⟩
    · intro a b ha hb
      simp at hb
      subst hb
      exact s4 a ha
theorem grf_ok {g : Grf} (h : grfE g = 0) : g.nodes.length ≤ 60 ∧ g.ties.length ≤ 120 ∧ chain nodLt g.nodes = true ∧ ∀ n ∈ g.nodes, idB n.id = true ∧ nodE n = 0 := by
  unfold grfE at h
  by_cases h1 : 60 < g.nodes.length ∨ 120 < g.ties.length
  · rw [if_pos h1] at h; cases h
  rw [if_neg h1] at h
  by_cases h2 : nodsE none g.nodes = 0
  · obtain ⟨i1, i2, _⟩ := nodsE_zero h2
    exact ⟨by omega, by omega, i2, i1⟩
  · rw [if_neg h2] at h; exact absurd h h2

theorem fhas_some' {l : List Nod} {id : Int} (h : fhas l id = true) : ∃ n, l[fpos l id]? = some n := by
  unfold fhas eqAt at h
  cases hd : l[fpos l id]? with
  | none => rw [hd] at h; simp at h
  | some d => exact ⟨d, rfl⟩
end Go.Proofs.YthefofclbepkoaaDoor

/- Plain: the order of ties; what a right graph's ties give. -/
namespace Go.Proofs.YthefofclbepkoaaDoor

def tieLt (a b : Tie) : Bool := decide (tieO a b < 0)
def tieC (t : Tie) (d : Tie) : Int := tieO d t
def tpos (l : List Tie) (t : Tie) : Nat := lowI (tieC t) l
def thas (l : List Tie) (t : Tie) : Bool := eqAt (tieC t) l (tpos l t)
theorem tieO_neg {a b : Tie} : tieO a b < 0 ↔ cmpS a.bond b.bond < 0 ∨ (a.bond = b.bond ∧ (a.src < b.src ∨ (a.src = b.src ∧ a.dst < b.dst))) := by
  have h0 := @cmpS_zero a.bond b.bond
  have h1 := @cmpI_neg a.src b.src
  have h2 := @cmpI_zero a.src b.src
  have h3 := @cmpI_neg a.dst b.dst
  unfold tieO orI
  by_cases e1 : cmpS a.bond b.bond = 0
  · rw [if_pos e1]
    unfold orI
    by_cases e2 : cmpI a.src b.src = 0
    · rw [if_pos e2]
      unfold orI orI
      have e4 := h2.1 e2
      by_cases e3 : cmpI a.dst b.dst = 0
      · rw [if_pos e3]
        have : ¬ a.dst < b.dst := fun h => by have := h3.2 h; omega
        constructor
        · intro h; omega
        · rintro (h | ⟨_, h | ⟨_, h⟩⟩) <;> omega
      · rw [if_neg e3]
        constructor
        · intro h; exact .inr ⟨h0.1 e1, .inr ⟨e4, h3.1 h⟩⟩
        · rintro (h | ⟨_, h | ⟨_, h⟩⟩)
          · omega
          · omega
          · exact h3.2 h
    · rw [if_neg e2]
      constructor
      · intro h; exact .inr ⟨h0.1 e1, .inl (h1.1 h)⟩
      · rintro (h | ⟨_, h | ⟨h, _⟩⟩)
        · omega
        · exact h1.2 h
        · exact absurd (h2.2 h) e2
  · rw [if_neg e1]
    constructor
    · intro h; exact .inl h
    · rintro (h | ⟨h, _⟩)
      · exact h
      · exact absurd (h0.2 h) e1
theorem tieO_zero {a b : Tie} : tieO a b = 0 ↔ a = b := by
  have h0 := @cmpS_zero a.bond b.bond
  have h2 := @cmpI_zero a.src b.src
  have h3 := @cmpI_zero a.dst b.dst
  have hx : a = b ↔ a.bond = b.bond ∧ a.src = b.src ∧ a.dst = b.dst := by
    cases a; cases b; simp
  rw [hx]
  unfold tieO orI
  by_cases e1 : cmpS a.bond b.bond = 0
  · rw [if_pos e1]
    unfold orI
    by_cases e2 : cmpI a.src b.src = 0
    · rw [if_pos e2]
      unfold orI orI
      by_cases e3 : cmpI a.dst b.dst = 0
      · rw [if_pos e3]; exact ⟨fun _ => ⟨h0.1 e1, h2.1 e2, h3.1 e3⟩, fun _ => rfl⟩
      · rw [if_neg e3]; exact ⟨fun h => absurd h e3, fun h => absurd (h3.2 h.2.2) e3⟩
    · rw [if_neg e2]; exact ⟨fun h => absurd h e2, fun h => absurd (h2.2 h.2.1) e2⟩
  · rw [if_neg e1]; exact ⟨fun h => absurd h e1, fun h => absurd (h0.2 h.1) e1⟩
theorem tieO_trans {a b c : Tie} (h : tieO a b < 0) (k : tieO b c < 0) : tieO a c < 0 := by
  rw [tieO_neg] at h k ⊢
  rcases h with h | ⟨e1, h⟩
  · rcases k with k | ⟨e2, _⟩
    · exact .inl (cmpS_trans h k)
    · exact .inl (by rw [← e2]; exact h)
  · rcases k with k | ⟨e2, k⟩
    · exact .inl (by rw [e1]; exact k)
    · refine .inr ⟨e1.trans e2, ?_⟩
      omega
theorem tieC_mono (t : Tie) : ∀ a b, tieLt a b = true → 0 ≤ tieC t a → 0 ≤ tieC t b := by
  intro a b h h1
  unfold tieLt at h
  unfold tieC at h1 ⊢
  have h := of_decide_eq_true h
  by_cases hb : tieO b t < 0
  · have := tieO_trans h hb; omega
  · omega
theorem tiesE_step {p : Option Tie} {t : Tie} {r : List Tie} (h : tiesE p (t :: r) = 0) : tieE t = 0 ∧ tiesE (some t) r = 0 ∧ (∀ a, p = some a → tieLt a t = true) := by
  have e : tiesE p (t :: r) = if tieE t = 0 then (if (match p with | some q => decide (0 ≤ tieO q t) | none => false) then 7 else tiesE (some t) r) else tieE t := by cases p <;> rfl
  rw [e] at h
  by_cases h1 : tieE t = 0
  · rw [if_pos h1] at h
    cases p with
    | none => exact ⟨h1, h, fun a ha => by cases ha⟩
    | some q =>
      have h : (if decide (0 ≤ tieO q t) = true then (7 : Int) else tiesE (some t) r) = 0 := h
      by_cases h2 : 0 ≤ tieO q t
      · rw [if_pos (decide_eq_true h2)] at h; omega
      · rw [if_neg (fun x => h2 (of_decide_eq_true x))] at h
        exact ⟨h1, h, fun a ha => by cases ha; exact decide_eq_true (by omega)⟩
  · rw [if_neg h1] at h; exact absurd h h1
theorem tiesE_zero : ∀ {l : List Tie} {p : Option Tie}, tiesE p l = 0 → (∀ t ∈ l, tieE t = 0) ∧ chain tieLt l = true ∧ (∀ a b, p = some a → l.head? = some b → tieLt a b = true)
  | [], p, _ => ⟨by simp, rfl, by simp⟩
  | n :: r, p, h => by
    obtain ⟨s1, s3, s4⟩ := tiesE_step h
    obtain ⟨i1, i2, i3⟩ := tiesE_zero s3
    refine ⟨?_, ?_, ?_⟩
    · intro m hm
      rcases List.mem_cons.1 hm with rfl | hm
      · exact s1
      · exact i1 m hm
    · cases r with
      | nil => rfl
      | cons b r => simp only [chain, Bool.and_eq_true]; exact ⟨i3 n b rfl rfl, i2⟩
    · intro a b ha hb
      simp at hb
      subst hb
      exact s4 a ha
theorem grf_parts {g : Grf} (h : grfE g = 0) : nodsE none g.nodes = 0 ∧ tiesE none g.ties = 0 := by
  unfold grfE at h
  by_cases h1 : 60 < g.nodes.length ∨ 120 < g.ties.length
  · rw [if_pos h1] at h; cases h
  rw [if_neg h1] at h
  by_cases h2 : nodsE none g.nodes = 0
  · rw [if_pos h2] at h; exact ⟨h2, h⟩
  · rw [if_neg h2] at h; exact absurd h h2
theorem grf_ties {g : Grf} (h : grfE g = 0) : chain tieLt g.ties = true ∧ ∀ t ∈ g.ties, tieE t = 0 := by
  obtain ⟨i1, i2, _⟩ := tiesE_zero (grf_parts h).2
  exact ⟨i2, i1⟩
end Go.Proofs.YthefofclbepkoaaDoor

/- Contracts: record.Find, record.Get, record.Set. -/
namespace Go.Proofs.YthefofclbepkoaaDoor
open Go Go.RowKit


theorem clone_prps_info : (Tryd.prog.info? 107).map (fun i => (i.zero, i.size, i.bytes)) = some (some (.agg #[.string .empty, .int .i64 0, .int .i64 0, .string .empty]), 4, 48) := by kernel_rfl
set_option maxHeartbeats 2000000 in
theorem clone_prps {w : World} {v : Value} {l : List Prp} (hv : Sl prpL w v l) (hl : l.length ≤ 1048576) : Calls Tryd.prog 95 #[v] w (CloneR prpL 107 l w) := by
  obtain ⟨i0, ei, ez, ez1, ez2⟩ := info_parts clone_prps_info
  obtain ⟨A, c, rfl, _, _⟩ := hv.form
  obtain ⟨xs, hr, hx⟩ := Row.of_sl hv
  have hlen := hr.len
  have h1 := hr.oneCell one_prp
  have q22 : ∀ (w : World) (a : Option Addr) (n c n' c' : Nat), (binOp .eql 54 (.slice a n c) (.slice none n' c')).run Tryd.prog w = .ok (.bool a.isNone) w := fun w a n c n' c' => Lib.run_eql_slice_nil w _ _ a n c n' c' Tryd.underlying54
  cases A with
  | none =>
    have h0 : l = [] := by
      rcases Nat.eq_zero_or_pos l.length with h | h
      · exact List.eq_nil_of_length_eq_zero h
      · obtain ⟨_, _, hA, _⟩ := hx h; cases hA
    subst h0
    clear hv hr hx hlen h1
    go_enter Tryd.func95, Tryd.ntmps95
    go_wp2_with fail
    go_ret
    exact ⟨_, [], rfl, Own.nil _ _ _ _, rfl, Below.refl _ _⟩
  | some a =>
    have hX : Hid (0 < l.length → ∃ b o, (some a : Option Addr) = some ⟨b, o, none⟩ ∧ ∀ j u, xs[j]? = some u → w.cell? ⟨b, o + j, none⟩ = some u) := hx
    have hR := Lib.hid hr
    have hL := Lib.hid hlen
    have h1H := Lib.hid h1
    clear hv hr hx hlen h1
    go_enter Tryd.func95, Tryd.ntmps95
    go_wp2_with (at_builtin; refine wpList_append_q _ rfl (.tmp 5) (.tmp 6) 54 rfl w.heap.size 107 i0 (.agg #[.string .empty, .int .i64 0, .int .i64 0, .string .empty]) 4 48 Tryd.underlying54 ei ez ez1 ez2 rfl (by decide) (.slice (some ⟨w.heap.size, 0, none⟩) 0 0) 0 [] rfl Own.made (some a) l.length c xs rfl hL.out (fun hp => by
        obtain ⟨b, o, hA, hy⟩ := hX.out hp
        exact ⟨_, hA, fun j u hj => by rw [addr_add]; exact cell_below ((Below.refl _ _).alloc (Nat.le_refl _) _) (hy j u hj)⟩) h1H.out (by unfold maxLen; omega) (by omega) (by simp) ?_; intro v7 w7 hown7 hg7 hat7)
    have hb7 : Below w.heap.size w w7 := ((Below.refl _ _).alloc (Nat.le_refl _) _).grown hg7 (by simp) (fun k hk => Nat.le_of_eq (by simpa [Value.ownBlock] using hk))
    simp only [Nat.zero_add, List.nil_append] at hown7
    clear hg7 hat7
    go_ret
    exact ⟨_, xs, rfl, hown7, hR.out, hb7⟩

/-! ### The order of names -/
theorem less_cmp : ∀ (a b : List UInt8), Op.bytesLess a b = decide (Lib.compareBytes a b < 0)
  | [], [] => by simp [Op.bytesLess, Lib.compareBytes]
  | [], _ :: _ => by simp [Op.bytesLess, Lib.compareBytes]
  | _ :: _, [] => by simp [Op.bytesLess, Lib.compareBytes]
  | x :: a, y :: b => by
    rw [Op.bytesLess, Lib.compareBytes, less_cmp a b]
    by_cases h1 : x < y
    · simp [h1]
    · by_cases h2 : y < x
      · have : x ≠ y := fun e => by subst e; exact absurd h2 h1
        simp [h1, h2, this]
      · have e : x = y := by
          apply UInt8.toNat_inj.1
          simp [UInt8.lt_iff_toNat_lt] at h1 h2
          omega
        subst e
        simp [h1]
theorem ltS_cmp (a b : ByteArray) : ltS a b = decide (cmpS a b < 0) := by
  unfold ltS cmpS
  rw [less_cmp, ByteArray.toList_eq, ByteArray.toList_eq]
theorem prpC_mono (nm : ByteArray) : ∀ a b, prpLt a b = true → 0 ≤ prpC nm a → 0 ≤ prpC nm b := by
  intro a b h h1
  unfold prpLt at h
  rw [ltS_cmp] at h
  unfold prpC at h1 ⊢
  simp at h
  by_cases hb : cmpS b.name nm < 0
  · have := cmpS_trans h hb; omega
  · omega
theorem rec_ok {r : List Prp} (h : recE r = 0) : r.length ≤ 8 ∧ (∀ p ∈ r, prpE p = 0) ∧ chain prpLt r = true := by
  unfold recE at h
  by_cases h1 : 8 < r.length
  · rw [if_pos h1] at h; omega
  rw [if_neg h1] at h
  by_cases h2 : firstE prpE r = 0
  · rw [if_pos h2] at h
    cases hc : chain (fun a b : Prp => ltS a.name b.name) r with
    | true =>
      refine ⟨by omega, fun p hp => ?_, hc⟩
      have key : ∀ l : List Prp, firstE prpE l = 0 → ∀ p ∈ l, prpE p = 0 := by
        intro l
        induction l with
        | nil => intro _ p hp; simp at hp
        | cons a l ih =>
          intro h p hp
          rw [firstE] at h
          split at h
          · rename_i h0
            rcases List.mem_cons.1 hp with rfl | hp
            · exact h0
            · exact ih h p hp
          · rename_i h0; exact absurd h h0
      exact key r h2 p hp
    | false => rw [hc] at h; simp at h
  · rw [if_neg h2] at h; exact absurd h h2
/-! ### record.Get -/
theorem res3 {w w1 : World} {T : TypeId} {c0 c1 c2 : Value} (a b c : Value) (hB : Below w.heap.size w w1) (h : w1.heap[w.heap.size]? = some (.cells #[c0, c1, c2] T (0, 0))) :
    Below w.heap.size w (((w1.setCell ⟨w.heap.size, 0, none⟩ a).setCell ⟨w.heap.size, 1, none⟩ b).setCell ⟨w.heap.size, 2, none⟩ c) ∧
    (((w1.setCell ⟨w.heap.size, 0, none⟩ a).setCell ⟨w.heap.size, 1, none⟩ b).setCell ⟨w.heap.size, 2, none⟩ c).cell? ⟨w.heap.size, 0, none⟩ = some a ∧
    (((w1.setCell ⟨w.heap.size, 0, none⟩ a).setCell ⟨w.heap.size, 1, none⟩ b).setCell ⟨w.heap.size, 2, none⟩ c).cell? ⟨w.heap.size, 1, none⟩ = some b ∧
    (((w1.setCell ⟨w.heap.size, 0, none⟩ a).setCell ⟨w.heap.size, 1, none⟩ b).setCell ⟨w.heap.size, 2, none⟩ c).cell? ⟨w.heap.size, 2, none⟩ = some c := by
  have h3 := setCell_block (setCell_block (setCell_block h 0 a) 1 b) 2 c
  exact ⟨((hB.setCell (p := ⟨_, 0, none⟩) (Nat.le_refl _) _).setCell (p := ⟨_, 1, none⟩) (Nat.le_refl _) _).setCell (p := ⟨_, 2, none⟩) (Nat.le_refl _) _, block_cell h3 0, block_cell h3 1, block_cell h3 2⟩
def getE (r : List Prp) (nm : ByteArray) : Int := if recE r = 0 then (if rhas r nm then 0 else 5) else recE r
def noVal : Val := ⟨0, 0, .empty⟩
def getV (r : List Prp) (nm : ByteArray) : Val := if getE r nm = 0 then (match r[rpos r nm]? with | some p => p.v | none => noVal) else noVal
theorem rhas_some {r : List Prp} {nm : ByteArray} (h : rhas r nm = true) : ∃ p, r[rpos r nm]? = some p := by
  unfold rhas eqAt at h
  cases hd : r[rpos r nm]? with
  | none => rw [hd] at h; simp at h
  | some d => exact ⟨d, rfl⟩
end Go.Proofs.YthefofclbepkoaaDoor

/- Contract: record.Set. -/
namespace Go.Proofs.YthefofclbepkoaaDoor
open Go Go.RowKit

theorem flat_set4 (p : Prp) : ∀ (r : List Prp) (i : Nat), i < r.length → ((((r.flatMap Prp.enc).set (i * 4) (.string p.name)).set (i * 4 + 1) (.int .i64 p.v.ty)).set (i * 4 + 2) (.int .i64 p.v.n)).set (i * 4 + 3) (.string p.v.s) = (r.set i p).flatMap Prp.enc
  | [], i, h => by simp at h
  | a :: r, 0, _ => by simp [Prp.enc]
  | a :: r, i + 1, h => by
    have ih := flat_set4 p r i (by simpa using h)
    have e : (i + 1) * 4 = i * 4 + 4 := by omega
    rw [List.set_cons_succ, List.flatMap_cons, List.flatMap_cons, ← ih, e]
    rfl
def setE (r : List Prp) (p : Prp) : Int := if recE r = 0 then (if prpE p = 0 then (if rhas r p.name then 0 else if 8 ≤ r.length then 4 else 0) else prpE p) else recE r
def putP (r : List Prp) (p : Prp) : List Prp := if rhas r p.name then r.set (rpos r p.name) p else r.take (rpos r p.name) ++ p :: r.drop (rpos r p.name)
def setR (r : List Prp) (p : Prp) : List Prp := if setE r p = 0 then putP r p else []
/-- A record and an error. -/
def RetR (l : List Prp) (err : Int) (w : World) (e : Ending) (w' : World) : Prop := ∃ v, e = .returned (.tuple #[v, errV err]) ∧ Sl prpL w' v l ∧ Below w.heap.size w w'
/-- A record that is the call's own. -/
def OwnP (w : World) (B : Nat) (v : Value) (l : List Prp) : Prop := Own w B 107 4 v l.length (l.flatMap Prp.enc) ∧ ∀ x ∈ l, x.ok
theorem OwnP.nil {w : World} {B : Nat} : OwnP w B (.slice none 0 0) [] := ⟨Own.nil _ _ _ _, fun x hx => by cases hx⟩
/-- The same, the record the call's own. -/
def RetO (l : List Prp) (err : Int) (w : World) (e : Ending) (w' : World) : Prop := ∃ v, e = .returned (.tuple #[v, errV err]) ∧ OwnP w' w.heap.size v l ∧ Below w.heap.size w w'
theorem RetO.r {l : List Prp} {err : Int} {w w' : World} {e : Ending} (h : RetO l err w e w') : RetR l err w e w' := by
  obtain ⟨v, h1, h2, h3⟩ := h
  exact ⟨v, h1, h2.1.prps h2.2, h3⟩
theorem cell_box4' (w : World) (a b c d : Value) (t : TypeId) : (w.alloc (.cells #[a, b, c, d] t)).cell? ⟨w.heap.size, 0, none⟩ = some a ∧ (w.alloc (.cells #[a, b, c, d] t)).cell? ⟨w.heap.size, 1, none⟩ = some b ∧
    (w.alloc (.cells #[a, b, c, d] t)).cell? ⟨w.heap.size, 2, none⟩ = some c ∧ (w.alloc (.cells #[a, b, c, d] t)).cell? ⟨w.heap.size, 3, none⟩ = some d :=
  ⟨by rw [World.cell?_alloc_at _ _ _ _ rfl]; rfl, by rw [World.cell?_alloc_at _ _ _ _ rfl]; rfl, by rw [World.cell?_alloc_at _ _ _ _ rfl]; rfl, by rw [World.cell?_alloc_at _ _ _ _ rfl]; rfl⟩
end Go.Proofs.YthefofclbepkoaaDoor

/- Plain: what an op makes of a graph; graphs that a call owns. -/
namespace Go.Proofs.YthefofclbepkoaaDoor
open Go Go.RowKit

structure Opr where
  what : Int
  node : Nod
  prop : Prp
  tie : Tie
def unsetE (r : List Prp) (nm : ByteArray) : Int := if recE r = 0 then (if rhas r nm then 0 else 5) else recE r
def unsetR (r : List Prp) (nm : ByteArray) : List Prp := if unsetE r nm = 0 then r.take (rpos r nm) ++ r.drop (rpos r nm + 1) else []
def bornE (g : Grf) (n : Nod) : Int := if nodE n = 0 then (if fhas g.nodes n.id then 7 else if 60 ≤ g.nodes.length then 4 else 0) else nodE n
def bornG (g : Grf) (n : Nod) : Grf := ⟨g.nodes.take (fpos g.nodes n.id) ++ n :: g.nodes.drop (fpos g.nodes n.id), g.ties⟩
def touch (id : Int) (t : Tie) : Bool := t.src == id || t.dst == id
def goneG (g : Grf) (id : Int) : Grf := ⟨g.nodes.take (fpos g.nodes id) ++ g.nodes.drop (fpos g.nodes id + 1), g.ties.filter fun t => !touch id t⟩
def recAt (l : List Nod) (id : Int) : List Prp := match l[fpos l id]? with | some n => n.props | none => []
def putRec (l : List Nod) (k : Nat) (r : List Prp) : List Nod := match l[k]? with | some n => l.set k ⟨n.id, n.kind, r⟩ | none => l
def opE (g : Grf) (o : Opr) : Int :=
  if o.what = 1 then bornE g o.node
  else if o.what = 2 then (if fhas g.nodes o.node.id then 0 else 5)
  else if o.what = 3 then (if fhas g.nodes o.node.id then setE (recAt g.nodes o.node.id) o.prop else 5)
  else if o.what = 4 then (if fhas g.nodes o.node.id then unsetE (recAt g.nodes o.node.id) o.prop.name else 5)
  else if o.what = 5 then (if tieE o.tie = 0 then (if thas g.ties o.tie then 7 else if 120 ≤ g.ties.length then 4 else 0) else tieE o.tie)
  else if o.what = 6 then (if thas g.ties o.tie then 0 else 5)
  else 1
def opG (g : Grf) (o : Opr) : Grf :=
  if o.what = 1 then bornG g o.node
  else if o.what = 2 then goneG g o.node.id
  else if o.what = 3 then ⟨putRec g.nodes (fpos g.nodes o.node.id) (setR (recAt g.nodes o.node.id) o.prop), g.ties⟩
  else if o.what = 4 then ⟨putRec g.nodes (fpos g.nodes o.node.id) (unsetR (recAt g.nodes o.node.id) o.prop.name), g.ties⟩
  else if o.what = 5 then ⟨g.nodes, g.ties.take (tpos g.ties o.tie) ++ o.tie :: g.ties.drop (tpos g.ties o.tie)⟩
  else if o.what = 6 then ⟨g.nodes, g.ties.take (tpos g.ties o.tie) ++ g.ties.drop (tpos g.ties o.tie + 1)⟩
  else g
/-- What delta.Do answers. -/
def doE (g : Grf) (o : Opr) : Int := if grfE g = 0 then opE g o else grfE g
def doG (g : Grf) (o : Opr) : Grf := if doE g o = 0 then opG g o else ⟨[], []⟩

theorem OwnNods.len {w : World} {B : Nat} : ∀ {l : List Nod} {xs : List Value}, OwnNods w B l xs → xs.length = l.length * 3
  | [], xs, h => by rw [show xs = [] from h]; rfl
  | d :: l, xs, h => by
    obtain ⟨u, ys, rfl, _, _, _, _, h5⟩ := h
    have := h5.len
    simp only [List.length_append, List.length_cons, List.length_nil, this]
    omega
theorem OwnNods.append {w : World} {B : Nat} : ∀ {l m : List Nod} {xs ys : List Value}, OwnNods w B l xs → OwnNods w B m ys → OwnNods w B (l ++ m) (xs ++ ys)
  | [], m, xs, ys, h, k => by rw [show xs = [] from h]; exact k
  | d :: l, m, xs, ys, h, k => by
    obtain ⟨u, zs, rfl, h1, h2, h3, h4, h5⟩ := h
    exact ⟨u, zs ++ ys, by simp, h1, h2, h3, h4, h5.append k⟩
theorem OwnNods.split {w : World} {B : Nat} : ∀ {l : List Nod} {xs : List Value} (i : Nat), i ≤ l.length → OwnNods w B l xs → OwnNods w B (l.take i) (xs.take (i * 3)) ∧ OwnNods w B (l.drop i) (xs.drop (i * 3))
  | l, xs, 0, _, h => by simp only [List.take_zero, Nat.zero_mul, List.drop_zero]; exact ⟨rfl, h⟩
  | [], xs, i + 1, hi, h => by simp at hi
  | d :: l, xs, i + 1, hi, h => by
    obtain ⟨u, ys, rfl, h1, h2, h3, h4, h5⟩ := h
    obtain ⟨k1, k2⟩ := h5.split i (by simpa using hi)
    have e : (i + 1) * 3 = i * 3 + 1 + 1 + 1 := by omega
    rw [e]
    exact ⟨⟨u, ys.take (i * 3), rfl, h1, h2, h3, h4, k1⟩, k2⟩
theorem OwnNods.one {w : World} {B : Nat} {d : Nod} {u : Value} (h1 : I64 d.id) (h2 : Sm d.kind) (h3 : ∀ p ∈ d.props, p.ok) (h4 : Own w B 107 4 u d.props.length (d.props.flatMap Prp.enc)) :
    OwnNods w B [d] [.int .i64 d.id, .string d.kind, u] := ⟨u, [], rfl, h1, h2, h3, h4, rfl⟩
theorem OwnNods.drop1 {w : World} {B : Nat} {l : List Nod} {xs : List Value} (i : Nat) (hi : i < l.length) (h : OwnNods w B l xs) : OwnNods w B (l.take i ++ l.drop (i + 1)) (xs.take (i * 3) ++ xs.drop ((i + 1) * 3)) :=
  (h.split i (by omega)).1.append (h.split (i + 1) (by omega)).2
theorem OwnNods.insert {w : World} {B : Nat} {l : List Nod} {xs : List Value} {d : Nod} {u : Value} (i : Nat) (hi : i ≤ l.length) (h : OwnNods w B l xs) (h1 : I64 d.id) (h2 : Sm d.kind) (h3 : ∀ p ∈ d.props, p.ok) (h4 : Own w B 107 4 u d.props.length (d.props.flatMap Prp.enc)) :
    OwnNods w B (l.take i ++ d :: l.drop i) (xs.take (i * 3) ++ [.int .i64 d.id, .string d.kind, u] ++ xs.drop (i * 3)) := by
  have := ((h.split i hi).1.append (OwnNods.one h1 h2 h3 h4)).append (h.split i hi).2
  rw [show l.take i ++ d :: l.drop i = l.take i ++ [d] ++ l.drop i by simp]
  exact this
theorem OwnNods.oneCell {w : World} {B : Nat} {l : List Nod} {xs : List Value} (h : OwnNods w B l xs) : ∀ u ∈ xs, u.oneCell' = true := h.row.oneCell one_nod
theorem OwnNods.get {w : World} {B : Nat} {l : List Nod} {xs : List Value} {i : Nat} {d : Nod} (h : OwnNods w B l xs) (hi : l[i]? = some d) :
    ∃ u, xs[i * 3]? = some (.int .i64 d.id) ∧ xs[i * 3 + 1]? = some (.string d.kind) ∧ xs[i * 3 + 2]? = some u ∧ I64 d.id ∧ Sm d.kind ∧ (∀ p ∈ d.props, p.ok) ∧ Own w B 107 4 u d.props.length (d.props.flatMap Prp.enc) := by
  have hil := (List.getElem?_eq_some_iff.1 hi).1
  have h2 := (h.split i (by omega)).2
  rw [drop_cons hi] at h2
  obtain ⟨u, ys, he, h1, h3, h4, h5, _⟩ := h2
  have hx : ∀ j, xs[i * 3 + j]? = (xs.drop (i * 3))[j]? := fun j => (List.getElem?_drop ..).symm
  refine ⟨u, ?_, ?_, ?_, h1, h3, h4, h5⟩
  · have := hx 0; rw [Nat.add_zero] at this; rw [this, he]; rfl
  · rw [hx 1, he]; rfl
  · rw [hx 2, he]; rfl
theorem OwnNods.put {w : World} {B : Nat} {r : List Prp} {v : Value} (h3 : ∀ p ∈ r, p.ok) (h4 : Own w B 107 4 v r.length (r.flatMap Prp.enc)) : ∀ {l : List Nod} {xs : List Value} {i : Nat} {d : Nod}, OwnNods w B l xs → l[i]? = some d → OwnNods w B (l.set i ⟨d.id, d.kind, r⟩) (xs.set (i * 3 + 2) v)
  | [], xs, i, d, h, hi => by simp at hi
  | e :: l, xs, 0, d, h, hi => by
    simp at hi
    subst hi
    obtain ⟨u, ys, rfl, h1, h2, _, _, h5⟩ := h
    exact ⟨v, ys, rfl, h1, h2, h3, h4, h5⟩
  | e :: l, xs, i + 1, d, h, hi => by
    obtain ⟨u, ys, rfl, h1, h2, k3, k4, h5⟩ := h
    have ih := OwnNods.put h3 h4 h5 (by simpa using hi)
    have e : (i + 1) * 3 + 2 = i * 3 + 2 + 1 + 1 + 1 := by omega
    rw [e]
    exact ⟨u, ys.set (i * 3 + 2) v, rfl, h1, h2, k3, k4, ih⟩
/-- A graph that is the call's own. -/
structure OwnG (w : World) (B : Nat) (vn vt : Value) (g : Grf) (xs : List Value) : Prop where
  n : Own w B 56 3 vn g.nodes.length xs
  o : OwnNods w B g.nodes xs
  t : Own w B 102 3 vt g.ties.length (g.ties.flatMap Tie.enc)
  k : ∀ x ∈ g.ties, x.ok
theorem OwnG.r {w : World} {B : Nat} {vn vt : Value} {g : Grf} {xs : List Value} (h : OwnG w B vn vt g xs) : GrfR w vn vt g := ⟨Own.nods h.n h.o, Own.ties h.t h.k⟩
theorem OwnG.below {w w' : World} {B : Nat} {vn vt : Value} {g : Grf} {xs : List Value} (h : OwnG w B vn vt g xs) (hb : Below w.heap.size w w') : OwnG w' B vn vt g xs := ⟨h.n.below hb, h.o.same (.below hb), h.t.below hb, h.k⟩
theorem OwnG.same {w w' : World} {B : Nat} {vn vt : Value} {g : Grf} {xs : List Value} (h : OwnG w B vn vt g xs) (h1 : Same 56 w w') (h2 : Same 107 w w') (h3 : Same 102 w w') : OwnG w' B vn vt g xs :=
  ⟨h.n.same h1, h.o.same h2, h.t.same h3, h.k⟩
theorem OwnG.mono {w : World} {B B' : Nat} {vn vt : Value} {g : Grf} {xs : List Value} (h : OwnG w B vn vt g xs) (hB : B' ≤ B) : OwnG w B' vn vt g xs := by
  refine ⟨h.n.mono hB, ?_, h.t.mono hB, h.k⟩
  have : ∀ {l : List Nod} {ys : List Value}, OwnNods w B l ys → OwnNods w B' l ys := by
    intro l
    induction l with
    | nil => intro ys h; exact h
    | cons d l ih =>
      intro ys h
      obtain ⟨u, zs, rfl, h1, h2, h3, h4, h5⟩ := h
      exact ⟨u, zs, rfl, h1, h2, h3, h4.mono hB, ih h5⟩
  exact this h.o
theorem OwnG.nil {w : World} {B : Nat} : OwnG w B (.slice none 0 0) (.slice none 0 0) ⟨[], []⟩ [] := ⟨Own.nil _ _ _ _, rfl, Own.nil _ _ _ _, fun x hx => by cases hx⟩
/-- A graph and an error. -/
def RetG (g : Grf) (err : Int) (w : World) (e : Ending) (w' : World) : Prop := ∃ vn vt, e = .returned (.tuple #[.agg #[vn, vt], errV err]) ∧ GrfR w' vn vt g ∧ Below w.heap.size w w'
/-- No block that was there has turned, but those of two slices. -/
structure Keep2 (w w' : World) (a b : Value) : Prop where
  s : w.heap.size ≤ w'.heap.size
  k : ∀ k, k < w.heap.size → some k ≠ a.ownBlock → some k ≠ b.ownBlock → w'.heap[k]? = w.heap[k]?
theorem Keep2.below {w w' : World} {a b : Value} (hb : Below w.heap.size w w') : Keep2 w w' a b := ⟨hb.size, fun k hk _ _ => hb.block k hk⟩
theorem Keep2.then {w w1 w2 : World} {a b : Value} (h : Keep2 w w1 a b) (hb : Below w1.heap.size w1 w2) : Keep2 w w2 a b :=
  ⟨Nat.le_trans h.s hb.size, fun k hk h1 h2 => (hb.block k (Nat.lt_of_lt_of_le hk h.s)).trans (h.k k hk h1 h2)⟩
theorem Keep2.grown1 {w w1 w2 : World} {a b : Value} (h : Keep2 w w1 a b) (hg : w1.grownBy w2 a.ownBlock) : Keep2 w w2 a b :=
  ⟨Nat.le_trans h.s hg.size, fun k hk h1 h2 => (hg.block k (Nat.lt_of_lt_of_le hk h.s) h1).trans (h.k k hk h1 h2)⟩
theorem Keep2.grown2 {w w1 w2 : World} {a b : Value} (h : Keep2 w w1 a b) (hg : w1.grownBy w2 b.ownBlock) : Keep2 w w2 a b :=
  ⟨Nat.le_trans h.s hg.size, fun k hk h1 h2 => (hg.block k (Nat.lt_of_lt_of_le hk h.s) h2).trans (h.k k hk h1 h2)⟩
theorem own_len (A : Option Addr) (n n' c : Nat) : (Value.slice A n c).ownBlock = (Value.slice A n' c).ownBlock := by cases A <;> rfl
theorem Keep2.grown1' {w w1 w2 : World} {A : Option Addr} {n n' c : Nat} {b : Value} (h : Keep2 w w1 (.slice A n c) b) (hg : w1.grownBy w2 (Value.slice A n' c).ownBlock) : Keep2 w w2 (.slice A n c) b := h.grown1 (by rw [own_len A n n' c]; exact hg)
theorem Keep2.grown2' {w w1 w2 : World} {A : Option Addr} {n n' c : Nat} {a : Value} (h : Keep2 w w1 a (.slice A n c)) (hg : w1.grownBy w2 (Value.slice A n' c).ownBlock) : Keep2 w w2 a (.slice A n c) := h.grown2 (by rw [own_len A n n' c]; exact hg)
theorem Keep2.box {w w1 : World} {a b : Value} (h : Keep2 w w1 a b) {p : Addr} (hp : w.heap.size ≤ p.block) (u : Value) : Keep2 w (w1.setCell p u) a b :=
  ⟨by have := h.s; simp [World.setCell]; omega, fun k hk h1 h2 => (Below.heap_setCell _ _ _ _ (by omega)).trans (h.k k hk h1 h2)⟩
theorem Keep2.own {w w1 : World} {a b : Value} (h : Keep2 w w1 a b) {p : Addr} (hp : a.ownBlock = some p.block) (u : Value) : Keep2 w (w1.setCell p u) a b :=
  ⟨by have := h.s; simp [World.setCell]; omega, fun k hk h1 h2 => (Below.heap_setCell _ _ _ _ (fun e => h1 (by rw [hp, e]))).trans (h.k k hk h1 h2)⟩
/-- What comes of an op on an owned graph: the new one is owned too, if there is no fault. -/
def RetOG (B : Nat) (a b : Value) (g : Grf) (err : Int) (w : World) (e : Ending) (w' : World) : Prop :=
  ∃ vn vt, e = .returned (.tuple #[.agg #[vn, vt], errV err]) ∧ (err = 0 → ∃ xs, OwnG w' B vn vt g xs) ∧ (∃ A n c A' n' c', vn = .slice A n c ∧ vt = .slice A' n' c') ∧ Below B w w' ∧ Keep2 w w' a b
end Go.Proofs.YthefofclbepkoaaDoor
