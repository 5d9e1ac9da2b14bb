/- Parts: Same, RecS, RecT, DeltaP, DelA, EmptyP. -/
import Derived.Test.YtngbbefpphinjaaGreatDoorMg04
import Derived.Test.YtngbbefpphinjaaGreatDoorMg03
import Derived.Test.YtngbbefpphinjaaGreatDoorMg01
import Derived.Maps.AppendAt
/- Plain: blocks of one element type stay as they are where only blocks of other types are written. No condition. -/
namespace Go.Proofs.YtngbbefpphinjaaGreatDoor
open Go Go.RowKit

/-- All blocks of cells of type T are as they were. -/
def Same (T : TypeId) (w w' : World) : Prop := ∀ (k : Nat) c fr, w.heap[k]? = some (.cells c T fr) → w'.heap[k]? = some (.cells c T fr)
theorem Same.refl (T : TypeId) (w : World) : Same T w w := fun _ _ _ h => h
theorem Same.trans {T : TypeId} {a b c : World} (h : Same T a b) (k : Same T b c) : Same T a c := fun i x fr hx => k i x fr (h i x fr hx)
theorem Same.below {T : TypeId} {w w' : World} (hb : Below w.heap.size w w') : Same T w w' := fun k _ _ h => (hb.block k (Array.getElem?_eq_some_iff.1 h).1).trans h
theorem Same.alloc {T : TypeId} (w : World) (o : Obj) : Same T w (w.alloc o) := .below ((Below.refl _ _).alloc (Nat.le_refl _) _)
theorem Same.drewN {T : TypeId} (w : World) (n : Nat) : Same T w (w.drewN n) := fun _ _ _ h => h
theorem Same.drew {T : TypeId} (w : World) : Same T w w.drew := fun _ _ _ h => h
theorem Same.grown {T e : TypeId} {w w' : World} {B sz n : Nat} {v : Value} {xs : List Value} (ho : Own w B e sz v n xs) (hne : e ≠ T) (hg : w.grownBy w' v.ownBlock) : Same T w w' := fun k c fr h => by
  have hlt := (Array.getElem?_eq_some_iff.1 h).1
  refine (hg.block k hlt fun e' => ?_).trans h
  rcases ho.2 with ⟨rfl, _⟩ | ⟨g, o, cap, cur, rfl, _, hg2, _⟩
  · simp [Value.ownBlock] at e'
  · simp [Value.ownBlock] at e'
    subst e'
    rw [h] at hg2
    injection hg2 with hg2
    injection hg2 with _ h2 _
    exact hne h2.symm
theorem Same.setCell {T e : TypeId} {w : World} {p : Addr} {c : Array Value} {fr : Nat × Nat} (hp : w.heap[p.block]? = some (.cells c e fr)) (hne : e ≠ T) (u : Value) : Same T w (w.setCell p u) := fun k c' fr' h => by
  refine (Below.heap_setCell w p u k (fun e' => ?_)).trans h
  subst e'
  rw [h] at hp
  injection hp with hp
  injection hp with _ h2 _
  exact hne h2.symm
theorem Own.same {w w' : World} {B : Nat} {e : TypeId} {sz : Nat} {v : Value} {n : Nat} {xs : List Value} (h : Own w B e sz v n xs) (hs : Same e w w') : Own w' B e sz v n xs := by
  refine ⟨h.1, ?_⟩
  rcases h.2 with hn | ⟨g, o, cap, cur, rfl, hb, hg, rest⟩
  · exact .inl hn
  · exact .inr ⟨g, o, cap, cur, rfl, hb, hs g cur _ hg, rest⟩

/-- Nodes of which each one's record is the call's own. -/
def OwnNods (w : World) (B : Nat) : List Nod → List Value → Prop
  | [], xs => xs = []
  | d :: l, xs => ∃ u ys, xs = [.int .i64 d.id, .string d.kind, u] ++ ys ∧ I64 d.id ∧ Sm d.kind ∧ (∀ p ∈ d.props, p.ok) ∧ Own w B 33 4 u d.props.length (d.props.flatMap Prp.enc) ∧ OwnNods w B l ys
theorem OwnNods.same {w w' : World} {B : Nat} (hs : Same 33 w w') : ∀ {l : List Nod} {xs : List Value}, OwnNods w B l xs → OwnNods w' B l xs
  | [], _, h => h
  | _ :: _, _, h => by
    obtain ⟨u, ys, rfl, h1, h2, h3, h4, h5⟩ := h
    exact ⟨u, ys, rfl, h1, h2, h3, h4.same hs, h5.same hs⟩
theorem OwnNods.snoc {w : World} {B : Nat} {d : Nod} {u : Value} (h1 : I64 d.id) (h2 : Sm d.kind) (h3 : ∀ p ∈ d.props, p.ok) (h4 : Own w B 33 4 u d.props.length (d.props.flatMap Prp.enc)) :
    ∀ {l : List Nod} {xs : List Value}, OwnNods w B l xs → OwnNods w B (l ++ [d]) (xs ++ [.int .i64 d.id, .string d.kind, u])
  | [], xs, h => by rw [show xs = [] from h]; exact ⟨u, [], by simp, h1, h2, h3, h4, rfl⟩
  | e :: l, xs, h => by
    obtain ⟨v, ys, rfl, k1, k2, k3, k4, k5⟩ := h
    exact ⟨v, ys ++ [.int .i64 d.id, .string d.kind, u], by simp, k1, k2, k3, k4, k5.snoc h1 h2 h3 h4⟩
theorem OwnNods.row {w : World} {B : Nat} : ∀ {l : List Nod} {xs : List Value}, OwnNods w B l xs → Row nodL w l xs
  | [], _, h => h
  | _ :: _, _, h => by
    obtain ⟨u, ys, rfl, h1, h2, h3, h4, h5⟩ := h
    exact ⟨_, ys, rfl, ⟨u, rfl, h1, h2, h4.prps h3⟩, h5.row⟩
theorem Own.nods {w : World} {B B' : Nat} {e : TypeId} {v : Value} {l : List Nod} {xs : List Value} (h : Own w B e 3 v l.length xs) (hn : OwnNods w B' l xs) : Sl nodL w v l := Own.row (L := nodL) h hn.row
theorem Own.ne_block {w : World} {B : Nat} {e e' : TypeId} {sz n k : Nat} {v : Value} {xs : List Value} {c : Array Value} {fr : Nat × Nat} (ho : Own w B e sz v n xs) (h : w.heap[k]? = some (.cells c e' fr)) (hne : e' ≠ e) : some k ≠ v.ownBlock := by
  intro e1
  rcases ho.2 with ⟨rfl, _⟩ | ⟨g, o, cap, cur, rfl, _, hg2, _⟩
  · simp [Value.ownBlock] at e1
  · simp [Value.ownBlock] at e1
    subst e1
    rw [h] at hg2
    injection hg2 with hg2
    injection hg2 with _ h2 _
    exact hne h2
theorem grown_block {w w' : World} {k : Nat} {row : Option Nat} {o : Obj} (hg : w.grownBy w' row) (h : w.heap[k]? = some o) (hne : some k ≠ row) : w'.heap[k]? = some o :=
  (hg.block k (Array.getElem?_eq_some_iff.1 h).1 hne).trans h
theorem block_cell {w : World} {k : Nat} {c : Array Value} {T : TypeId} {fr : Nat × Nat} (h : w.heap[k]? = some (.cells c T fr)) (i : Nat) : w.cell? ⟨k, i, none⟩ = c[i]? := by
  simp [World.cell?, h]
theorem block_free {w : World} {k : Nat} {c : Array Value} {T : TypeId} (h : w.heap[k]? = some (.cells c T (0, 0))) (i : Nat) : w.frozen? ⟨k, i, none⟩ = false := by
  simp [World.frozen?, h]
theorem setCell_block {w : World} {k : Nat} {c : Array Value} {T : TypeId} {fr : Nat × Nat} (h : w.heap[k]? = some (.cells c T fr)) (i : Nat) (u : Value) : (w.setCell ⟨k, i, none⟩ u).heap[k]? = some (.cells (c.setIfInBounds i u) T fr) := by
  simp [World.setCell, Array.getElem?_modify, h]
end Go.Proofs.YtngbbefpphinjaaGreatDoor

/- Contracts: record.Find, record.Get, record.Set. -/
namespace Go.Proofs.YtngbbefpphinjaaGreatDoor
open Go Go.RowKit


theorem clone_prps_info : (Tryz.prog.info? 33).map (fun i => (i.zero, i.size, i.bytes)) = some (some (.agg #[.string .empty, .int .i64 0, .int .i64 0, .string .empty]), 4, 48) := by kernel_rfl
set_option maxHeartbeats 2000000 in
theorem clone_prps {w : World} {v : Value} {l : List Prp} (hv : Sl prpL w v l) (hl : l.length ≤ 1048576) : Calls Tryz.prog 158 #[v] w (CloneR prpL 33 l w) := by
  obtain ⟨i0, ei, ez, ez1, ez2⟩ := info_parts clone_prps_info
  obtain ⟨A, c, rfl, _, _⟩ := hv.form
  obtain ⟨xs, hr, hx⟩ := Row.of_sl hv
  have hlen := hr.len
  have h1 := hr.oneCell one_prp
  have q22 : ∀ (w : World) (a : Option Addr) (n c n' c' : Nat), (binOp .eql 27 (.slice a n c) (.slice none n' c')).run Tryz.prog w = .ok (.bool a.isNone) w := fun w a n c n' c' => Lib.run_eql_slice_nil w _ _ a n c n' c' Tryz.underlying27
  cases A with
  | none =>
    have h0 : l = [] := by
      rcases Nat.eq_zero_or_pos l.length with h | h
      · exact List.eq_nil_of_length_eq_zero h
      · obtain ⟨_, _, hA, _⟩ := hx h; cases hA
    subst h0
    clear hv hr hx hlen h1
    go_enter Tryz.func158, Tryz.ntmps158
    go_wp2_with fail
    go_ret
    exact ⟨_, [], rfl, Own.nil _ _ _ _, rfl, Below.refl _ _⟩
  | some a =>
    have hX : Hid (0 < l.length → ∃ b o, (some a : Option Addr) = some ⟨b, o, none⟩ ∧ ∀ j u, xs[j]? = some u → w.cell? ⟨b, o + j, none⟩ = some u) := hx
    have hR := Lib.hid hr
    have hL := Lib.hid hlen
    have h1H := Lib.hid h1
    clear hv hr hx hlen h1
    go_enter Tryz.func158, Tryz.ntmps158
    go_wp2_with (at_builtin; refine wpList_append_q _ rfl (.tmp 5) (.tmp 6) 27 rfl w.heap.size 33 i0 (.agg #[.string .empty, .int .i64 0, .int .i64 0, .string .empty]) 4 48 Tryz.underlying27 ei ez ez1 ez2 rfl (by decide) (.slice (some ⟨w.heap.size, 0, none⟩) 0 0) 0 [] rfl Own.made (some a) l.length c xs rfl hL.out (fun hp => by
        obtain ⟨b, o, hA, hy⟩ := hX.out hp
        exact ⟨_, hA, fun j u hj => by rw [addr_add]; exact cell_below ((Below.refl _ _).alloc (Nat.le_refl _) _) (hy j u hj)⟩) h1H.out (by unfold maxLen; omega) (by omega) (by simp) ?_; intro v7 w7 hown7 hg7 hat7)
    have hb7 : Below w.heap.size w w7 := ((Below.refl _ _).alloc (Nat.le_refl _) _).grown hg7 (by simp) (fun k hk => Nat.le_of_eq (by simpa [Value.ownBlock] using hk))
    simp only [Nat.zero_add, List.nil_append] at hown7
    clear hg7 hat7
    go_ret
    exact ⟨_, xs, rfl, hown7, hR.out, hb7⟩

/-! ### The order of names -/
theorem less_cmp : ∀ (a b : List UInt8), Op.bytesLess a b = decide (Lib.compareBytes a b < 0)
  | [], [] => by simp [Op.bytesLess, Lib.compareBytes]
  | [], _ :: _ => by simp [Op.bytesLess, Lib.compareBytes]
  | _ :: _, [] => by simp [Op.bytesLess, Lib.compareBytes]
  | x :: a, y :: b => by
    rw [Op.bytesLess, Lib.compareBytes, less_cmp a b]
    by_cases h1 : x < y
    · simp [h1]
    · by_cases h2 : y < x
      · have : x ≠ y := fun e => by subst e; exact absurd h2 h1
        simp [h1, h2, this]
      · have e : x = y := by
          apply UInt8.toNat_inj.1
          simp [UInt8.lt_iff_toNat_lt] at h1 h2
          omega
        subst e
        simp [h1]
theorem ltS_cmp (a b : ByteArray) : ltS a b = decide (cmpS a b < 0) := by
  unfold ltS cmpS
  rw [less_cmp, ByteArray.toList_eq, ByteArray.toList_eq]
theorem prpC_mono (nm : ByteArray) : ∀ a b, prpLt a b = true → 0 ≤ prpC nm a → 0 ≤ prpC nm b := by
  intro a b h h1
  unfold prpLt at h
  rw [ltS_cmp] at h
  unfold prpC at h1 ⊢
  simp at h
  by_cases hb : cmpS b.name nm < 0
  · have := cmpS_trans h hb; omega
  · omega
theorem rec_ok {r : List Prp} (h : recE r = 0) : r.length ≤ 8 ∧ (∀ p ∈ r, prpE p = 0) ∧ chain prpLt r = true := by
  unfold recE at h
  by_cases h1 : 8 < r.length
  · rw [if_pos h1] at h; omega
  rw [if_neg h1] at h
  by_cases h2 : firstE prpE r = 0
  · rw [if_pos h2] at h
    cases hc : chain (fun a b : Prp => ltS a.name b.name) r with
    | true =>
      refine ⟨by omega, fun p hp => ?_, hc⟩
      have key : ∀ l : List Prp, firstE prpE l = 0 → ∀ p ∈ l, prpE p = 0 := by
        intro l
        induction l with
        | nil => intro _ p hp; simp at hp
        | cons a l ih =>
          intro h p hp
          rw [firstE] at h
          split at h
          · rename_i h0
            rcases List.mem_cons.1 hp with rfl | hp
            · exact h0
            · exact ih h p hp
          · rename_i h0; exact absurd h h0
      exact key r h2 p hp
    | false => rw [hc] at h; simp at h
  · rw [if_neg h2] at h; exact absurd h h2
theorem rfind1_any (d : Prp) (nm : ByteArray) (w : World) :
    Calls Tryz.prog 146 #[.agg #[.string d.name, .int .i64 d.v.ty, .int .i64 d.v.n, .string d.v.s], .string nm] w fun e w' => e = .returned (.int .i64 (cmpS d.name nm)) ∧ Below w.heap.size w w' := by
  go_enter Tryz.func146, Tryz.ntmps146
  go_wp2_with (go_at_call 139; refine (scmp_any _ _ _).mono ?_; rintro e w' ⟨rfl, rfl⟩)
  go_ret
  exact ⟨rfl, (Below.refl _ _).alloc (Nat.le_refl _) _⟩
theorem rfind_any (r : List Prp) (nm : ByteArray) (v : Value) (w : World) (hv : Sl prpL w v r) (hc : chain prpLt r = true) (hl : r.length ≤ 1000) :
    Calls Tryz.prog 90 #[v, .string nm] w fun e w' => e = .returned (.tuple #[.int .i64 (rpos r nm), .bool (rhas r nm)]) ∧ Below w.heap.size w w' := by
  have hcall := bs_prp 146 #[] (by intro args w; kernel_rfl) (.string nm) (prpC nm) r v w hv (fun d u wx _ hu => by obtain ⟨rfl, _⟩ := hu; exact rfind1_any d nm wx) (rpos r nm) hl (lowI_le _ _)
    (fun i d hi hd => low_lt hi hd) (fun i d hi hd => low_ge hc (prpC_mono nm) hi hd)
  obtain ⟨A, c, rfl, _, _⟩ := hv.form
  have HE : Hid (rhas r nm = eqAt (prpC nm) r (rpos r nm)) := rfl
  clear hv hc
  generalize eqAt (prpC nm) r (rpos r nm) = B at *
  generalize rpos r nm = K at *
  go_enter Tryz.func90, Tryz.ntmps90
  go_wp2_with fail
  refine hcall.mono ?_
  rintro e w' ⟨rfl, hb⟩
  go_wp2_with fail
  go_ret2
  exact ⟨by rw [HE.out]; rfl, hb⟩

/-! ### record.Get -/
theorem rhas_some {r : List Prp} {nm : ByteArray} (h : rhas r nm = true) : ∃ p, r[rpos r nm]? = some p := by
  unfold rhas eqAt at h
  cases hd : r[rpos r nm]? with
  | none => rw [hd] at h; simp at h
  | some d => exact ⟨d, rfl⟩
end Go.Proofs.YtngbbefpphinjaaGreatDoor

/- Contract: record.Set. -/
namespace Go.Proofs.YtngbbefpphinjaaGreatDoor
open Go Go.RowKit

theorem flat_set4 (p : Prp) : ∀ (r : List Prp) (i : Nat), i < r.length → ((((r.flatMap Prp.enc).set (i * 4) (.string p.name)).set (i * 4 + 1) (.int .i64 p.v.ty)).set (i * 4 + 2) (.int .i64 p.v.n)).set (i * 4 + 3) (.string p.v.s) = (r.set i p).flatMap Prp.enc
  | [], i, h => by simp at h
  | a :: r, 0, _ => by simp [Prp.enc]
  | a :: r, i + 1, h => by
    have ih := flat_set4 p r i (by simpa using h)
    have e : (i + 1) * 4 = i * 4 + 4 := by omega
    rw [List.set_cons_succ, List.flatMap_cons, List.flatMap_cons, ← ih, e]
    rfl
def setE (r : List Prp) (p : Prp) : Int := if recE r = 0 then (if prpE p = 0 then (if rhas r p.name then 0 else if 8 ≤ r.length then 4 else 0) else prpE p) else recE r
def putP (r : List Prp) (p : Prp) : List Prp := if rhas r p.name then r.set (rpos r p.name) p else r.take (rpos r p.name) ++ p :: r.drop (rpos r p.name)
def setR (r : List Prp) (p : Prp) : List Prp := if setE r p = 0 then putP r p else []
/-- A record and an error. -/
def RetR (l : List Prp) (err : Int) (w : World) (e : Ending) (w' : World) : Prop := ∃ v, e = .returned (.tuple #[v, errV err]) ∧ Sl prpL w' v l ∧ Below w.heap.size w w'
/-- A record that is the call's own. -/
def OwnP (w : World) (B : Nat) (v : Value) (l : List Prp) : Prop := Own w B 33 4 v l.length (l.flatMap Prp.enc) ∧ ∀ x ∈ l, x.ok
theorem OwnP.nil {w : World} {B : Nat} : OwnP w B (.slice none 0 0) [] := ⟨Own.nil _ _ _ _, fun x hx => by cases hx⟩
/-- The same, the record the call's own. -/
def RetO (l : List Prp) (err : Int) (w : World) (e : Ending) (w' : World) : Prop := ∃ v, e = .returned (.tuple #[v, errV err]) ∧ OwnP w' w.heap.size v l ∧ Below w.heap.size w w'
theorem RetO.r {l : List Prp} {err : Int} {w w' : World} {e : Ending} (h : RetO l err w e w') : RetR l err w e w' := by
  obtain ⟨v, h1, h2, h3⟩ := h
  exact ⟨v, h1, h2.1.prps h2.2, h3⟩
theorem cell_box4' (w : World) (a b c d : Value) (t : TypeId) : (w.alloc (.cells #[a, b, c, d] t)).cell? ⟨w.heap.size, 0, none⟩ = some a ∧ (w.alloc (.cells #[a, b, c, d] t)).cell? ⟨w.heap.size, 1, none⟩ = some b ∧
    (w.alloc (.cells #[a, b, c, d] t)).cell? ⟨w.heap.size, 2, none⟩ = some c ∧ (w.alloc (.cells #[a, b, c, d] t)).cell? ⟨w.heap.size, 3, none⟩ = some d :=
  ⟨by rw [World.cell?_alloc_at _ _ _ _ rfl]; rfl, by rw [World.cell?_alloc_at _ _ _ _ rfl]; rfl, by rw [World.cell?_alloc_at _ _ _ _ rfl]; rfl, by rw [World.cell?_alloc_at _ _ _ _ rfl]; rfl⟩
set_option maxRecDepth 100000 in
set_option maxHeartbeats 4000000 in
theorem set_own (r : List Prp) (p : Prp) (v : Value) (w : World) (hv : Sl prpL w v r) (hp : p.ok) :
    Calls Tryz.prog 104 #[v, .agg #[.string p.name, .int .i64 p.v.ty, .int .i64 p.v.n, .string p.v.s]] w (RetO (setR r p) (setE r p) w) := by
  have hb0 : Below w.heap.size w (w.alloc (.cells #[.string p.name, .int .i64 p.v.ty, .int .i64 p.v.n, .string p.v.s] 33)) := (Below.refl _ _).alloc (Nat.le_refl _) _
  obtain ⟨z0, z1, z2, z3⟩ := cell_box4' w (.string p.name) (.int .i64 p.v.ty) (.int .i64 p.v.n) (.string p.v.s) 33
  have h1 := recCheck_any r v _ (hv.below hb0)
  have HV := Lib.hid hv
  obtain ⟨A, c, rfl, _, _⟩ := hv.form
  clear hv
  go_enter Tryz.func104, Tryz.ntmps104
  go_wp2_with fail
  refine h1.mono ?_
  clear h1
  rintro e w1 ⟨rfl, hb1⟩
  have hB1 := hb0.trans (hb1.mono hb0.size)
  have y0 := cell_below hb1 z0
  have y1 := cell_below hb1 z1
  have y2 := cell_below hb1 z2
  have y3 := cell_below hb1 z3
  clear z0 z1 z2 z3 hb0 hb1
  by_cases he : recE r = 0
  case neg =>
    have HE : Hid (errV (setE r p) = .iface 122 (.int .i64 (recE r)) ∧ setR r p = []) := by
      have h0 : setE r p = recE r := by unfold setE; rw [if_neg he]
      exact ⟨by rw [h0]; exact errV_some he, by unfold setR; rw [h0, if_neg he]⟩
    rw [errV_some he]
    clear he
    go_wp2_with fail
    go_ret2
    exact ⟨.slice none 0 0, by rw [HE.out.1]; rfl, by rw [HE.out.2]; exact OwnP.nil, hB1⟩
  obtain ⟨hl8, _, hch⟩ := rec_ok he
  have HE0 : Hid (setE r p = if prpE p = 0 then (if rhas r p.name then 0 else if 8 ≤ r.length then 4 else 0) else prpE p) := by unfold Hid setE; rw [if_pos he]
  rw [errV_zero he]
  clear he
  go_wp2_with fail
  refine (prop_any p hp w1).mono ?_
  rintro e w2 ⟨rfl, hb2⟩
  have hB2 := hB1.trans (hb2.mono hB1.size)
  have x0 := cell_below hb2 y0
  have x1 := cell_below hb2 y1
  have x2 := cell_below hb2 y2
  have x3 := cell_below hb2 y3
  clear y0 y1 y2 y3 hb2 hB1
  by_cases he : prpE p = 0
  case neg =>
    have HE : Hid (errV (setE r p) = .iface 122 (.int .i64 (prpE p)) ∧ setR r p = []) := by
      have h0 : setE r p = prpE p := by rw [HE0.out, if_neg he]
      exact ⟨by rw [h0]; exact errV_some he, by unfold setR; rw [h0, if_neg he]⟩
    rw [errV_some he]
    clear he
    go_wp2_with fail
    go_ret2
    exact ⟨.slice none 0 0, by rw [HE.out.1]; rfl, by rw [HE.out.2]; exact OwnP.nil, hB2⟩
  have HE : Hid (setE r p = if rhas r p.name then 0 else if 8 ≤ r.length then 4 else 0) := by unfold Hid; rw [HE0.out, if_pos he]
  rw [errV_zero he]
  have hfd := rfind_any r p.name _ w2 (HV.out.below hB2) hch (by omega)
  clear he hch HE0
  go_wp2_with fail
  refine hfd.mono ?_
  clear hfd
  rintro e w3 ⟨rfl, hb3⟩
  have hB3 := hB2.trans (hb3.mono hB2.size)
  have y0 := cell_below hb3 x0
  have y1 := cell_below hb3 x1
  have y2 := cell_below hb3 x2
  have y3 := cell_below hb3 x3
  have hK := lowI_le (prpC p.name) r
  have h3lt : w.heap.size < w3.heap.size := World.block_lt_of_cell? _ _ y0
  have HP : Hid (putP r p = if rhas r p.name then r.set (rpos r p.name) p else r.take (rpos r p.name) ++ p :: r.drop (rpos r p.name)) := rfl
  have hcl := clone_prps (HV.out.below hB3) (by omega)
  clear x0 x1 x2 x3 hb3 hB2
  go_wp2_with fail
  refine hcl.mono ?_
  clear hcl
  rintro e w4 ⟨v4, xs, rfl, hown, hrow, hb4⟩
  obtain ⟨rfl, hoks⟩ := Row.flat hrow
  have hown : Own w4 w3.heap.size 33 4 v4 r.length (r.flatMap Prp.enc) := hown
  have hB4 := hB3.trans (hb4.mono hB3.size)
  have h34 := hB3.size
  have hl4 := hb4.size
  have x0 := cell_below hb4 y0
  have x1 := cell_below hb4 y1
  have x2 := cell_below hb4 y2
  have x3 := cell_below hb4 y3
  have HO : Hid (∀ q ∈ r, q.ok) := hoks
  clear y0 y1 y2 y3 hrow hoks
  cases hq : rhas r p.name with
  | true =>
    obtain ⟨d, hd⟩ := rhas_some hq
    have hpl := (List.getElem?_eq_some_iff.1 hd).1
    have HF : Hid (setE r p = 0 ∧ setR r p = r.set (rpos r p.name) p) := by
      have h0 : setE r p = 0 := by rw [HE.out, hq]; rfl
      exact ⟨h0, by unfold setR; rw [if_pos h0, HP.out, hq]; rfl⟩
    obtain ⟨g, o, c4, rfl, hg1, hg2⟩ := hown.addr (by omega)
    have hS := flat_set4 p r (rpos r p.name) hpl
    have hlen := hown.1
    have s1 := hown.store (rpos r p.name * 4) (by omega) (.string p.name)
    have s2 := s1.store (rpos r p.name * 4 + 1) (by omega) (.int .i64 p.v.ty)
    have s3 := s2.store (rpos r p.name * 4 + 2) (by omega) (.int .i64 p.v.n)
    have s4 := s3.store (rpos r p.name * 4 + 3) (by omega) (.string p.v.s)
    rw [hS] at s4
    obtain ⟨b, o', hA, _, q0, q1, q2, q3⟩ := prp_at (hown.prps HO.out) hd
    injection hA with hA
    injection hA with hA1 hA2
    subst hA1; subst hA2
    have f0 := hown.frozen rfl (o + rpos r p.name * 4)
    have f1 := hown.frozen rfl (o + rpos r p.name * 4 + 1)
    have f2 := hown.frozen rfl (o + rpos r p.name * 4 + 2)
    have f3 := hown.frozen rfl (o + rpos r p.name * 4 + 3)
    have hne : w.heap.size ≠ g := by omega
    have HS4 := Lib.hid s4
    have hpl' : (rpos r p.name : Int) < (r.length : Int) := by omega
    have HL : Hid ((r.set (rpos r p.name) p).length = r.length) := List.length_set ..
    have HO2 : Hid (∀ q ∈ r.set (rpos r p.name) p, q.ok) := fun q hq2 => by
      rcases List.mem_or_eq_of_mem_set hq2 with h | rfl
      · exact HO.out q h
      · exact hp
    generalize rpos r p.name = K at *
    clear hq HE HP hd hS s1 s2 s3 s4 hown
    go_wp2_with fail
    go_ret2
    refine ⟨.slice (some ⟨g, o, none⟩) r.length c4, by rw [HF.out.1, errV_zero rfl]; rfl, ?_, ?_⟩
    · rw [HF.out.2]
      exact ⟨(Own.mono (by rw [HL.out]; exact HS4.out) h34), HO2.out⟩
    · exact (((hB4.setCell (p := ⟨g, _, none⟩) (by show w.heap.size ≤ g; omega) _).setCell (p := ⟨g, _, none⟩) (by show w.heap.size ≤ g; omega) _).setCell (p := ⟨g, _, none⟩) (by show w.heap.size ≤ g; omega) _).setCell (p := ⟨g, _, none⟩) (by show w.heap.size ≤ g; omega) _
  | false =>
    by_cases h8 : 8 ≤ r.length
    · have HF : Hid (setE r p = 4 ∧ setR r p = []) := by
        have h0 : setE r p = 4 := by rw [HE.out, hq]; simp [h8]
        exact ⟨h0, by unfold setR; rw [h0]; rfl⟩
      have h8' : (8 : Int) ≤ (r.length : Int) := by omega
      obtain ⟨A4, c4, rfl, _, _⟩ := hown.form
      clear hq HE HP hown
      go_wp2_with fail
      go_ret2
      exact ⟨.slice none 0 0, by rw [HF.out.1]; rfl, by rw [HF.out.2]; exact OwnP.nil, hB4⟩
    · have HF : Hid (setE r p = 0 ∧ setR r p = r.take (rpos r p.name) ++ p :: r.drop (rpos r p.name)) := by
        have h0 : setE r p = 0 := by rw [HE.out, hq]; simp [h8]
        exact ⟨h0, by unfold setR; rw [if_pos h0, HP.out, hq]; rfl⟩
      have h8' : (r.length : Int) < 8 := by omega
      have hK' : rpos r p.name ≤ r.length := hK
      have hfi := flat_insert Prp.enc_len r (rpos r p.name) hK' p
      have hil := ins_prp (w4.alloc (.cells #[.string p.name, .int .i64 p.v.ty, .int .i64 p.v.n, .string p.v.s] 33)) w3.heap.size v4 r.length (r.flatMap Prp.enc) (hown.alloc _) (rpos r p.name) hK' w4.heap.size p.enc rfl (heap_alloc_new _ _) p.enc_one (oneCell_flat Prp.enc_one r)
        (fun e => by have := (hown.lt _ e).2; omega) (by simp; omega) (by omega)
      rw [hfi] at hil
      have HOK : Hid (∀ q ∈ r.take (rpos r p.name) ++ p :: r.drop (rpos r p.name), q.ok) := fun q hq2 => by
        rcases List.mem_append.1 hq2 with h | h
        · exact HO.out q (List.mem_of_mem_take h)
        · rcases List.mem_cons.1 h with rfl | h
          · exact hp
          · exact HO.out q (List.mem_of_mem_drop h)
      have HL : Hid ((r.take (rpos r p.name) ++ p :: r.drop (rpos r p.name)).length = r.length + 1) := by unfold Hid; simp; omega
      generalize r.take (rpos r p.name) ++ p :: r.drop (rpos r p.name) = r' at *
      generalize rpos r p.name = K at *
      have HW := Lib.hid hown
      obtain ⟨A4, c4, rfl, _, _⟩ := hown.form
      clear hq HE HP hfi hown
      go_wp2_with fail
      refine hil.mono ?_
      clear hil
      rintro e w5 ⟨v5, rfl, hown5, hg5⟩
      rw [← HL.out] at hown5
      have hsl := hown5.mono h34
      have hB5 : Below w.heap.size w w5 := (hB4.alloc hB4.size _).grown hg5 (by have := hB4.size; simp; omega) (fun kk e => by have := (HW.out.lt kk e).1; omega)
      obtain ⟨A5, c5, rfl, _, _⟩ := hown5.form
      have HSL := Lib.hid hsl
      clear hg5 hown5 hsl
      go_wp2_with fail
      go_ret2
      exact ⟨.slice A5 r'.length c5, by rw [HF.out.1, errV_zero rfl]; rfl, by rw [HF.out.2]; exact ⟨HSL.out, HOK.out⟩, hB5⟩
end Go.Proofs.YtngbbefpphinjaaGreatDoor

/- Plain: what an op makes of a graph; graphs that a call owns. -/
namespace Go.Proofs.YtngbbefpphinjaaGreatDoor
open Go Go.RowKit

structure Opr where
  what : Int
  node : Nod
  prop : Prp
  tie : Tie
def unsetE (r : List Prp) (nm : ByteArray) : Int := if recE r = 0 then (if rhas r nm then 0 else 5) else recE r
def unsetR (r : List Prp) (nm : ByteArray) : List Prp := if unsetE r nm = 0 then r.take (rpos r nm) ++ r.drop (rpos r nm + 1) else []
def bornE (g : Grf) (n : Nod) : Int := if nodE n = 0 then (if fhas g.nodes n.id then 7 else if 60 ≤ g.nodes.length then 4 else 0) else nodE n
def bornG (g : Grf) (n : Nod) : Grf := ⟨g.nodes.take (fpos g.nodes n.id) ++ n :: g.nodes.drop (fpos g.nodes n.id), g.ties⟩
def touch (id : Int) (t : Tie) : Bool := t.src == id || t.dst == id
def goneG (g : Grf) (id : Int) : Grf := ⟨g.nodes.take (fpos g.nodes id) ++ g.nodes.drop (fpos g.nodes id + 1), g.ties.filter fun t => !touch id t⟩
def recAt (l : List Nod) (id : Int) : List Prp := match l[fpos l id]? with | some n => n.props | none => []
def putRec (l : List Nod) (k : Nat) (r : List Prp) : List Nod := match l[k]? with | some n => l.set k ⟨n.id, n.kind, r⟩ | none => l
def opE (g : Grf) (o : Opr) : Int :=
  if o.what = 1 then bornE g o.node
  else if o.what = 2 then (if fhas g.nodes o.node.id then 0 else 5)
  else if o.what = 3 then (if fhas g.nodes o.node.id then setE (recAt g.nodes o.node.id) o.prop else 5)
  else if o.what = 4 then (if fhas g.nodes o.node.id then unsetE (recAt g.nodes o.node.id) o.prop.name else 5)
  else if o.what = 5 then (if tieE o.tie = 0 then (if thas g.ties o.tie then 7 else if 120 ≤ g.ties.length then 4 else 0) else tieE o.tie)
  else if o.what = 6 then (if thas g.ties o.tie then 0 else 5)
  else 1
def opG (g : Grf) (o : Opr) : Grf :=
  if o.what = 1 then bornG g o.node
  else if o.what = 2 then goneG g o.node.id
  else if o.what = 3 then ⟨putRec g.nodes (fpos g.nodes o.node.id) (setR (recAt g.nodes o.node.id) o.prop), g.ties⟩
  else if o.what = 4 then ⟨putRec g.nodes (fpos g.nodes o.node.id) (unsetR (recAt g.nodes o.node.id) o.prop.name), g.ties⟩
  else if o.what = 5 then ⟨g.nodes, g.ties.take (tpos g.ties o.tie) ++ o.tie :: g.ties.drop (tpos g.ties o.tie)⟩
  else if o.what = 6 then ⟨g.nodes, g.ties.take (tpos g.ties o.tie) ++ g.ties.drop (tpos g.ties o.tie + 1)⟩
  else g
/-- What delta.Do answers. -/
def doE (g : Grf) (o : Opr) : Int := if grfE g = 0 then opE g o else grfE g
def doG (g : Grf) (o : Opr) : Grf := if doE g o = 0 then opG g o else ⟨[], []⟩

theorem OwnNods.len {w : World} {B : Nat} : ∀ {l : List Nod} {xs : List Value}, OwnNods w B l xs → xs.length = l.length * 3
  | [], xs, h => by rw [show xs = [] from h]; rfl
  | d :: l, xs, h => by
    obtain ⟨u, ys, rfl, _, _, _, _, h5⟩ := h
    have := h5.len
    simp only [List.length_append, List.length_cons, List.length_nil, this]
    omega
theorem OwnNods.append {w : World} {B : Nat} : ∀ {l m : List Nod} {xs ys : List Value}, OwnNods w B l xs → OwnNods w B m ys → OwnNods w B (l ++ m) (xs ++ ys)
  | [], m, xs, ys, h, k => by rw [show xs = [] from h]; exact k
  | d :: l, m, xs, ys, h, k => by
    obtain ⟨u, zs, rfl, h1, h2, h3, h4, h5⟩ := h
    exact ⟨u, zs ++ ys, by simp, h1, h2, h3, h4, h5.append k⟩
theorem OwnNods.split {w : World} {B : Nat} : ∀ {l : List Nod} {xs : List Value} (i : Nat), i ≤ l.length → OwnNods w B l xs → OwnNods w B (l.take i) (xs.take (i * 3)) ∧ OwnNods w B (l.drop i) (xs.drop (i * 3))
  | l, xs, 0, _, h => by simp only [List.take_zero, Nat.zero_mul, List.drop_zero]; exact ⟨rfl, h⟩
  | [], xs, i + 1, hi, h => by simp at hi
  | d :: l, xs, i + 1, hi, h => by
    obtain ⟨u, ys, rfl, h1, h2, h3, h4, h5⟩ := h
    obtain ⟨k1, k2⟩ := h5.split i (by simpa using hi)
    have e : (i + 1) * 3 = i * 3 + 1 + 1 + 1 := by omega
    rw [e]
    exact ⟨⟨u, ys.take (i * 3), rfl, h1, h2, h3, h4, k1⟩, k2⟩
theorem OwnNods.one {w : World} {B : Nat} {d : Nod} {u : Value} (h1 : I64 d.id) (h2 : Sm d.kind) (h3 : ∀ p ∈ d.props, p.ok) (h4 : Own w B 33 4 u d.props.length (d.props.flatMap Prp.enc)) :
    OwnNods w B [d] [.int .i64 d.id, .string d.kind, u] := ⟨u, [], rfl, h1, h2, h3, h4, rfl⟩
theorem OwnNods.drop1 {w : World} {B : Nat} {l : List Nod} {xs : List Value} (i : Nat) (hi : i < l.length) (h : OwnNods w B l xs) : OwnNods w B (l.take i ++ l.drop (i + 1)) (xs.take (i * 3) ++ xs.drop ((i + 1) * 3)) :=
  (h.split i (by omega)).1.append (h.split (i + 1) (by omega)).2
theorem OwnNods.insert {w : World} {B : Nat} {l : List Nod} {xs : List Value} {d : Nod} {u : Value} (i : Nat) (hi : i ≤ l.length) (h : OwnNods w B l xs) (h1 : I64 d.id) (h2 : Sm d.kind) (h3 : ∀ p ∈ d.props, p.ok) (h4 : Own w B 33 4 u d.props.length (d.props.flatMap Prp.enc)) :
    OwnNods w B (l.take i ++ d :: l.drop i) (xs.take (i * 3) ++ [.int .i64 d.id, .string d.kind, u] ++ xs.drop (i * 3)) := by
  have := ((h.split i hi).1.append (OwnNods.one h1 h2 h3 h4)).append (h.split i hi).2
  rw [show l.take i ++ d :: l.drop i = l.take i ++ [d] ++ l.drop i by simp]
  exact this
theorem OwnNods.oneCell {w : World} {B : Nat} {l : List Nod} {xs : List Value} (h : OwnNods w B l xs) : ∀ u ∈ xs, u.oneCell' = true := h.row.oneCell one_nod
theorem OwnNods.get {w : World} {B : Nat} {l : List Nod} {xs : List Value} {i : Nat} {d : Nod} (h : OwnNods w B l xs) (hi : l[i]? = some d) :
    ∃ u, xs[i * 3]? = some (.int .i64 d.id) ∧ xs[i * 3 + 1]? = some (.string d.kind) ∧ xs[i * 3 + 2]? = some u ∧ I64 d.id ∧ Sm d.kind ∧ (∀ p ∈ d.props, p.ok) ∧ Own w B 33 4 u d.props.length (d.props.flatMap Prp.enc) := by
  have hil := (List.getElem?_eq_some_iff.1 hi).1
  have h2 := (h.split i (by omega)).2
  rw [drop_cons hi] at h2
  obtain ⟨u, ys, he, h1, h3, h4, h5, _⟩ := h2
  have hx : ∀ j, xs[i * 3 + j]? = (xs.drop (i * 3))[j]? := fun j => (List.getElem?_drop ..).symm
  refine ⟨u, ?_, ?_, ?_, h1, h3, h4, h5⟩
  · have := hx 0; rw [Nat.add_zero] at this; rw [this, he]; rfl
  · rw [hx 1, he]; rfl
  · rw [hx 2, he]; rfl
theorem OwnNods.put {w : World} {B : Nat} {r : List Prp} {v : Value} (h3 : ∀ p ∈ r, p.ok) (h4 : Own w B 33 4 v r.length (r.flatMap Prp.enc)) : ∀ {l : List Nod} {xs : List Value} {i : Nat} {d : Nod}, OwnNods w B l xs → l[i]? = some d → OwnNods w B (l.set i ⟨d.id, d.kind, r⟩) (xs.set (i * 3 + 2) v)
  | [], xs, i, d, h, hi => by simp at hi
  | e :: l, xs, 0, d, h, hi => by
    simp at hi
    subst hi
    obtain ⟨u, ys, rfl, h1, h2, _, _, h5⟩ := h
    exact ⟨v, ys, rfl, h1, h2, h3, h4, h5⟩
  | e :: l, xs, i + 1, d, h, hi => by
    obtain ⟨u, ys, rfl, h1, h2, k3, k4, h5⟩ := h
    have ih := OwnNods.put h3 h4 h5 (by simpa using hi)
    have e : (i + 1) * 3 + 2 = i * 3 + 2 + 1 + 1 + 1 := by omega
    rw [e]
    exact ⟨u, ys.set (i * 3 + 2) v, rfl, h1, h2, k3, k4, ih⟩
/-- A graph that is the call's own. -/
structure OwnG (w : World) (B : Nat) (vn vt : Value) (g : Grf) (xs : List Value) : Prop where
  n : Own w B 29 3 vn g.nodes.length xs
  o : OwnNods w B g.nodes xs
  t : Own w B 35 3 vt g.ties.length (g.ties.flatMap Tie.enc)
  k : ∀ x ∈ g.ties, x.ok
theorem OwnG.r {w : World} {B : Nat} {vn vt : Value} {g : Grf} {xs : List Value} (h : OwnG w B vn vt g xs) : GrfR w vn vt g := ⟨Own.nods h.n h.o, Own.ties h.t h.k⟩
theorem OwnG.below {w w' : World} {B : Nat} {vn vt : Value} {g : Grf} {xs : List Value} (h : OwnG w B vn vt g xs) (hb : Below w.heap.size w w') : OwnG w' B vn vt g xs := ⟨h.n.below hb, h.o.same (.below hb), h.t.below hb, h.k⟩
theorem OwnG.same {w w' : World} {B : Nat} {vn vt : Value} {g : Grf} {xs : List Value} (h : OwnG w B vn vt g xs) (h1 : Same 29 w w') (h2 : Same 33 w w') (h3 : Same 35 w w') : OwnG w' B vn vt g xs :=
  ⟨h.n.same h1, h.o.same h2, h.t.same h3, h.k⟩
theorem OwnG.mono {w : World} {B B' : Nat} {vn vt : Value} {g : Grf} {xs : List Value} (h : OwnG w B vn vt g xs) (hB : B' ≤ B) : OwnG w B' vn vt g xs := by
  refine ⟨h.n.mono hB, ?_, h.t.mono hB, h.k⟩
  have : ∀ {l : List Nod} {ys : List Value}, OwnNods w B l ys → OwnNods w B' l ys := by
    intro l
    induction l with
    | nil => intro ys h; exact h
    | cons d l ih =>
      intro ys h
      obtain ⟨u, zs, rfl, h1, h2, h3, h4, h5⟩ := h
      exact ⟨u, zs, rfl, h1, h2, h3, h4.mono hB, ih h5⟩
  exact this h.o
theorem OwnG.nil {w : World} {B : Nat} : OwnG w B (.slice none 0 0) (.slice none 0 0) ⟨[], []⟩ [] := ⟨Own.nil _ _ _ _, rfl, Own.nil _ _ _ _, fun x hx => by cases hx⟩
/-- A graph and an error. -/
def RetG (g : Grf) (err : Int) (w : World) (e : Ending) (w' : World) : Prop := ∃ vn vt, e = .returned (.tuple #[.agg #[vn, vt], errV err]) ∧ GrfR w' vn vt g ∧ Below w.heap.size w w'
/-- No block that was there has turned, but those of two slices. -/
structure Keep2 (w w' : World) (a b : Value) : Prop where
  s : w.heap.size ≤ w'.heap.size
  k : ∀ k, k < w.heap.size → some k ≠ a.ownBlock → some k ≠ b.ownBlock → w'.heap[k]? = w.heap[k]?
theorem Keep2.below {w w' : World} {a b : Value} (hb : Below w.heap.size w w') : Keep2 w w' a b := ⟨hb.size, fun k hk _ _ => hb.block k hk⟩
theorem Keep2.then {w w1 w2 : World} {a b : Value} (h : Keep2 w w1 a b) (hb : Below w1.heap.size w1 w2) : Keep2 w w2 a b :=
  ⟨Nat.le_trans h.s hb.size, fun k hk h1 h2 => (hb.block k (Nat.lt_of_lt_of_le hk h.s)).trans (h.k k hk h1 h2)⟩
theorem Keep2.grown1 {w w1 w2 : World} {a b : Value} (h : Keep2 w w1 a b) (hg : w1.grownBy w2 a.ownBlock) : Keep2 w w2 a b :=
  ⟨Nat.le_trans h.s hg.size, fun k hk h1 h2 => (hg.block k (Nat.lt_of_lt_of_le hk h.s) h1).trans (h.k k hk h1 h2)⟩
theorem Keep2.grown2 {w w1 w2 : World} {a b : Value} (h : Keep2 w w1 a b) (hg : w1.grownBy w2 b.ownBlock) : Keep2 w w2 a b :=
  ⟨Nat.le_trans h.s hg.size, fun k hk h1 h2 => (hg.block k (Nat.lt_of_lt_of_le hk h.s) h2).trans (h.k k hk h1 h2)⟩
theorem own_len (A : Option Addr) (n n' c : Nat) : (Value.slice A n c).ownBlock = (Value.slice A n' c).ownBlock := by cases A <;> rfl
theorem Keep2.grown1' {w w1 w2 : World} {A : Option Addr} {n n' c : Nat} {b : Value} (h : Keep2 w w1 (.slice A n c) b) (hg : w1.grownBy w2 (Value.slice A n' c).ownBlock) : Keep2 w w2 (.slice A n c) b := h.grown1 (by rw [own_len A n n' c]; exact hg)
theorem Keep2.grown2' {w w1 w2 : World} {A : Option Addr} {n n' c : Nat} {a : Value} (h : Keep2 w w1 a (.slice A n c)) (hg : w1.grownBy w2 (Value.slice A n' c).ownBlock) : Keep2 w w2 a (.slice A n c) := h.grown2 (by rw [own_len A n n' c]; exact hg)
theorem Keep2.box {w w1 : World} {a b : Value} (h : Keep2 w w1 a b) {p : Addr} (hp : w.heap.size ≤ p.block) (u : Value) : Keep2 w (w1.setCell p u) a b :=
  ⟨by have := h.s; simp [World.setCell]; omega, fun k hk h1 h2 => (Below.heap_setCell _ _ _ _ (by omega)).trans (h.k k hk h1 h2)⟩
theorem Keep2.own {w w1 : World} {a b : Value} (h : Keep2 w w1 a b) {p : Addr} (hp : a.ownBlock = some p.block) (u : Value) : Keep2 w (w1.setCell p u) a b :=
  ⟨by have := h.s; simp [World.setCell]; omega, fun k hk h1 h2 => (Below.heap_setCell _ _ _ _ (fun e => h1 (by rw [hp, e]))).trans (h.k k hk h1 h2)⟩
/-- What comes of an op on an owned graph: the new one is owned too, if there is no fault. -/
def RetOG (B : Nat) (a b : Value) (g : Grf) (err : Int) (w : World) (e : Ending) (w' : World) : Prop :=
  ∃ vn vt, e = .returned (.tuple #[.agg #[vn, vt], errV err]) ∧ (err = 0 → ∃ xs, OwnG w' B vn vt g xs) ∧ (∃ A n c A' n' c', vn = .slice A n c ∧ vt = .slice A' n' c') ∧ Below B w w' ∧ Keep2 w w' a b
end Go.Proofs.YtngbbefpphinjaaGreatDoor

/- Plain laws of the model: a struct stored into an owned row; clear; what slices.DeleteFunc has kept so far. No condition. -/
namespace Go.Proofs.YtngbbefpphinjaaGreatDoor
open Go Go.RowKit

/-! ### Lists -/
/-- The cells from k on are these. -/
def setAll {α : Type} : List α → Nat → List α → List α
  | xs, _, [] => xs
  | xs, k, c :: cs => setAll (xs.set k c) (k + 1) cs
theorem setAll_append {α : Type} (P : List α) : ∀ (cs R : List α) (k : Nat), setAll (P ++ R) (P.length + k) cs = P ++ setAll R k cs
  | [], _, _ => rfl
  | c :: cs, R, k => by
    rw [setAll, setAll, List.set_append_right _ _ (by omega), Nat.add_sub_cancel_left, Nat.add_assoc]
    exact setAll_append P cs _ _
theorem setAll_head {α : Type} : ∀ (cs P R : List α), P.length = cs.length → setAll (P ++ R) 0 cs = cs ++ R
  | [], P, R, h => by
    have e : P = [] := List.eq_nil_of_length_eq_zero (by simpa using h)
    subst e; rfl
  | c :: cs, a :: P, R, h => by
    show setAll (c :: (P ++ R)) (0 + 1) cs = _
    have := setAll_append [c] cs (P ++ R) 0
    simp only [List.singleton_append, List.length_singleton] at this
    rw [show (0 : Nat) + 1 = 1 + 0 by omega, this, setAll_head cs P R (by simpa using h)]
    rfl
  | c :: cs, [], R, h => by simp at h
section
variable {D : Type} {n : Nat} {enc : D → List Value}
theorem flat_set (hn : ∀ d, (enc d).length = n) : ∀ (l : List D) (i : Nat) (d : D), i < l.length → setAll (l.flatMap enc) (i * n) (enc d) = (l.set i d).flatMap enc
  | a :: l, 0, d, _ => by
    rw [List.flatMap_cons, Nat.zero_mul, List.set_cons_zero, List.flatMap_cons]
    exact setAll_head _ _ _ (by rw [hn, hn])
  | a :: l, i + 1, d, h => by
    rw [List.flatMap_cons, List.set_cons_succ, List.flatMap_cons, ← flat_set hn l i d (by simpa using h), ← setAll_append]
    congr 1
    rw [hn, Nat.add_mul]; omega
end

/-! ### What is kept -/
structure Kept {D : Type} (p : D → Bool) (l dk : List D) (j i : Nat) : Prop where
  len : dk.length = l.length
  lt : i < j
  le : j ≤ l.length
  low : dk.take i = (l.take j).filter (fun x => !p x)
  high : dk.drop j = l.drop j
theorem filter_all {D : Type} {p : D → Bool} {l : List D} (h : ∀ j x, j < l.length → l[j]? = some x → p x = false) : l.filter (fun x => !p x) = l := by
  rw [List.filter_eq_self]
  intro x hx
  obtain ⟨i, hi⟩ := List.mem_iff_getElem?.1 hx
  rw [h i x (List.getElem?_eq_some_iff.1 hi).1 hi]; rfl
theorem take_snoc {D : Type} {l : List D} {j : Nat} {d : D} (h : l[j]? = some d) : l.take (j + 1) = l.take j ++ [d] := by
  rw [List.take_add_one, h]; rfl
theorem Kept.start {D : Type} {p : D → Bool} {l : List D} {k : Nat} {d : D} (h : l[k]? = some d) (hd : p d = true) (hm : ∀ j x, j < k → l[j]? = some x → p x = false) : Kept p l l (k + 1) k := by
  have hk := (List.getElem?_eq_some_iff.1 h).1
  refine ⟨rfl, by omega, by omega, ?_, rfl⟩
  rw [take_snoc h, List.filter_append]
  have e : [d].filter (fun x => !p x) = [] := by simp [hd]
  rw [e, List.append_nil, filter_all]
  intro j x hj hx
  rw [List.getElem?_take] at hx
  split at hx
  · exact hm j x (by assumption) hx
  · cases hx
theorem Kept.at {D : Type} {p : D → Bool} {l dk : List D} {j i : Nat} (h : Kept p l dk j i) (_hj : j < l.length) : dk[j]? = l[j]? := by
  have := congrArg (fun x => x[0]?) h.high
  simpa using this
theorem Kept.skip {D : Type} {p : D → Bool} {l dk : List D} {j i : Nat} {d : D} (h : Kept p l dk j i) (hd : l[j]? = some d) (hp : p d = true) : Kept p l dk (j + 1) i := by
  have hjl := (List.getElem?_eq_some_iff.1 hd).1
  refine ⟨h.len, by have := h.lt; omega, by omega, ?_, ?_⟩
  · rw [take_snoc hd, List.filter_append, h.low]; simp [hp]
  · have := congrArg (List.drop 1) h.high
    simpa using this
theorem Kept.keep {D : Type} {p : D → Bool} {l dk : List D} {j i : Nat} {d : D} (h : Kept p l dk j i) (hd : l[j]? = some d) (hp : p d = false) : Kept p l (dk.set i d) (j + 1) (i + 1) := by
  have hj := (List.getElem?_eq_some_iff.1 hd).1
  have hlt := h.lt
  have hl := h.len
  refine ⟨by rw [List.length_set]; exact hl, by omega, by omega, ?_, ?_⟩
  · rw [take_snoc hd, List.filter_append, ← h.low, take_snoc (l := dk.set i d) (j := i) (d := d) (by rw [List.getElem?_set]; simp; omega), List.take_set_of_le (Nat.le_refl _)]
    simp [hp]
  · rw [List.drop_set_of_lt (by omega)]
    have := congrArg (List.drop 1) h.high
    simpa using this
theorem Kept.done {D : Type} {p : D → Bool} {l dk : List D} {i : Nat} (h : Kept p l dk l.length i) : dk.take i = l.filter (fun x => !p x) ∧ (l.filter (fun x => !p x)).length = i := by
  have e := h.low
  rw [List.take_length] at e
  refine ⟨e, ?_⟩
  rw [← e, List.length_take]
  have := h.lt; have := h.len; omega
theorem idxI_cases {D : Type} (p : D → Bool) (l : List D) : (idxI p l = -1 ∧ l.filter (fun x => !p x) = l) ∨ ∃ (k : Nat) (d : D), idxI p l = k ∧ l[k]? = some d ∧ Kept p l l (k + 1) k := by
  unfold idxI
  cases h : l.findIdx? p with
  | none =>
    left
    refine ⟨rfl, filter_all fun j x _ hx => ?_⟩
    have := List.findIdx?_eq_none_iff.1 h x (List.mem_of_getElem? hx)
    simpa using this
  | some k =>
    right
    rw [List.findIdx?_eq_some_iff_getElem] at h
    obtain ⟨hk, hp, hm⟩ := h
    refine ⟨k, l[k], rfl, List.getElem?_eq_getElem hk, Kept.start (List.getElem?_eq_getElem hk) hp fun j x hj hx => ?_⟩
    obtain ⟨hjl, rfl⟩ := List.getElem?_eq_some_iff.1 hx
    simpa using hm j hj

/-! ### The model: clear -/
theorem grownBy_setRow {w : World} {g : Nat} {xs : Array Value} : w.grownBy (w.setRow g xs) (some g) :=
  ⟨rfl, rfl, rfl, by simp, fun k _ hk => setRow_other w g k _ (fun e => hk (by rw [e]))⟩
theorem grownBy_setCell_q (W : World) (p : Addr) (v : Value) : W.grownBy (W.setCell p v) (some p.block) :=
  ⟨rfl, rfl, rfl, by simp [World.setCell], fun k _ hk => Below.heap_setCell _ _ _ _ (fun e => hk (by rw [e]))⟩
theorem grownBy_below {w w' : World} (h : Below w.heap.size w w') (row : Option Nat) : w.grownBy w' row := ⟨h.os, h.tape, h.output, h.size, fun k hk _ => h.block k hk⟩
section
variable {P : Program}
theorem run_clear_q (w : World) (t ty e te : TypeId) (i0 : TypeInfo) (z : Value) (size : Nat) (ht : P.underlying t = some (.slice e)) (hi : P.info? e = some i0) (hz : i0.zero = some z) (hzs : z.cells.size = size) (h1 : ∀ u ∈ z.cells, u.oneCell' = true)
    (g o n c : Nat) (cur : Array Value) (hg : w.heap[g]? = some (.cells cur te (0, 0))) (hn : 0 < n) (hs : 0 < size) (hfit : o + n * size ≤ cur.size) :
    (Builtin.clear_ #[t] ty #[.slice (some ⟨g, o, none⟩) n c]).run P w = .ok (.tuple #[]) (w.setRow g (lay cur.toList o (Builtin.zeroCells z.cells n).toList).toArray) := by
  have hzl : (Builtin.zeroCells z.cells n).toList.length = n * size := by rw [Array.length_toList, size_zeroCells, hzs]
  have hone : ∀ u ∈ (Builtin.zeroCells z.cells n).toList, u.oneCell' = true := by
    intro u hu
    simp only [Builtin.zeroCells, Array.toList_map, List.mem_map] at hu
    obtain ⟨k, _, rfl⟩ := hu
    have hlt : k % z.cells.size < z.cells.size := Nat.mod_lt _ (by omega)
    rw [getElem!_pos z.cells _ hlt]
    exact h1 _ (Array.getElem_mem hlt)
  have hst := run_storeCells_at P g o te (Builtin.zeroCells z.cells n).toList 0 cur w hg (by rw [hzl]; omega) hone
  obtain ⟨m, rfl⟩ : ∃ m, n = m + 1 := ⟨n - 1, by omega⟩
  unfold lay
  simp [Builtin.clear_, run_underlying ht, zeroValue, typeInfo, hi, hz, hst]
theorem Own.clear {w : World} {B : Nat} {e : TypeId} {g o n c i : Nat} {xs : List Value} (t : TypeId) (i0 : TypeInfo) (z : Value) (size : Nat) (ht : P.underlying t = some (.slice e)) (hi : P.info? e = some i0) (hz : i0.zero = some z) (hzs : z.cells.size = size) (h1' : z.cells.all (fun u => u.oneCell') = true) (hs : 0 < size)
    (h : Own w B e size (.slice (some ⟨g, o, none⟩) n c) n xs) (hin : i < n) :
    ∃ w', (∀ ty c', (Builtin.clear_ #[t] ty #[.slice (some ⟨g, o + i * size, none⟩) (n - i) c']).run P w = .ok (.tuple #[]) w') ∧ Own w' B e size (.slice (some ⟨g, o, none⟩) i c) i (xs.take (i * size)) ∧ w.grownBy w' (some g) := by
  have h1 : ∀ u ∈ z.cells, u.oneCell' = true := fun u hu => Array.all_eq_true_iff_forall_mem.1 h1' u hu
  rcases h.2 with ⟨h0, _⟩ | ⟨g', o', cap, cur, hv, hb, hg, h2, h3, h4, h5⟩
  · cases h0
  · injection hv with e1 _ e3
    injection e1 with e1
    injection e1 with e1 e2
    subst e1; subst e2; subst e3
    have hni : (n - i) * size + i * size = n * size := by rw [← Nat.add_mul]; congr 1; omega
    have hnc : n * size ≤ c * size := Nat.mul_le_mul_right _ h2
    have hic : i * size ≤ n * size := Nat.mul_le_mul_right _ (by omega)
    have hzl : (Builtin.zeroCells z.cells (n - i)).toList.length = (n - i) * size := by rw [Array.length_toList, size_zeroCells, hzs]
    refine ⟨_, fun ty c' => run_clear_q w t ty e e i0 z size ht hi hz hzs h1 g (o + i * size) (n - i) c' cur hg (by omega) hs (by omega), ⟨by rw [List.length_take, h.1]; omega, .inr ⟨g, o, c, _, rfl, hb, setRow_heap w g cur _ e _ hg, by omega, h3, ?_, ?_⟩⟩, grownBy_setRow⟩
    · rw [List.size_toArray, lay_length (by rw [hzl, Array.length_toList]; omega), Array.length_toList]; omega
    · show ((lay cur.toList (o + i * size) _).drop o).take (i * size) = _
      unfold lay
      rw [List.append_assoc, List.drop_append_of_le_length (by rw [List.length_take, Array.length_toList]; omega), List.take_append_of_le_length (by rw [List.length_drop, List.length_take, Array.length_toList]; omega), ← h5, List.take_take, Nat.min_eq_left hic, List.drop_take, List.take_take]
      congr 1
      omega
theorem wpList_clear_q (w : World) {ops : Array Oper} {rest : List Oper} {o : Oper} {a : Act} {Q : Exit → Act → World → Prop} (hgd : o.guard = none) (s : Operand) (t : TypeId)
    (ho : o.op = .call { callee := .builtin .clear, args := #[s], argTypes := #[t] }) (v : Value) (hs : a.eval s = v) {v' : Value} {w' : World}
    (hr : (Builtin.clear_ #[t] o.type #[v]).run P w = .ok v' w') (h : wpList P ops Q rest (a.put o.dst v') w') : wpList P ops Q (o :: rest) a w := by
  refine wpList_plain hgd fun _ hK => ?_
  unfold Oper.wp execOp
  simp only [ho, resolve, invoke, builtin, Sem.run_bind, Sem.run_pure, Result.andThen_ok, List.map_toArray, List.map_cons, List.map_nil, hs, hr]
  exact hK _ _ h
end
/-- The first k of it. -/
theorem Own.first {w : World} {B : Nat} {e : TypeId} {sz g o n c : Nat} {xs : List Value} (h : Own w B e sz (.slice (some ⟨g, o, none⟩) n c) n xs) {k : Nat} (hk : k ≤ n) : Own w B e sz (.slice (some ⟨g, o, none⟩) k c) k (xs.take (k * sz)) := by
  rcases h.2 with ⟨h0, _⟩ | ⟨g', o', cap, cur, hv, hb, hg, h2, h3, h4, h5⟩
  · cases h0
  · injection hv with e1 _ e3
    injection e1 with e1
    injection e1 with e1 e2
    subst e1; subst e2; subst e3
    have hic : k * sz ≤ n * sz := Nat.mul_le_mul_right _ hk
    refine ⟨by rw [List.length_take, h.1]; omega, .inr ⟨g, o, c, cur, rfl, hb, hg, by omega, h3, h4, ?_⟩⟩
    rw [← h5, List.take_take, Nat.min_eq_left hic]
/-- A predicate that answers p in whatever world agrees but for one block. -/
def PredG {D : Type} (P : Program) (g : Nat) (caps : Array Value) (V : D → Value → Prop) (p : D → Bool) (row : Option Nat) (w : World) : Prop :=
  ∀ x u wx, w.grownBy wx row → V x u → Calls P g (#[u] ++ caps) wx (fun e w' => e = .returned (.bool (p x)) ∧ Below wx.heap.size wx w')
end Go.Proofs.YtngbbefpphinjaaGreatDoor

/- Plain: a graph of which the nodes are gone one by one. -/
namespace Go.Proofs.YtngbbefpphinjaaGreatDoor

theorem chain_lt2 {l : List Nod} (hc : chain nodLt l = true) : ∀ {i j : Nat} {a b : Nod}, i < j → l[i]? = some a → l[j]? = some b → a.id < b.id := by
  intro i j
  induction j with
  | zero => intro a b h; omega
  | succ j ih =>
    intro a b h ha hb
    have hj : j < l.length := by have := (List.getElem?_eq_some_iff.1 hb).1; omega
    have h1 := chain_iff.1 hc j l[j] b (List.getElem?_eq_getElem hj) hb
    simp only [nodLt, decide_eq_true_eq] at h1
    rcases Nat.lt_or_ge i j with h2 | h2
    · have := ih (b := l[j]) h2 ha (List.getElem?_eq_getElem hj); omega
    · obtain rfl : i = j := by omega
      have := ha.symm.trans (List.getElem?_eq_getElem hj)
      cases this
      exact h1
theorem fhas_any {l : List Nod} (hc : chain nodLt l = true) (id : Int) : fhas l id = l.any fun n => n.id == id := by
  cases hq : fhas l id with
  | true =>
    obtain ⟨n, hn⟩ := fhas_some' hq
    have h0 : nodC id n = 0 := by
      unfold fhas eqAt at hq
      rw [hn] at hq
      simpa using hq
    have := (cmpI_zero (a := n.id) (b := id)).1 h0
    exact (List.any_eq_true.2 ⟨n, List.mem_of_getElem? hn, by simp [this]⟩).symm
  | false =>
    symm
    rw [List.any_eq_false]
    intro n hn
    obtain ⟨i, hi⟩ := List.mem_iff_getElem?.1 hn
    simp only [beq_iff_eq]
    intro he
    have h0 : nodC id n = 0 := cmpI_zero.2 he
    rcases Nat.lt_trichotomy i (fpos l id) with h | h | h
    · have := low_lt (c := nodC id) h hi; omega
    · subst h
      unfold fhas eqAt at hq
      rw [hi] at hq
      simp [h0] at hq
    · have hlt : fpos l id < l.length := by have := (List.getElem?_eq_some_iff.1 hi).1; omega
      obtain ⟨m, hm⟩ : ∃ m, l[fpos l id]? = some m := ⟨_, List.getElem?_eq_getElem hlt⟩
      have h1 := low_ge (c := nodC id) hc (nodC_mono id) (Nat.le_refl _) hm
      have h2 : ¬ nodC id m = 0 := by
        unfold fhas eqAt at hq
        rw [hm] at hq
        simpa using hq
      have h3 := chain_lt2 hc h hm hi
      unfold nodC at h0 h1 h2
      have a1 := (cmpI_zero (a := n.id) (b := id)).1 h0
      have a2 := @cmpI_neg m.id id
      have a3 := @cmpI_zero m.id id
      have a4 : ¬ m.id < id := fun h => by have := a2.2 h; omega
      have a5 : ¬ m.id = id := fun h => h2 (a3.2 h)
      omega
end Go.Proofs.YtngbbefpphinjaaGreatDoor
