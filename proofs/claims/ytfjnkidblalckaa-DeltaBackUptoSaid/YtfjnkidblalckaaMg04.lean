/- Parts: Same, ValB, RecA, RecB, GrA. -/
import Derived.Test.YtfjnkidblalckaaMg03
import Derived.Test.YtfjnkidblalckaaMg02
import Derived.Lib.Bytealg
import Derived.StillTailTactics
import Derived.Sort.Walk0
/- Plain: blocks of one element type stay as they are where only blocks of other types are written. No condition. -/
namespace Go.Proofs.Ytfjnkidblalckaa
open Go Go.RowKit

/-- All blocks of cells of type T are as they were. -/
def Same (T : TypeId) (w w' : World) : Prop := ∀ (k : Nat) c fr, w.heap[k]? = some (.cells c T fr) → w'.heap[k]? = some (.cells c T fr)
theorem Same.refl (T : TypeId) (w : World) : Same T w w := fun _ _ _ h => h
theorem Same.trans {T : TypeId} {a b c : World} (h : Same T a b) (k : Same T b c) : Same T a c := fun i x fr hx => k i x fr (h i x fr hx)
theorem Same.below {T : TypeId} {w w' : World} (hb : Below w.heap.size w w') : Same T w w' := fun k _ _ h => (hb.block k (Array.getElem?_eq_some_iff.1 h).1).trans h
theorem Same.alloc {T : TypeId} (w : World) (o : Obj) : Same T w (w.alloc o) := .below ((Below.refl _ _).alloc (Nat.le_refl _) _)
theorem Same.drewN {T : TypeId} (w : World) (n : Nat) : Same T w (w.drewN n) := fun _ _ _ h => h
theorem Same.drew {T : TypeId} (w : World) : Same T w w.drew := fun _ _ _ h => h
theorem Same.grown {T e : TypeId} {w w' : World} {B sz n : Nat} {v : Value} {xs : List Value} (ho : Own w B e sz v n xs) (hne : e ≠ T) (hg : w.grownBy w' v.ownBlock) : Same T w w' := fun k c fr h => by
  have hlt := (Array.getElem?_eq_some_iff.1 h).1
  refine (hg.block k hlt fun e' => ?_).trans h
  rcases ho.2 with ⟨rfl, _⟩ | ⟨g, o, cap, cur, rfl, _, hg2, _⟩
  · simp [Value.ownBlock] at e'
  · simp [Value.ownBlock] at e'
    subst e'
    rw [h] at hg2
    injection hg2 with hg2
    injection hg2 with _ h2 _
    exact hne h2.symm
theorem Same.setCell {T e : TypeId} {w : World} {p : Addr} {c : Array Value} {fr : Nat × Nat} (hp : w.heap[p.block]? = some (.cells c e fr)) (hne : e ≠ T) (u : Value) : Same T w (w.setCell p u) := fun k c' fr' h => by
  refine (Below.heap_setCell w p u k (fun e' => ?_)).trans h
  subst e'
  rw [h] at hp
  injection hp with hp
  injection hp with _ h2 _
  exact hne h2.symm
theorem Own.same {w w' : World} {B : Nat} {e : TypeId} {sz : Nat} {v : Value} {n : Nat} {xs : List Value} (h : Own w B e sz v n xs) (hs : Same e w w') : Own w' B e sz v n xs := by
  refine ⟨h.1, ?_⟩
  rcases h.2 with hn | ⟨g, o, cap, cur, rfl, hb, hg, rest⟩
  · exact .inl hn
  · exact .inr ⟨g, o, cap, cur, rfl, hb, hs g cur _ hg, rest⟩

/-- Nodes of which each one's record is the call's own. -/
def OwnNods (w : World) (B : Nat) : List Nod → List Value → Prop
  | [], xs => xs = []
  | d :: l, xs => ∃ u ys, xs = [.int .i64 d.id, .string d.kind, u] ++ ys ∧ I64 d.id ∧ Sm d.kind ∧ (∀ p ∈ d.props, p.ok) ∧ Own w B 38 4 u d.props.length (d.props.flatMap Prp.enc) ∧ OwnNods w B l ys
theorem OwnNods.same {w w' : World} {B : Nat} (hs : Same 38 w w') : ∀ {l : List Nod} {xs : List Value}, OwnNods w B l xs → OwnNods w' B l xs
  | [], _, h => h
  | _ :: _, _, h => by
    obtain ⟨u, ys, rfl, h1, h2, h3, h4, h5⟩ := h
    exact ⟨u, ys, rfl, h1, h2, h3, h4.same hs, h5.same hs⟩
theorem OwnNods.snoc {w : World} {B : Nat} {d : Nod} {u : Value} (h1 : I64 d.id) (h2 : Sm d.kind) (h3 : ∀ p ∈ d.props, p.ok) (h4 : Own w B 38 4 u d.props.length (d.props.flatMap Prp.enc)) :
    ∀ {l : List Nod} {xs : List Value}, OwnNods w B l xs → OwnNods w B (l ++ [d]) (xs ++ [.int .i64 d.id, .string d.kind, u])
  | [], xs, h => by rw [show xs = [] from h]; exact ⟨u, [], by simp, h1, h2, h3, h4, rfl⟩
  | e :: l, xs, h => by
    obtain ⟨v, ys, rfl, k1, k2, k3, k4, k5⟩ := h
    exact ⟨v, ys ++ [.int .i64 d.id, .string d.kind, u], by simp, k1, k2, k3, k4, k5.snoc h1 h2 h3 h4⟩
theorem OwnNods.row {w : World} {B : Nat} : ∀ {l : List Nod} {xs : List Value}, OwnNods w B l xs → Row nodL w l xs
  | [], _, h => h
  | _ :: _, _, h => by
    obtain ⟨u, ys, rfl, h1, h2, h3, h4, h5⟩ := h
    exact ⟨_, ys, rfl, ⟨u, rfl, h1, h2, h4.prps h3⟩, h5.row⟩
theorem Own.nods {w : World} {B B' : Nat} {e : TypeId} {v : Value} {l : List Nod} {xs : List Value} (h : Own w B e 3 v l.length xs) (hn : OwnNods w B' l xs) : Sl nodL w v l := Own.row (L := nodL) h hn.row
theorem own_of_block {w : World} {b B : Nat} {e : TypeId} {sz n : Nat} {cs : List Value} (h : w.heap[b]? = some (.cells cs.toArray e (0, 0))) (hB : B ≤ b) (hl : cs.length = n * sz) (hm : n ≤ maxLen) : Own w B e sz (.slice (some ⟨b, 0, none⟩) n n) n cs :=
  ⟨hl, .inr ⟨b, 0, n, cs.toArray, rfl, hB, h, Nat.le_refl _, hm, by simp [hl], by rw [List.drop_zero, ← hl]; exact List.take_length⟩⟩
theorem Own.ne_block {w : World} {B : Nat} {e e' : TypeId} {sz n k : Nat} {v : Value} {xs : List Value} {c : Array Value} {fr : Nat × Nat} (ho : Own w B e sz v n xs) (h : w.heap[k]? = some (.cells c e' fr)) (hne : e' ≠ e) : some k ≠ v.ownBlock := by
  intro e1
  rcases ho.2 with ⟨rfl, _⟩ | ⟨g, o, cap, cur, rfl, _, hg2, _⟩
  · simp [Value.ownBlock] at e1
  · simp [Value.ownBlock] at e1
    subst e1
    rw [h] at hg2
    injection hg2 with hg2
    injection hg2 with _ h2 _
    exact hne h2
theorem grown_block {w w' : World} {k : Nat} {row : Option Nat} {o : Obj} (hg : w.grownBy w' row) (h : w.heap[k]? = some o) (hne : some k ≠ row) : w'.heap[k]? = some o :=
  (hg.block k (Array.getElem?_eq_some_iff.1 h).1 hne).trans h
theorem block_cell {w : World} {k : Nat} {c : Array Value} {T : TypeId} {fr : Nat × Nat} (h : w.heap[k]? = some (.cells c T fr)) (i : Nat) : w.cell? ⟨k, i, none⟩ = c[i]? := by
  simp [World.cell?, h]
theorem block_free {w : World} {k : Nat} {c : Array Value} {T : TypeId} (h : w.heap[k]? = some (.cells c T (0, 0))) (i : Nat) : w.frozen? ⟨k, i, none⟩ = false := by
  simp [World.frozen?, h]
theorem setCell_block {w : World} {k : Nat} {c : Array Value} {T : TypeId} {fr : Nat × Nat} (h : w.heap[k]? = some (.cells c T fr)) (i : Nat) (u : Value) : (w.setCell ⟨k, i, none⟩ u).heap[k]? = some (.cells (c.setIfInBounds i u) T fr) := by
  simp [World.setCell, Array.getElem?_modify, h]
end Go.Proofs.Ytfjnkidblalckaa

/- Contracts: what value.Check, record.prop and record.Check of the program answer, for every input that is not too long. -/
namespace Go.Proofs.Ytfjnkidblalckaa
open Go.RowKit

def strC (c : UInt8) : Bool := decide ((c.toNat : Int) < 32) || decide (126 < (c.toNat : Int))
theorem check1 (c : UInt8) (w : World) :
    Calls Try.prog 73 #[.int .u8 c.toNat] w fun e w' => e = .returned (.bool (strC c)) ∧ w = w' := by
  unfold strC
  go_enter Try.func73, Try.ntmps73
  go_wp2
  all_goals go_ret
  all_goals exact ⟨rfl, rfl⟩

/-- The least and the greatest number of a type. -/
def valLo (ty : Int) : Int := if ty = 1 then -1000000 else 0
def valHi (ty : Int) : Int := if ty = 1 then 1000000 else if ty = 2 then 1 else 0
/-- The fault of a value. -/
def valE (v : Val) : Int :=
  if v.ty = 1 ∨ v.ty = 2 ∨ v.ty = 3 then
    if v.n < valLo v.ty ∨ valHi v.ty < v.n then 1
    else if v.ty = 3 ∧ 20 < v.s.size then 4
    else if v.s.data.toList.any strC = true ∨ (v.ty ≠ 3 ∧ v.s.toList.isEmpty = false) then 2
    else 0
  else 8

/-- The call inside Check: strange bytes. -/
theorem strange_any (ty n : Int) (s : ByteArray) (w W0 : World) (hW : W0 = w.alloc (.cells #[.int .i64 ty, .int .i64 n, .string s] 36)) (hs : Sm s) :
    Calls Try.prog 54 #[.slice (some ⟨w.heap.size + 1, 0, none⟩) s.size (grownCap W0 s.size 0 5), .func (.func 73) #[] #[]] (Lib.bytesWorld W0 5 s)
      fun e w' => e = .returned (.bool (s.data.toList.any strC)) ∧ Below w.heap.size w w' ∧ w'.cell? ⟨w.heap.size, 0, none⟩ = some (.int .i64 ty) ∧ w'.cell? ⟨w.heap.size, 1, none⟩ = some (.int .i64 n) ∧
        w'.cell? ⟨w.heap.size, 2, none⟩ = some (.string s) := by
  obtain ⟨hsl, hb⟩ := bytes_sl W0 s hs
  have hsz : W0.heap.size = w.heap.size + 1 := by subst hW; simp
  rw [hsz] at hsl
  refine (has_byte 73 #[] (by intro args w; kernel_rfl) strC s.data.toList _ _ hsl (fun x u wx _ hu => by subst hu; exact (check1 x wx).mono fun e w' ⟨h1, h2⟩ => ⟨h1, h2 ▸ Below.refl _ _⟩)).mono ?_
  rintro e w' ⟨he, hb2⟩
  have hb3 : Below W0.heap.size W0 w' := hb.trans (hb2.mono hb.size)
  refine ⟨he, ?_, cell_below hb3 ?_, cell_below hb3 ?_, cell_below hb3 ?_⟩
  · refine Below.trans (b := W0) (by subst hW; exact (Below.refl _ _).alloc (Nat.le_refl _) _) (hb3.mono (by subst hW; simp))
  all_goals subst hW; rw [World.cell?_alloc_at _ _ _ _ rfl]; rfl

section
variable (ty n : Int) (s : ByteArray) (w : World)
theorem check_bad (h : ¬ (ty = 1 ∨ ty = 2 ∨ ty = 3)) :
    Calls Try.prog 65 #[.agg #[.int .i64 ty, .int .i64 n, .string s]] w fun e w' => e = .returned (errV (valE ⟨ty, n, s⟩)) ∧ Below w.heap.size w w' := by
  have HE : Hid (errV (valE ⟨ty, n, s⟩) = .iface 58 (.int .i64 8)) := by unfold valE; rw [if_neg h]; rfl
  have h1 : (ty == 1) = false := by simp; omega
  have h2 : (ty == 2) = false := by simp; omega
  have h3 : (ty == 3) = false := by simp; omega
  clear h
  go_enter Try.func65, Try.ntmps65
  go_wp2_with fail
  go_ret
  exact ⟨by rw [HE.out]; rfl, (Below.refl _ _).alloc (Nat.le_refl _) _⟩
set_option maxHeartbeats 1000000 in
theorem check_int (hs : Sm s) :
    Calls Try.prog 65 #[.agg #[.int .i64 1, .int .i64 n, .string s]] w fun e w' => e = .returned (errV (valE ⟨1, n, s⟩)) ∧ Below w.heap.size w w' := by
  have hcv := fun wx => Lib.run_convert_string_bytes (P := Try.prog) wx 9 101 5 s Try.underlying9 Try.underlying101 Try.underlying5
  have hcall := strange_any 1 n s w _ rfl hs
  have hs' : s.size ≤ 1048576 := hs
  clear hs
  have HF : Hid (valE ⟨1, n, s⟩ = if n < -1000000 ∨ 1000000 < n then 1 else if s.data.toList.any strC = true ∨ s.toList.isEmpty = false then 2 else 0) := by
    unfold valE valLo valHi Hid; simp
  generalize s.data.toList.any strC = B at hcall HF
  by_cases h1 : n < -1000000
  · have HE : Hid (errV (valE ⟨1, n, s⟩) = .iface 58 (.int .i64 1)) := by rw [HF.out]; rw [if_pos (Or.inl h1)]; rfl
    clear HF
    go_enter Try.func65, Try.ntmps65
    go_wp2_with (go_at_call 54; refine hcall.mono ?_; rintro e w' ⟨rfl, hb, c0, c1, c2⟩)
    go_ret
    exact ⟨by rw [HE.out]; rfl, hb⟩
  · by_cases h2 : 1000000 < n
    · have HE : Hid (errV (valE ⟨1, n, s⟩) = .iface 58 (.int .i64 1)) := by rw [HF.out]; rw [if_pos (Or.inr h2)]; rfl
      clear HF
      go_enter Try.func65, Try.ntmps65
      go_wp2_with (go_at_call 54; refine hcall.mono ?_; rintro e w' ⟨rfl, hb, c0, c1, c2⟩)
      go_ret
      exact ⟨by rw [HE.out]; rfl, hb⟩
    · have h1' : -1000000 ≤ n := by omega
      have h2' : n ≤ 1000000 := by omega
      have h1b : decide (n < -1000000) = false := by simp; omega
      have h2b : decide (1000000 < n) = false := by simp; omega
      cases B with
      | true =>
        have HE : Hid (errV (valE ⟨1, n, s⟩) = .iface 58 (.int .i64 2)) := by rw [HF.out]; rw [if_neg (by omega), if_pos (Or.inl rfl)]; rfl
        clear HF
        go_enter Try.func65, Try.ntmps65
        go_wp2_with (go_at_call 54; refine hcall.mono ?_; rintro e w' ⟨rfl, hb, c0, c1, c2⟩)
        go_ret
        exact ⟨by rw [HE.out]; rfl, hb⟩
      | false =>
        cases h0 : s.toList.isEmpty with
        | true =>
          have HE : Hid (errV (valE ⟨1, n, s⟩) = .nilIface) := by rw [HF.out]; rw [h0, if_neg (by omega), if_neg (by simp)]; rfl
          clear HF
          go_enter Try.func65, Try.ntmps65
          go_wp2_with (go_at_call 54; refine hcall.mono ?_; rintro e w' ⟨rfl, hb, c0, c1, c2⟩)
          go_ret
          exact ⟨by rw [HE.out]; rfl, hb⟩
        | false =>
          have HE : Hid (errV (valE ⟨1, n, s⟩) = .iface 58 (.int .i64 2)) := by rw [HF.out]; rw [h0, if_neg (by omega), if_pos (by simp)]; rfl
          clear HF
          go_enter Try.func65, Try.ntmps65
          go_wp2_with (go_at_call 54; refine hcall.mono ?_; rintro e w' ⟨rfl, hb, c0, c1, c2⟩)
          go_ret
          exact ⟨by rw [HE.out]; rfl, hb⟩
set_option maxHeartbeats 1000000 in
theorem check_bool (hs : Sm s) :
    Calls Try.prog 65 #[.agg #[.int .i64 2, .int .i64 n, .string s]] w fun e w' => e = .returned (errV (valE ⟨2, n, s⟩)) ∧ Below w.heap.size w w' := by
  have hcv := fun wx => Lib.run_convert_string_bytes (P := Try.prog) wx 9 101 5 s Try.underlying9 Try.underlying101 Try.underlying5
  have hcall := strange_any 2 n s w _ rfl hs
  have hs' : s.size ≤ 1048576 := hs
  clear hs
  have HF : Hid (valE ⟨2, n, s⟩ = if n < 0 ∨ 1 < n then 1 else if s.data.toList.any strC = true ∨ s.toList.isEmpty = false then 2 else 0) := by
    unfold valE valLo valHi Hid; simp
  generalize s.data.toList.any strC = B at hcall HF
  by_cases h1 : n < 0
  · have HE : Hid (errV (valE ⟨2, n, s⟩) = .iface 58 (.int .i64 1)) := by rw [HF.out]; rw [if_pos (Or.inl h1)]; rfl
    clear HF
    go_enter Try.func65, Try.ntmps65
    go_wp2_with (go_at_call 54; refine hcall.mono ?_; rintro e w' ⟨rfl, hb, c0, c1, c2⟩)
    go_ret
    exact ⟨by rw [HE.out]; rfl, hb⟩
  · by_cases h2 : 1 < n
    · have HE : Hid (errV (valE ⟨2, n, s⟩) = .iface 58 (.int .i64 1)) := by rw [HF.out]; rw [if_pos (Or.inr h2)]; rfl
      clear HF
      go_enter Try.func65, Try.ntmps65
      go_wp2_with (go_at_call 54; refine hcall.mono ?_; rintro e w' ⟨rfl, hb, c0, c1, c2⟩)
      go_ret
      exact ⟨by rw [HE.out]; rfl, hb⟩
    · have h1' : 0 ≤ n := by omega
      have h2' : n ≤ 1 := by omega
      have h1b : decide (n < 0) = false := by simp; omega
      have h2b : decide (1 < n) = false := by simp; omega
      cases B with
      | true =>
        have HE : Hid (errV (valE ⟨2, n, s⟩) = .iface 58 (.int .i64 2)) := by rw [HF.out]; rw [if_neg (by omega), if_pos (Or.inl rfl)]; rfl
        clear HF
        go_enter Try.func65, Try.ntmps65
        go_wp2_with (go_at_call 54; refine hcall.mono ?_; rintro e w' ⟨rfl, hb, c0, c1, c2⟩)
        go_ret
        exact ⟨by rw [HE.out]; rfl, hb⟩
      | false =>
        cases h0 : s.toList.isEmpty with
        | true =>
          have HE : Hid (errV (valE ⟨2, n, s⟩) = .nilIface) := by rw [HF.out]; rw [h0, if_neg (by omega), if_neg (by simp)]; rfl
          clear HF
          go_enter Try.func65, Try.ntmps65
          go_wp2_with (go_at_call 54; refine hcall.mono ?_; rintro e w' ⟨rfl, hb, c0, c1, c2⟩)
          go_ret
          exact ⟨by rw [HE.out]; rfl, hb⟩
        | false =>
          have HE : Hid (errV (valE ⟨2, n, s⟩) = .iface 58 (.int .i64 2)) := by rw [HF.out]; rw [h0, if_neg (by omega), if_pos (by simp)]; rfl
          clear HF
          go_enter Try.func65, Try.ntmps65
          go_wp2_with (go_at_call 54; refine hcall.mono ?_; rintro e w' ⟨rfl, hb, c0, c1, c2⟩)
          go_ret
          exact ⟨by rw [HE.out]; rfl, hb⟩
set_option maxHeartbeats 1000000 in
theorem check_text (hs : Sm s) :
    Calls Try.prog 65 #[.agg #[.int .i64 3, .int .i64 n, .string s]] w fun e w' => e = .returned (errV (valE ⟨3, n, s⟩)) ∧ Below w.heap.size w w' := by
  have hcv := fun wx => Lib.run_convert_string_bytes (P := Try.prog) wx 9 101 5 s Try.underlying9 Try.underlying101 Try.underlying5
  have hcall := strange_any 3 n s w _ rfl hs
  have hs' : s.size ≤ 1048576 := hs
  clear hs
  have HF : Hid (valE ⟨3, n, s⟩ = if n < 0 ∨ 0 < n then 1 else if 20 < s.size then 4 else if s.data.toList.any strC = true then 2 else 0) := by
    unfold valE valLo valHi Hid; simp
  generalize s.data.toList.any strC = B at hcall HF
  by_cases h1 : n < 0
  · have HE : Hid (errV (valE ⟨3, n, s⟩) = .iface 58 (.int .i64 1)) := by rw [HF.out]; rw [if_pos (Or.inl h1)]; rfl
    clear HF
    go_enter Try.func65, Try.ntmps65
    go_wp2_with (go_at_call 54; refine hcall.mono ?_; rintro e w' ⟨rfl, hb, c0, c1, c2⟩)
    go_ret
    exact ⟨by rw [HE.out]; rfl, hb⟩
  · by_cases h2 : 0 < n
    · have HE : Hid (errV (valE ⟨3, n, s⟩) = .iface 58 (.int .i64 1)) := by rw [HF.out]; rw [if_pos (Or.inr h2)]; rfl
      clear HF
      go_enter Try.func65, Try.ntmps65
      go_wp2_with (go_at_call 54; refine hcall.mono ?_; rintro e w' ⟨rfl, hb, c0, c1, c2⟩)
      go_ret
      exact ⟨by rw [HE.out]; rfl, hb⟩
    · have h1' : 0 ≤ n := by omega
      have h2' : n ≤ 0 := by omega
      have h1b : decide (n < 0) = false := by simp; omega
      have h2b : decide (0 < n) = false := by simp; omega
      by_cases h3 : 20 < s.size
      · have h3' : (20 : Int) < (s.size : Int) := by omega
        have HE : Hid (errV (valE ⟨3, n, s⟩) = .iface 58 (.int .i64 4)) := by rw [HF.out]; rw [if_neg (by omega), if_pos h3]; rfl
        clear HF
        go_enter Try.func65, Try.ntmps65
        go_wp2_with (go_at_call 54; refine hcall.mono ?_; rintro e w' ⟨rfl, hb, c0, c1, c2⟩)
        go_ret
        exact ⟨by rw [HE.out]; rfl, hb⟩
      · have h3' : decide ((20 : Int) < (s.size : Int)) = false := by simp; omega
        have h3'' : (s.size : Int) ≤ 20 := by omega
        cases B with
        | true =>
          have HE : Hid (errV (valE ⟨3, n, s⟩) = .iface 58 (.int .i64 2)) := by rw [HF.out]; rw [if_neg (by omega), if_neg h3]; rfl
          clear HF
          go_enter Try.func65, Try.ntmps65
          go_wp2_with (go_at_call 54; refine hcall.mono ?_; rintro e w' ⟨rfl, hb, c0, c1, c2⟩)
          go_ret
          exact ⟨by rw [HE.out]; rfl, hb⟩
        | false =>
          have HE : Hid (errV (valE ⟨3, n, s⟩) = .nilIface) := by rw [HF.out]; rw [if_neg (by omega), if_neg h3]; rfl
          clear HF
          go_enter Try.func65, Try.ntmps65
          go_wp2_with (go_at_call 54; refine hcall.mono ?_; rintro e w' ⟨rfl, hb, c0, c1, c2⟩)
          go_ret
          exact ⟨by rw [HE.out]; rfl, hb⟩
end

theorem check_any (v : Val) (hv : v.ok) (w : World) :
    Calls Try.prog 65 #[.agg #[.int .i64 v.ty, .int .i64 v.n, .string v.s]] w fun e w' => e = .returned (errV (valE v)) ∧ Below w.heap.size w w' := by
  obtain ⟨ty, n, s⟩ := v
  obtain ⟨_, _, hs⟩ := hv
  show Calls Try.prog 65 #[.agg #[.int .i64 ty, .int .i64 n, .string s]] w _
  by_cases h1 : ty = 1
  · subst h1; exact check_int n s w hs
  by_cases h2 : ty = 2
  · subst h2; exact check_bool n s w hs
  by_cases h3 : ty = 3
  · subst h3; exact check_text n s w hs
  exact check_bad ty n s w (by rintro (h | h | h) <;> contradiction)
end Go.Proofs.Ytfjnkidblalckaa

/- Contracts: what record.prop, record.Check, graph.Id, cmp.Compare, strings.Compare, record.Find and graph.Find of the program answer. -/
namespace Go.Proofs.Ytfjnkidblalckaa
open Go.RowKit

/-- The fault of the first that has one; 0: none has. -/
def firstE {D : Type} (f : D → Int) : List D → Int
  | [] => 0
  | d :: r => if f d = 0 then firstE f r else f d
theorem firstE_hit {D : Type} {f : D → Int} : ∀ {l : List D} {k : Nat} {d : D}, (∀ j x, j < k → l[j]? = some x → f x = 0) → l[k]? = some d → f d ≠ 0 → firstE f l = f d
  | a :: r, 0, d, _, h2, h3 => by
    simp at h2
    subst h2
    simp [firstE, h3]
  | a :: r, k + 1, d, h1, h2, h3 => by
    have h0 : f a = 0 := h1 0 a (by omega) rfl
    simp only [firstE, h0, if_true]
    exact firstE_hit (l := r) (k := k) (fun j x hj hx => h1 (j + 1) x (by omega) (by simpa using hx)) (by simpa using h2) h3
theorem firstE_none {D : Type} {f : D → Int} : ∀ {l : List D}, (∀ j x, j < l.length → l[j]? = some x → f x = 0) → firstE f l = 0
  | [], _ => rfl
  | a :: r, h1 => by
    have h0 : f a = 0 := h1 0 a (by simp) rfl
    simp only [firstE, h0, if_true]
    exact firstE_none (l := r) (fun j x hj hx => h1 (j + 1) x (by simpa using hj) (by simpa using hx))
theorem zero_step {D : Type} {f : D → Int} {l : List D} {k : Nat} {d : D} (h1 : ∀ j x, j < k → l[j]? = some x → f x = 0) (h2 : l[k]? = some d) (h3 : f d = 0) : ∀ j x, j < k + 1 → l[j]? = some x → f x = 0 := by
  intro j x hj hx
  by_cases e : j = k
  · subst e
    have := h2.symm.trans hx
    cases this
    exact h3
  · exact h1 j x (by omega) hx

/-- Each is ahead of the next one. -/
def chain {D : Type} (R : D → D → Bool) : List D → Bool
  | a :: b :: r => R a b && chain R (b :: r)
  | _ => true
theorem chain_iff {D : Type} {R : D → D → Bool} : ∀ {l : List D}, chain R l = true ↔ ∀ i a b, l[i]? = some a → l[i + 1]? = some b → R a b = true
  | [] => by simp [chain]
  | [a] => by simp [chain]
  | a :: b :: r => by
    simp only [chain, Bool.and_eq_true]
    rw [chain_iff (l := b :: r)]
    constructor
    · rintro ⟨h1, h2⟩ i x y hx hy
      match i, hx, hy with
      | 0, hx, hy => simp at hx hy; subst hx; subst hy; exact h1
      | i + 1, hx, hy => exact h2 i x y (by simpa using hx) (by simpa using hy)
    · intro h
      exact ⟨h 0 a b rfl rfl, fun i x y hx hy => h (i + 1) x y (by simpa using hx) (by simpa using hy)⟩
theorem chain_not {D : Type} {R : D → D → Bool} {l : List D} {i : Nat} {a b : D} (h1 : l[i]? = some a) (h2 : l[i + 1]? = some b) (h3 : R a b = false) : chain R l = false := by
  cases h : chain R l with
  | false => rfl
  | true => have := chain_iff.1 h i a b h1 h2; rw [h3] at this; cases this
theorem chain_step {D : Type} {R : D → D → Bool} {l : List D} {k : Nat} {a b : D} (h0 : ∀ i a b, i < k → l[i]? = some a → l[i + 1]? = some b → R a b = true) (h1 : l[k]? = some a) (h2 : l[k + 1]? = some b) (h3 : R a b = true) :
    ∀ i a b, i < k + 1 → l[i]? = some a → l[i + 1]? = some b → R a b = true := by
  intro i x y hi hx hy
  by_cases e : i = k
  · subst e
    have e1 := h1.symm.trans hx
    have e2 := h2.symm.trans hy
    cases e1; cases e2
    exact h3
  · exact h0 i x y (by omega) hx hy
theorem chain_all {D : Type} {R : D → D → Bool} {l : List D} {k : Nat} (hk : l.length ≤ k + 1) (h0 : ∀ i a b, i < k → l[i]? = some a → l[i + 1]? = some b → R a b = true) : chain R l = true :=
  chain_iff.2 fun i a b hx hy => h0 i a b (by have := (List.getElem?_eq_some_iff.1 hy).1; omega) hx hy

/-- Is a text ahead of another one? -/
def ltS (a b : ByteArray) : Bool := Op.bytesLess a.toList b.toList

/-! ### record.prop, record.Check -/
def prpE (p : Prp) : Int := if nameE p.name = 0 then valE p.v else nameE p.name
def recE (r : List Prp) : Int := if 8 < r.length then 4 else if firstE prpE r = 0 then (if chain (fun a b => ltS a.name b.name) r then 0 else 7) else firstE prpE r

set_option maxHeartbeats 400000 in
theorem prop_any (p : Prp) (hp : p.ok) (w : World) :
    Calls Try.prog 48 #[.agg #[.string p.name, .int .i64 p.v.ty, .int .i64 p.v.n, .string p.v.s]] w fun e w' => e = .returned (errV (prpE p)) ∧ Below w.heap.size w w' := by
  obtain ⟨nm, v⟩ := p
  obtain ⟨hn, hv⟩ := hp
  have hn' : Sm nm := hn
  by_cases h : nameE nm = 0
  · have HE : Hid (errV (prpE ⟨nm, v⟩) = errV (valE v)) := by unfold prpE; rw [if_pos h]; rfl
    have hE : errV (nameE nm) = .nilIface := errV_zero h
    clear h
    go_enter Try.func48, Try.ntmps48
    go_wp2_with fail
    refine (name_any nm _ hn').mono ?_
    rintro e w1 ⟨rfl, hb1⟩
    obtain ⟨hc, hf⟩ := bcell hb1
    rw [hE]
    go_wp2_with fail
    refine (check_any v hv _).mono ?_
    rintro e w2 ⟨rfl, hb2⟩
    have hb3 : Below w.heap.size w w2 := ((((Below.refl _ _).alloc (Nat.le_refl _) _).trans (hb1.mono (by simp))).trans (hb2.mono (by have := hb1.size; simp at this; omega)))
    go_wp2_with fail
    go_ret
    exact ⟨by rw [HE.out]; rfl, hb3⟩
  · have HE : Hid (errV (prpE ⟨nm, v⟩) = .iface 58 (.int .i64 (nameE nm))) := by unfold prpE; rw [if_neg h]; exact errV_some h
    have hE : errV (nameE nm) = .iface 58 (.int .i64 (nameE nm)) := errV_some h
    clear h
    go_enter Try.func48, Try.ntmps48
    go_wp2_with fail
    refine (name_any nm _ hn').mono ?_
    rintro e w1 ⟨rfl, hb1⟩
    rw [hE]
    go_wp2_with fail
    go_ret
    exact ⟨by rw [HE.out]; rfl, ((Below.refl _ _).alloc (Nat.le_refl _) _).trans (hb1.mono (by simp))⟩
end Go.Proofs.Ytfjnkidblalckaa

/- Contract: what record.Check of the program answers. -/
namespace Go.Proofs.Ytfjnkidblalckaa
open Go.RowKit

set_option maxHeartbeats 1000000 in
theorem recCheck_any (r : List Prp) (v : Value) (w : World) (hv : Sl prpL w v r) :
    Calls Try.prog 36 #[v] w fun e w' => e = .returned (errV (recE r)) ∧ Below w.heap.size w w' := by
  obtain ⟨A, c, rfl, hlc, hcm⟩ := hv.form
  unfold maxLen at hcm
  have HF : Hid (recE r = if 8 < r.length then 4 else if firstE prpE r = 0 then (if chain (fun a b => ltS a.name b.name) r then 0 else 7) else firstE prpE r) := rfl
  by_cases h8 : 8 < r.length
  · have HE : Hid (errV (recE r) = .iface 58 (.int .i64 4)) := by rw [HF.out, if_pos h8]; rfl
    have h8' : (8 : Int) < (r.length : Int) := by omega
    go_enter Try.func36, Try.ntmps36
    go_wp2_with fail
    go_ret
    exact ⟨by rw [HE.out]; rfl, Below.refl _ _⟩
  have h8' : decide ((8 : Int) < (r.length : Int)) = false := by simp; omega
  have h8'' : (r.length : Int) ≤ 8 := by omega
  go_enter Try.func36, Try.ntmps36
  go_wp2_with fail
  go_loopw [13] (fun i wr => ∃ k : Nat, k ≤ r.length ∧ i = .int .i64 k ∧ Below w.heap.size w wr ∧ Hid (∀ j x, j < k → r[j]? = some x → prpE x = 0)) (fun i _ => r.length - (intOf i).toNat)
  case atStart => exact ⟨0, Nat.zero_le _, rfl, Below.refl _ _, fun j x hj => absurd hj (Nat.not_lt_zero _)⟩
  case round =>
    obtain ⟨k, hk, rfl, hb, HA⟩ := hrel
    by_cases hlt : k < r.length
    · obtain ⟨d, hd⟩ : ∃ d, r[k]? = some d := ⟨_, List.getElem?_eq_getElem hlt⟩
      obtain ⟨b, o, rfl, hok, x0, x1, x2, x3⟩ := prp_at (hv.below hb) hd
      have HD : Hid (r[k]? = some d) := hd
      clear hd hv
      by_cases hz : prpE d = 0
      · have hE : errV (prpE d) = .nilIface := errV_zero hz
        have HZ : Hid (prpE d = 0) := hz
        clear hz
        go_wp2_with fail
        refine (prop_any d hok _).mono ?_
        rintro e w1 ⟨rfl, hb1⟩
        rw [hE]
        have hb2 : Below w.heap.size w w1 := (hb.alloc hb.size _).trans (hb1.mono (by have := hb.size; simp; omega))
        go_wp2_with fail
        go_roundw
        case rel => exact ⟨k + 1, by omega, by go_num, hb2, zero_step HA.out HD.out HZ.out⟩
        case measure => simp [intOf]; omega
      · have hE : errV (prpE d) = .iface 58 (.int .i64 (prpE d)) := errV_some hz
        have HE : Hid (errV (recE r) = .iface 58 (.int .i64 (prpE d))) := by
          have := firstE_hit HA.out HD.out hz
          rw [HF.out, if_neg h8, this, if_neg hz]; exact hE
        clear hz
        go_wp2_with fail
        refine (prop_any d hok _).mono ?_
        rintro e w1 ⟨rfl, hb1⟩
        rw [hE]
        have hb2 : Below w.heap.size w w1 := (hb.alloc hb.size _).trans (hb1.mono (by have := hb.size; simp; omega))
        go_wp2_with fail
        go_ret
        exact ⟨by rw [HE.out]; rfl, hb2⟩
    · have hkl : k = r.length := by omega
      subst hkl
      have HG : Hid (recE r = if chain (fun a b => ltS a.name b.name) r then 0 else 7) := by
        rw [HF.out, if_neg h8, if_pos (firstE_none HA.out)]; rfl
      clear HF HA
      obtain ⟨wo, rfl⟩ : ∃ wo : World, wo = wr := ⟨_, rfl⟩
      go_wp2_with fail
      go_loopw [6] (fun i wr => ∃ k : Nat, (k = 0 ∨ k < r.length) ∧ i = .int .i64 ((k : Int) + 1) ∧ Below w.heap.size w wr ∧ Hid (∀ i a b, i < k → r[i]? = some a → r[i + 1]? = some b → ltS a.name b.name = true)) (fun i _ => r.length + 1 - (intOf i).toNat)
      case atStart => exact ⟨0, Or.inl rfl, rfl, hb, fun j _ _ hj => absurd hj (Nat.not_lt_zero _)⟩
      case round =>
        obtain ⟨k, hk, rfl, hb, HA⟩ := hrel
        by_cases hlt : k + 1 < r.length
        · obtain ⟨d, hd⟩ : ∃ d, r[k]? = some d := ⟨_, List.getElem?_eq_getElem (by omega)⟩
          obtain ⟨d', hd'⟩ : ∃ d, r[k + 1]? = some d := ⟨_, List.getElem?_eq_getElem hlt⟩
          obtain ⟨b, o, rfl, hall⟩ := prp_all (hv.below hb) (by omega)
          obtain ⟨_, x0, _⟩ := hall _ _ hd
          obtain ⟨_, y0, _⟩ := hall _ _ hd'
          clear hall
          have hlt' : (k : Int) + 1 < (r.length : Int) := by omega
          have HD : Hid (r[k]? = some d) := hd
          have HD' : Hid (r[k + 1]? = some d') := hd'
          clear hd hd' hv
          cases hR : ltS d.name d'.name with
          | true =>
            have hR' : Op.bytesLess d.name.toList d'.name.toList = true := hR
            have HR : Hid (ltS d.name d'.name = true) := hR
            clear hR
            go_wp2_with fail
            go_quiet (fail)
            go_wp2_with fail
            go_roundw
            case rel => exact ⟨k + 1, by omega, by go_num, below_drewN hb _, chain_step HA.out HD.out HD'.out HR.out⟩
            case measure => simp [intOf]; omega
          | false =>
            have hR' : Op.bytesLess d.name.toList d'.name.toList = false := hR
            have HE : Hid (errV (recE r) = .iface 58 (.int .i64 7)) := by
              rw [HG.out, chain_not HD.out HD'.out hR]; rfl
            clear hR
            go_wp2_with fail
            go_quiet (fail)
            go_wp2_with fail
            go_ret
            exact ⟨by rw [HE.out]; rfl, below_drewN hb _⟩
        · have hlt' : (r.length : Int) ≤ (k : Int) + 1 := by omega
          have HE : Hid (errV (recE r) = .nilIface) := by
            rw [HG.out, chain_all (by omega) HA.out]; rfl
          clear hv
          go_wp2_with fail
          go_ret
          exact ⟨by rw [HE.out]; rfl, hb⟩
end Go.Proofs.Ytfjnkidblalckaa

/- Contracts: what cmp.Compare, cmp.Or, strings.Compare, graph.Id, graph.OfNode, graph.OfTie and graph.Order answer. -/
namespace Go.Proofs.Ytfjnkidblalckaa
open Go.RowKit

set_option maxHeartbeats 400000 in
theorem id_any (n : Int) (w : World) :
    Calls Try.prog 16 #[.int .i64 n] w fun e w' => e = .returned (.bool (decide (1 ≤ n) && decide (n ≤ 1000))) ∧ w = w' := by
  by_cases h1 : 1 ≤ n
  · go_enter Try.func16, Try.ntmps16
    go_wp2
    go_ret
    exact ⟨by simp [h1], rfl⟩
  · have h1' : decide (1 ≤ n) = false := by simpa using h1
    go_enter Try.func16, Try.ntmps16
    go_wp2
    go_ret
    exact ⟨by simp, rfl⟩
def idB (n : Int) : Bool := decide (1 ≤ n) && decide (n ≤ 1000)
theorem id_b (n : Int) (w : World) : Calls Try.prog 16 #[.int .i64 n] w fun e w' => e = .returned (.bool (idB n)) ∧ w = w' := id_any n w

theorem nan_any (n : Int) (w : World) :
    Calls Try.prog 57 #[.int .i64 n] w fun e w' => e = .returned (.bool false) ∧ w = w' := by
  go_enter Try.func57, Try.ntmps57
  go_wp2
  go_ret
  exact ⟨by simp, rfl⟩
def cmpI (a b : Int) : Int := if a < b then -1 else if b < a then 1 else 0
theorem cmp_any (a b : Int) (w : World) :
    Calls Try.prog 39 #[.int .i64 a, .int .i64 b] w fun e w' => e = .returned (.int .i64 (cmpI a b)) ∧ w = w' := by
  by_cases h1 : a < b
  · have HE : Hid (cmpI a b = -1) := by unfold cmpI; rw [if_pos h1]; rfl
    go_enter Try.func39, Try.ntmps39
    go_wp2_with (go_at_call 57; refine (nan_any _ _).mono ?_; rintro e w' ⟨rfl, rfl⟩)
    go_ret
    exact ⟨by rw [HE.out]; rfl, rfl⟩
  · by_cases h2 : b < a
    · have HE : Hid (cmpI a b = 1) := by unfold cmpI; rw [if_neg h1, if_pos h2]; rfl
      have h1' : b ≤ a := by omega
      go_enter Try.func39, Try.ntmps39
      go_wp2_with (go_at_call 57; refine (nan_any _ _).mono ?_; rintro e w' ⟨rfl, rfl⟩)
      go_ret
      exact ⟨by rw [HE.out]; rfl, rfl⟩
    · have HE : Hid (cmpI a b = 0) := by unfold cmpI; rw [if_neg h1, if_neg h2]; rfl
      have h1' : b ≤ a := by omega
      have h2' : a ≤ b := by omega
      go_enter Try.func39, Try.ntmps39
      go_wp2_with (go_at_call 57; refine (nan_any _ _).mono ?_; rintro e w' ⟨rfl, rfl⟩)
      go_ret
      exact ⟨by rw [HE.out]; rfl, rfl⟩

/-- Texts by bytes: -1, 0, 1. -/
def cmpS (a b : ByteArray) : Int := Lib.compareBytes a.data.toList b.data.toList
set_option maxHeartbeats 1000000 in
set_option maxRecDepth 100000 in
theorem cmpString_any (a b : ByteArray) (w : World) :
    Calls Try.prog 56 #[.string a, .string b] w fun e w' => e = .returned (.int .i64 (cmpS a b)) ∧ w = w' := by
  go_enter Try.func56, Try.ntmps56
  go_wp2_with fail
  rw [run_callFunc_extern Try.func71 (by kernel_rfl) (by kernel_rfl) (by kernel_rfl) (e := Extern.BytealgCompare.compare) (by kernel_rfl), Lib.run_compareString]
  simp only [Result.andThen]
  rw [Oper.upon_value]
  go_wp2_with fail
  go_ret
  exact ⟨rfl, rfl⟩
theorem scmp_any (a b : ByteArray) (w : World) :
    Calls Try.prog 38 #[.string a, .string b] w fun e w' => e = .returned (.int .i64 (cmpS a b)) ∧ w = w' := by
  go_enter Try.func38, Try.ntmps38
  go_wp2_with (go_at_call 56; refine (cmpString_any _ _ _).mono ?_; rintro e w' ⟨rfl, rfl⟩)
  go_ret
  exact ⟨rfl, rfl⟩

theorem cmpI_i64 (a b : Int) : I64 (cmpI a b) := by unfold cmpI I64; split <;> (try split) <;> omega
theorem compareBytes_small : ∀ (a b : List UInt8), Lib.compareBytes a b = -1 ∨ Lib.compareBytes a b = 0 ∨ Lib.compareBytes a b = 1
  | [], [] => by simp [Lib.compareBytes]
  | [], _ :: _ => by simp [Lib.compareBytes]
  | _ :: _, [] => by simp [Lib.compareBytes]
  | a :: x, b :: y => by
    unfold Lib.compareBytes
    split
    · simp
    · split
      · simp
      · exact compareBytes_small x y
theorem cmpS_i64 (a b : ByteArray) : I64 (cmpS a b) := by
  unfold cmpS I64
  rcases compareBytes_small a.data.toList b.data.toList with h | h | h <;> rw [h] <;> omega

theorem heap_at_new (W : World) (o : Obj) (b : Nat) (hb : b = W.heap.size) : (W.alloc o).heap[b]? = some o := by subst hb; exact heap_alloc_new _ _

/-- The first that is not 0; else 0. -/
def orI : List Int → Int
  | [] => 0
  | a :: r => if a = 0 then orI r else a
theorem orI_eq (l : List Int) : orI l = firstE id l := by
  induction l with
  | nil => rfl
  | cons a r ih => simp [orI, firstE, ih]
set_option maxHeartbeats 400000 in
theorem or_any (l : List Int) (v : Value) (w : World) (hv : Sl intL w v l) :
    Calls Try.prog 37 #[v] w fun e w' => e = .returned (.int .i64 (orI l)) ∧ w = w' := by
  rw [orI_eq]
  obtain ⟨A, c, rfl, hlc, hcm⟩ := hv.form
  unfold maxLen at hcm
  go_enter Try.func37, Try.ntmps37
  go_wp2_with fail
  go_loop [8] (fun i => ∃ k : Nat, k ≤ l.length ∧ i = .int .i64 k ∧ Hid (∀ j x, j < k → l[j]? = some x → id x = 0)) (fun i => l.length - (intOf i).toNat)
  case atStart => exact ⟨0, Nat.zero_le _, rfl, fun j x hj => absurd hj (Nat.not_lt_zero _)⟩
  case round =>
    obtain ⟨k, hk, rfl, HA⟩ := hrel
    by_cases hlt : k < l.length
    · obtain ⟨d, hd⟩ : ∃ d, l[k]? = some d := ⟨_, List.getElem?_eq_getElem hlt⟩
      obtain ⟨b, o, rfl, _, hcell⟩ := int_at hv hd
      have HD : Hid (l[k]? = some d) := hd
      clear hd hv
      by_cases hz : d = 0
      · subst hz
        go_wp2_with fail
        go_round
        case rel => exact ⟨k + 1, by omega, by go_num, zero_step HA.out HD.out rfl⟩
        case measure => simp [intOf]; omega
      · have hzb : (d != 0) = true := by simpa using hz
        have HE : Hid (firstE id l = d) := firstE_hit HA.out HD.out hz
        clear hz
        go_wp2_with fail
        go_ret
        exact ⟨by rw [HE.out]; rfl, rfl⟩
    · have hkl : k = l.length := by omega
      subst hkl
      have HE : Hid (firstE id l = 0) := firstE_none HA.out
      clear hv
      go_wp2_with fail
      go_ret
      exact ⟨by rw [HE.out]; rfl, rfl⟩

/-! ### graph.OfNode, graph.OfTie, graph.Order -/
def nodE (n : Nod) : Int := if idB n.id = false then 1 else if nameE n.kind = 0 then recE n.props else nameE n.kind
def tieE (t : Tie) : Int := if nameE t.bond = 0 then (if (idB t.src && idB t.dst) then 0 else 1) else nameE t.bond
def tieO (a b : Tie) : Int := orI [cmpS a.bond b.bond, cmpI a.src b.src, cmpI a.dst b.dst]

set_option maxHeartbeats 400000 in
theorem ofNode_any (n : Nod) (v : Value) (w : World) (hi : Sm n.kind) (hv : Sl prpL w v n.props) :
    Calls Try.prog 17 #[.agg #[.int .i64 n.id, .string n.kind, v]] w fun e w' => e = .returned (errV (nodE n)) ∧ Below w.heap.size w w' := by
  obtain ⟨A, c, rfl, _, _⟩ := hv.form
  have HF : Hid (nodE n = if idB n.id = false then 1 else if nameE n.kind = 0 then recE n.props else nameE n.kind) := rfl
  obtain ⟨id, kind, props⟩ := n
  have hi' : Sm kind := hi
  have hb0 : Below w.heap.size w (w.alloc (.cells #[.int .i64 id, .string kind, .slice A props.length c] 30)) := (Below.refl _ _).alloc (Nat.le_refl _) _
  cases h1 : idB id with
  | false =>
    have HE : Hid (errV (nodE ⟨id, kind, props⟩) = .iface 58 (.int .i64 1)) := by rw [HF.out]; simp only [h1, if_true]; rfl
    go_enter Try.func17, Try.ntmps17
    go_wp2_with (go_at_call 16; refine (id_b _ _).mono ?_; rintro e w' ⟨rfl, rfl⟩)
    go_ret
    exact ⟨by rw [HE.out]; rfl, hb0⟩
  | true =>
    by_cases h2 : nameE kind = 0
    · have HE : Hid (errV (nodE ⟨id, kind, props⟩) = errV (recE props)) := by unfold Hid; rw [HF.out]; simp only [h1, h2, if_true, Bool.true_eq_false, if_false]
      have hE : errV (nameE kind) = .nilIface := errV_zero h2
      clear h2
      go_enter Try.func17, Try.ntmps17
      go_wp2_with (go_at_call 16; refine (id_b _ _).mono ?_; rintro e w' ⟨rfl, rfl⟩)
      refine (name_any kind _ hi').mono ?_
      rintro e w1 ⟨rfl, hb1⟩
      obtain ⟨hc, hf⟩ := bcell hb1
      have hb2 : Below w.heap.size w w1 := hb0.trans (hb1.mono hb0.size)
      rw [hE]
      go_wp2_with fail
      refine (recCheck_any props _ _ (hv.below hb2)).mono ?_
      rintro e w2 ⟨rfl, hb3⟩
      go_wp2_with fail
      go_ret
      exact ⟨by rw [HE.out]; rfl, hb2.trans (hb3.mono hb2.size)⟩
    · have HE : Hid (errV (nodE ⟨id, kind, props⟩) = .iface 58 (.int .i64 (nameE kind))) := by unfold Hid; rw [HF.out]; simp only [h1, h2, Bool.true_eq_false, if_false]; exact errV_some h2
      have hE : errV (nameE kind) = .iface 58 (.int .i64 (nameE kind)) := errV_some h2
      clear h2
      go_enter Try.func17, Try.ntmps17
      go_wp2_with (go_at_call 16; refine (id_b _ _).mono ?_; rintro e w' ⟨rfl, rfl⟩)
      refine (name_any kind _ hi').mono ?_
      rintro e w1 ⟨rfl, hb1⟩
      have hb2 : Below w.heap.size w w1 := hb0.trans (hb1.mono hb0.size)
      rw [hE]
      go_wp2_with fail
      go_ret
      exact ⟨by rw [HE.out]; rfl, hb2⟩

set_option maxHeartbeats 400000 in
theorem ofTie_any (t : Tie) (w : World) (hs : Sm t.bond) :
    Calls Try.prog 18 #[.agg #[.string t.bond, .int .i64 t.src, .int .i64 t.dst]] w fun e w' => e = .returned (errV (tieE t)) ∧ Below w.heap.size w w' := by
  have HF : Hid (tieE t = if nameE t.bond = 0 then (if (idB t.src && idB t.dst) then 0 else 1) else nameE t.bond) := rfl
  obtain ⟨bond, src, dst⟩ := t
  have hs : Sm bond := hs
  have hb0 : Below w.heap.size w (w.alloc (.cells #[.string bond, .int .i64 src, .int .i64 dst] 40)) := (Below.refl _ _).alloc (Nat.le_refl _) _
  by_cases h1 : nameE bond = 0
  · have hE : errV (nameE bond) = .nilIface := errV_zero h1
    have HG : Hid (tieE ⟨bond, src, dst⟩ = if (idB src && idB dst) then 0 else 1) := by unfold Hid; rw [HF.out]; simp only [h1, if_true]
    clear h1
    cases h2 : idB src with
    | false =>
      have HE : Hid (errV (tieE ⟨bond, src, dst⟩) = .iface 58 (.int .i64 1)) := by rw [HG.out, h2]; rfl
      go_enter Try.func18, Try.ntmps18
      go_wp2_with fail
      refine (name_any bond _ hs).mono ?_
      rintro e w1 ⟨rfl, hb1⟩
      obtain ⟨hc, hf⟩ := bcell hb1
      have hb2 : Below w.heap.size w w1 := hb0.trans (hb1.mono hb0.size)
      rw [hE]
      go_wp2_with (go_at_call 16; refine (id_b _ _).mono ?_; rintro e w' ⟨rfl, rfl⟩)
      go_ret
      exact ⟨by rw [HE.out]; rfl, hb2⟩
    | true =>
      cases h3 : idB dst with
      | false =>
        have HE : Hid (errV (tieE ⟨bond, src, dst⟩) = .iface 58 (.int .i64 1)) := by rw [HG.out, h2, h3]; rfl
        go_enter Try.func18, Try.ntmps18
        go_wp2_with fail
        refine (name_any bond _ hs).mono ?_
        rintro e w1 ⟨rfl, hb1⟩
        obtain ⟨hc, hf⟩ := bcell hb1
        have hb2 : Below w.heap.size w w1 := hb0.trans (hb1.mono hb0.size)
        rw [hE]
        go_wp2_with (go_at_call 16; refine (id_b _ _).mono ?_; rintro e w' ⟨rfl, rfl⟩)
        go_ret
        exact ⟨by rw [HE.out]; rfl, hb2⟩
      | true =>
        have HE : Hid (errV (tieE ⟨bond, src, dst⟩) = .nilIface) := by rw [HG.out, h2, h3]; rfl
        go_enter Try.func18, Try.ntmps18
        go_wp2_with fail
        refine (name_any bond _ hs).mono ?_
        rintro e w1 ⟨rfl, hb1⟩
        obtain ⟨hc, hf⟩ := bcell hb1
        have hb2 : Below w.heap.size w w1 := hb0.trans (hb1.mono hb0.size)
        rw [hE]
        go_wp2_with (go_at_call 16; refine (id_b _ _).mono ?_; rintro e w' ⟨rfl, rfl⟩)
        go_ret
        exact ⟨by rw [HE.out]; rfl, hb2⟩
  · have HE : Hid (errV (tieE ⟨bond, src, dst⟩) = .iface 58 (.int .i64 (nameE bond))) := by unfold Hid; rw [HF.out]; simp only [h1, if_false]; exact errV_some h1
    have hE : errV (nameE bond) = .iface 58 (.int .i64 (nameE bond)) := errV_some h1
    clear h1
    go_enter Try.func18, Try.ntmps18
    go_wp2_with fail
    refine (name_any bond _ hs).mono ?_
    rintro e w1 ⟨rfl, hb1⟩
    obtain ⟨hc, hf⟩ := bcell hb1
    have hb2 : Below w.heap.size w w1 := hb0.trans (hb1.mono hb0.size)
    rw [hE]
    go_wp2_with (go_at_call 16; refine (id_b _ _).mono ?_; rintro e w' ⟨rfl, rfl⟩)
    go_ret
    exact ⟨by rw [HE.out]; rfl, hb2⟩

set_option maxHeartbeats 1000000 in
theorem order_any (a b : Tie) (w : World) :
    Calls Try.prog 19 #[.agg #[.string a.bond, .int .i64 a.src, .int .i64 a.dst], .agg #[.string b.bond, .int .i64 b.src, .int .i64 b.dst]] w fun e w' => e = .returned (.int .i64 (tieO a b)) ∧ Below w.heap.size w w' := by
  have HF : Hid (tieO a b = orI [cmpS a.bond b.bond, cmpI a.src b.src, cmpI a.dst b.dst]) := rfl
  go_enter Try.func19, Try.ntmps19
  go_wp2_with fail
  refine wp_quiet_tail 15 (by kernel_rfl) (by kernel_rfl) ?_
  simp only [List.take_succ_cons, List.take_zero, List.drop_succ_cons, List.drop_zero]
  repeat (go_big_quiet_step (first | (go_at_call 38; exact Calls.quiet_of_same ((scmp_any _ _ _).mono fun _ _ h => ⟨h.1, h.2.symm⟩)) | (go_at_call 39; exact Calls.quiet_of_same ((cmp_any _ _ _).mono fun _ _ h => ⟨h.1, h.2.symm⟩))))
  refine wpQuiet_nil ?_
  intro _ hw'
  obtain ⟨nq, hw''⟩ := hw'
  subst hw''
  have hI : ∀ x ∈ [cmpS a.bond b.bond, cmpI a.src b.src, cmpI a.dst b.dst], I64 x := by
    intro x hx
    simp only [List.mem_cons, List.not_mem_nil, or_false] at hx
    rcases hx with rfl | rfl | rfl
    · exact cmpS_i64 _ _
    · exact cmpI_i64 _ _
    · exact cmpI_i64 _ _
  go_wp2_with fail
  refine (or_any [cmpS a.bond b.bond, cmpI a.src b.src, cmpI a.dst b.dst] _ _ ?_).mono ?_
  · exact sl_ints [cmpS a.bond b.bond, cmpI a.src b.src, cmpI a.dst b.dst] hI 3 (by simp) (by unfold maxLen; omega) (heap_at_new _ _ _ (by simp [World.drewN]))
  rintro e w' ⟨rfl, rfl⟩
  go_wp2_with fail
  go_ret
  refine ⟨by rw [HF.out]; rfl, Below.alloc (below_drewN (((Below.refl _ _).alloc (Nat.le_refl _) _).alloc (by simp) _) _) (by simp [World.drewN]; omega) _⟩
end Go.Proofs.Ytfjnkidblalckaa
