/- Parts: RecB, GrA, GrB, FindA, FindB, OwnF, CloA. -/
import Derived.Test.YtdmpkgiijddcdaaGreatDoorMg07
import Derived.Lib.Bytealg
import Derived.StillTailTactics
import Derived.Sort.Walk0
import Derived.Test.YtdmpkgiijddcdaaGreatDoorMg06
import Derived.WalkSpells
import Derived.Test.YtdmpkgiijddcdaaGreatDoorRows
import Derived.Lib.SliceRun
/- Contract: what record.Check of the program answers. -/
namespace Go.Proofs.YtdmpkgiijddcdaaGreatDoor
open Go.RowKit


theorem nan_any (n : Int) (w : World) :
    Calls Tryz.prog 163 #[.int .i64 n] w fun e w' => e = .returned (.bool false) ∧ w = w' := by
  go_enter Tryz.func163, Tryz.ntmps163
  go_wp2
  go_ret
  exact ⟨by simp, rfl⟩
def cmpI (a b : Int) : Int := if a < b then -1 else if b < a then 1 else 0
theorem cmp_any (a b : Int) (w : World) :
    Calls Tryz.prog 123 #[.int .i64 a, .int .i64 b] w fun e w' => e = .returned (.int .i64 (cmpI a b)) ∧ w = w' := by
  by_cases h1 : a < b
  · have HE : Hid (cmpI a b = -1) := by unfold cmpI; rw [if_pos h1]; rfl
    go_enter Tryz.func123, Tryz.ntmps123
    go_wp2_with (go_at_call 163; refine (nan_any _ _).mono ?_; rintro e w' ⟨rfl, rfl⟩)
    go_ret
    exact ⟨by rw [HE.out]; rfl, rfl⟩
  · by_cases h2 : b < a
    · have HE : Hid (cmpI a b = 1) := by unfold cmpI; rw [if_neg h1, if_pos h2]; rfl
      have h1' : b ≤ a := by omega
      go_enter Tryz.func123, Tryz.ntmps123
      go_wp2_with (go_at_call 163; refine (nan_any _ _).mono ?_; rintro e w' ⟨rfl, rfl⟩)
      go_ret
      exact ⟨by rw [HE.out]; rfl, rfl⟩
    · have HE : Hid (cmpI a b = 0) := by unfold cmpI; rw [if_neg h1, if_neg h2]; rfl
      have h1' : b ≤ a := by omega
      have h2' : a ≤ b := by omega
      go_enter Tryz.func123, Tryz.ntmps123
      go_wp2_with (go_at_call 163; refine (nan_any _ _).mono ?_; rintro e w' ⟨rfl, rfl⟩)
      go_ret
      exact ⟨by rw [HE.out]; rfl, rfl⟩

/-- Texts by bytes: -1, 0, 1. -/
def cmpS (a b : ByteArray) : Int := Lib.compareBytes a.data.toList b.data.toList
set_option maxHeartbeats 1000000 in
set_option maxRecDepth 100000 in
theorem cmpString_any (a b : ByteArray) (w : World) :
    Calls Tryz.prog 164 #[.string a, .string b] w fun e w' => e = .returned (.int .i64 (cmpS a b)) ∧ w = w' := by
  go_enter Tryz.func164, Tryz.ntmps164
  go_wp2_with fail
  rw [run_callFunc_extern Tryz.func190 (by kernel_rfl) (by kernel_rfl) (by kernel_rfl) (e := Extern.BytealgCompare.compare) (by kernel_rfl), Lib.run_compareString]
  simp only [Result.andThen]
  rw [Oper.upon_value]
  go_wp2_with fail
  go_ret
  exact ⟨rfl, rfl⟩
theorem scmp_any (a b : ByteArray) (w : World) :
    Calls Tryz.prog 124 #[.string a, .string b] w fun e w' => e = .returned (.int .i64 (cmpS a b)) ∧ w = w' := by
  go_enter Tryz.func124, Tryz.ntmps124
  go_wp2_with (go_at_call 164; refine (cmpString_any _ _ _).mono ?_; rintro e w' ⟨rfl, rfl⟩)
  go_ret
  exact ⟨rfl, rfl⟩

theorem cmpI_i64 (a b : Int) : I64 (cmpI a b) := by unfold cmpI I64; split <;> (try split) <;> omega
theorem compareBytes_small : ∀ (a b : List UInt8), Lib.compareBytes a b = -1 ∨ Lib.compareBytes a b = 0 ∨ Lib.compareBytes a b = 1
  | [], [] => by simp [Lib.compareBytes]
  | [], _ :: _ => by simp [Lib.compareBytes]
  | _ :: _, [] => by simp [Lib.compareBytes]
  | a :: x, b :: y => by
    unfold Lib.compareBytes
    split
    · simp
    · split
      · simp
      · exact compareBytes_small x y
theorem cmpS_i64 (a b : ByteArray) : I64 (cmpS a b) := by
  unfold cmpS I64
  rcases compareBytes_small a.data.toList b.data.toList with h | h | h <;> rw [h] <;> omega

theorem heap_at_new (W : World) (o : Obj) (b : Nat) (hb : b = W.heap.size) : (W.alloc o).heap[b]? = some o := by subst hb; exact heap_alloc_new _ _

/-- The first that is not 0; else 0. -/
def orI : List Int → Int
  | [] => 0
  | a :: r => if a = 0 then orI r else a
theorem orI_eq (l : List Int) : orI l = firstE id l := by
  induction l with
  | nil => rfl
  | cons a r ih => simp [orI, firstE, ih]
set_option maxHeartbeats 400000 in
theorem or_any (l : List Int) (v : Value) (w : World) (hv : Sl intL w v l) :
    Calls Tryz.prog 122 #[v] w fun e w' => e = .returned (.int .i64 (orI l)) ∧ w = w' := by
  rw [orI_eq]
  obtain ⟨A, c, rfl, hlc, hcm⟩ := hv.form
  unfold maxLen at hcm
  go_enter Tryz.func122, Tryz.ntmps122
  go_wp2_with fail
  go_loop [8] (fun i => ∃ k : Nat, k ≤ l.length ∧ i = .int .i64 k ∧ Hid (∀ j x, j < k → l[j]? = some x → id x = 0)) (fun i => l.length - (intOf i).toNat)
  case atStart => exact ⟨0, Nat.zero_le _, rfl, fun j x hj => absurd hj (Nat.not_lt_zero _)⟩
  case round =>
    obtain ⟨k, hk, rfl, HA⟩ := hrel
    by_cases hlt : k < l.length
    · obtain ⟨d, hd⟩ : ∃ d, l[k]? = some d := ⟨_, List.getElem?_eq_getElem hlt⟩
      obtain ⟨b, o, rfl, _, hcell⟩ := int_at hv hd
      have HD : Hid (l[k]? = some d) := hd
      clear hd hv
      by_cases hz : d = 0
      · subst hz
        go_wp2_with fail
        go_round
        case rel => exact ⟨k + 1, by omega, by go_num, zero_step HA.out HD.out rfl⟩
        case measure => simp [intOf]; omega
      · have hzb : (d != 0) = true := by simpa using hz
        have HE : Hid (firstE id l = d) := firstE_hit HA.out HD.out hz
        clear hz
        go_wp2_with fail
        go_ret
        exact ⟨by rw [HE.out]; rfl, rfl⟩
    · have hkl : k = l.length := by omega
      subst hkl
      have HE : Hid (firstE id l = 0) := firstE_none HA.out
      clear hv
      go_wp2_with fail
      go_ret
      exact ⟨by rw [HE.out]; rfl, rfl⟩

/-! ### graph.OfNode, graph.OfTie, graph.Order -/

theorem cell_box3 (w : World) (a b c : Value) (t : TypeId) : (w.alloc (.cells #[a, b, c] t)).cell? ⟨w.heap.size, 0, none⟩ = some a ∧ (w.alloc (.cells #[a, b, c] t)).cell? ⟨w.heap.size, 1, none⟩ = some b ∧
    (w.alloc (.cells #[a, b, c] t)).cell? ⟨w.heap.size, 2, none⟩ = some c :=
  ⟨by rw [World.cell?_alloc_at _ _ _ _ rfl]; rfl, by rw [World.cell?_alloc_at _ _ _ _ rfl]; rfl, by rw [World.cell?_alloc_at _ _ _ _ rfl]; rfl⟩

/-- Is there one at that place that compares equal? -/
def eqAt {D : Type} (c : D → Int) (l : List D) (pos : Nat) : Bool := match l[pos]? with | some d => c d == 0 | none => false


/-- The first place at which c is not below 0. -/
def lowI {D : Type} (c : D → Int) (l : List D) : Nat := l.findIdx (fun d => decide (0 ≤ c d))
/-! ### Nodes by number -/
theorem cmpI_zero {a b : Int} : cmpI a b = 0 ↔ a = b := by unfold cmpI; split <;> (try split) <;> omega
/-! ### Properties by name -/

section
variable {D : Type} {n : Nat} {enc : D → List Value}
theorem flat_get (hn : ∀ d, (enc d).length = n) : ∀ {l : List D} {i j : Nat} {d : D} {u : Value}, l[i]? = some d → (enc d)[j]? = some u → (l.flatMap enc)[i * n + j]? = some u
  | [], i, j, d, u, h, _ => by simp at h
  | a :: l, 0, j, d, u, h, hu => by
    simp at h; subst h
    rw [List.flatMap_cons, Nat.zero_mul, Nat.zero_add, List.getElem?_append_left (List.getElem?_eq_some_iff.1 hu).1]; exact hu
  | a :: l, i + 1, j, d, u, h, hu => by
    rw [List.flatMap_cons, List.getElem?_append_right (by rw [hn, Nat.add_mul]; omega), hn]
    have : (i + 1) * n + j - n = i * n + j := by rw [Nat.add_mul]; omega
    rw [this]
    exact flat_get hn (by simpa using h) hu
theorem Own.flat {w : World} {B : Nat} {e : TypeId} {v : Value} {l : List D} {ok : D → Prop} (hn : ∀ d, (enc d).length = n) (hl : ∀ x ∈ l, ok x) (h : Own w B e n v l.length (l.flatMap enc)) : Sl (flatL n ok enc hn) w v l := by
  obtain ⟨A, c, rfl, h1, h2⟩ := h.form
  refine ⟨A, c, rfl, h1, h2, fun i d hi => ?_⟩
  obtain ⟨g, o, c', hv, _, _⟩ := h.addr (len_pos hi)
  injection hv with hA _ hc
  subst hA; subst hc
  exact ⟨g, o, _, rfl, ⟨rfl, hl d (List.mem_of_getElem? hi)⟩, fun j u hj => h.cell rfl (flat_get hn hi hj)⟩
end
theorem Fld.enc_len (d : Fld) : d.enc.length = 4 := rfl
theorem Prp.enc_len (d : Prp) : d.enc.length = 4 := rfl
theorem Tie.enc_len (d : Tie) : d.enc.length = 3 := rfl
theorem Own.ties {w : World} {B : Nat} {e : TypeId} {v : Value} {l : List Tie} (h : Own w B e 3 v l.length (l.flatMap Tie.enc)) (hl : ∀ x ∈ l, x.ok) : Sl tieL w v l := h.flat Tie.enc_len hl
open Go Go.RowKit

section
variable {D : Type} {L : Lay D}
/-- The cells xs are the list's, one behind the other. -/
def Row (L : Lay D) (w : World) : List D → List Value → Prop
  | [], xs => xs = []
  | d :: l, xs => ∃ cs ys, xs = cs ++ ys ∧ L.cells w d cs ∧ Row L w l ys
theorem Row.nil (w : World) : Row L w [] [] := rfl
theorem Row.len {w : World} : ∀ {l : List D} {xs : List Value}, Row L w l xs → xs.length = l.length * L.sz
  | [], xs, h => by rw [show xs = [] from h]; simp
  | d :: l, xs, h => by
    obtain ⟨cs, ys, rfl, hc, hr⟩ := h
    rw [List.length_append, L.len hc, hr.len, List.length_cons, Nat.add_mul]; omega
theorem Row.one {w : World} {d : D} {cs : List Value} (h : L.cells w d cs) : Row L w [d] cs := ⟨cs, [], by simp, h, rfl⟩
theorem Row.append {w : World} : ∀ {l m : List D} {xs ys : List Value}, Row L w l xs → Row L w m ys → Row L w (l ++ m) (xs ++ ys)
  | [], m, xs, ys, h, k => by rw [show xs = [] from h]; simpa using k
  | d :: l, m, xs, ys, h, k => by
    obtain ⟨cs, zs, rfl, hc, hr⟩ := h
    exact ⟨cs, zs ++ ys, by simp, hc, hr.append k⟩
theorem Row.below {w w' : World} (hb : Below w.heap.size w w') : ∀ {l : List D} {xs : List Value}, Row L w l xs → Row L w' l xs
  | [], _, h => h
  | _ :: _, _, h => by
    obtain ⟨cs, zs, rfl, hc, hr⟩ := h
    exact ⟨cs, zs, rfl, L.below hb hc, hr.below hb⟩
theorem Row.split {w : World} : ∀ {l : List D} {xs : List Value} (i : Nat), i ≤ l.length → Row L w l xs → Row L w (l.take i) (xs.take (i * L.sz)) ∧ Row L w (l.drop i) (xs.drop (i * L.sz))
  | l, xs, 0, _, h => by simpa using ⟨Row.nil w, h⟩
  | [], xs, i + 1, hi, h => by simp at hi
  | d :: l, xs, i + 1, hi, h => by
    obtain ⟨cs, ys, rfl, hc, hr⟩ := h
    have hl := L.len hc
    obtain ⟨h1, h2⟩ := hr.split i (by simpa using hi)
    have e : (i + 1) * L.sz = cs.length + i * L.sz := by rw [hl, Nat.add_mul]; omega
    rw [e, List.take_length_add_append, List.drop_length_add_append]
    exact ⟨⟨cs, _, rfl, hc, h1⟩, h2⟩
theorem Row.take {w : World} {l : List D} {xs : List Value} (h : Row L w l xs) (i : Nat) (hi : i ≤ l.length) : Row L w (l.take i) (xs.take (i * L.sz)) := (h.split i hi).1
theorem Row.drop {w : World} {l : List D} {xs : List Value} (h : Row L w l xs) (i : Nat) (hi : i ≤ l.length) : Row L w (l.drop i) (xs.drop (i * L.sz)) := (h.split i hi).2
theorem Row.get {w : World} : ∀ {l : List D} {xs : List Value} {i : Nat} {d : D}, Row L w l xs → l[i]? = some d → ∃ cs, L.cells w d cs ∧ ∀ j u, cs[j]? = some u → xs[i * L.sz + j]? = some u
  | [], _, i, d, _, h => by simp at h
  | e :: l, xs, 0, d, h, hd => by
    obtain ⟨cs, ys, rfl, hc, hr⟩ := h
    simp at hd; subst hd
    exact ⟨cs, hc, fun j u hj => by rw [Nat.zero_mul, Nat.zero_add, List.getElem?_append_left (List.getElem?_eq_some_iff.1 hj).1]; exact hj⟩
  | e :: l, xs, i + 1, d, h, hd => by
    obtain ⟨cs, ys, rfl, hc, hr⟩ := h
    obtain ⟨cs', hc', hx⟩ := hr.get (i := i) (by simpa using hd)
    refine ⟨cs', hc', fun j u hj => ?_⟩
    have hl := L.len hc
    rw [List.getElem?_append_right (by rw [hl, Nat.add_mul]; omega)]
    have : (i + 1) * L.sz + j - cs.length = i * L.sz + j := by rw [hl, Nat.add_mul]; omega
    rw [this]
    exact hx j u hj
theorem Own.row {w : World} {B : Nat} {e : TypeId} {v : Value} {l : List D} {xs : List Value} (h : Own w B e L.sz v l.length xs) (hr : Row L w l xs) : Sl L w v l := by
  obtain ⟨A, c, rfl, h1, h2⟩ := h.form
  refine ⟨A, c, rfl, h1, h2, fun i d hi => ?_⟩
  obtain ⟨g, o, c', hv, _, _⟩ := h.addr (len_pos hi)
  injection hv with hA _ hc
  subst hA; subst hc
  obtain ⟨cs, hc, hx⟩ := hr.get hi
  exact ⟨g, o, cs, rfl, hc, fun j u hj => h.cell rfl (hx j u hj)⟩
end
theorem Row.flat {D : Type} {n : Nat} {ok : D → Prop} {enc : D → List Value} {hn : ∀ d, (enc d).length = n} {w : World} : ∀ {l : List D} {xs : List Value}, Row (flatL n ok enc hn) w l xs → xs = l.flatMap enc ∧ ∀ x ∈ l, ok x
  | [], xs, h => ⟨h, fun x hx => by simp at hx⟩
  | d :: l, xs, h => by
    obtain ⟨cs, ys, rfl, ⟨rfl, ho⟩, hr⟩ := h
    obtain ⟨rfl, hk⟩ := Row.flat hr
    refine ⟨by simp, fun x hx => ?_⟩
    rcases List.mem_cons.1 hx with rfl | hx
    · exact ho
    · exact hk x hx
theorem Own.made {w : World} {e : TypeId} {sz : Nat} : Own (w.alloc (.cells #[] e)) w.heap.size e sz (.slice (some ⟨w.heap.size, 0, none⟩) 0 0) 0 [] :=
  ⟨by simp, .inr ⟨_, 0, 0, #[], rfl, Nat.le_refl _, heap_alloc_new _ _, Nat.le_refl _, Nat.zero_le _, by simp, by simp⟩⟩

end Go.Proofs.YtdmpkgiijddcdaaGreatDoor
