/- Parts: SgI. -/
import Derived.Test.YtfeccicogcnhcaaGreatDoorMg08
import Derived.Test.YtfeccicogcnhcaaGreatDoorMg10
import Derived.Test.YtfeccicogcnhcaaGreatDoorMg11
import Derived.Test.YtfeccicogcnhcaaGreatDoorMg13
/- Plain: what stands between two lines of kinref1.ReadSchema. No condition. -/
namespace Go.Proofs.YtfeccicogcnhcaaGreatDoor
open Go Go.RowKit

def typCells : Array Value := #[.string ⟨#[]⟩, .string ⟨#[105, 110, 116]⟩, .string ⟨#[98, 111, 111, 108]⟩, .string ⟨#[116, 101, 120, 116]⟩]
structure Sg (w : World) (P : List (List UInt8)) (s : Scm) (Ak Ab : Option Addr) (ck cb : Nat) (xs : List Value) (k : Nat) (W : World) : Prop where
  z : W.heap[w.heap.size]? = some (.cells #[.slice none 0 0, .slice none 0 0] 25 (0, 0))
  wd : W.heap[w.heap.size + 1]? = some (.cells typCells 9 (0, 0))
  sb : W.heap[w.heap.size + 1 + 1]? = some (.cells #[.slice Ak s.kinds.length ck, .slice Ab s.bonds.length cb] 25 (0, 0))
  on : Own W w.heap.size 59 3 (.slice Ak s.kinds.length ck) s.kinds.length xs
  nn : OwnKnds W w.heap.size s.kinds xs
  ot : Own W w.heap.size 40 5 (.slice Ab s.bonds.length cb) s.bonds.length (s.bonds.flatMap Bnd.enc)
  tt : ∀ t ∈ s.bonds, t.ok
  run : srun ⟨[], []⟩ 0 P = srun s k (P.drop k)
  len : s.kinds.length + s.bonds.length ≤ k
  bel : Below w.heap.size w W
theorem Sg.below {w W W' : World} {P : List (List UInt8)} {s : Scm} {Ak Ab : Option Addr} {ck cb : Nat} {xs : List Value} {k : Nat} (h : Sg w P s Ak Ab ck cb xs k W) (hb : Below W.heap.size W W') : Sg w P s Ak Ab ck cb xs k W' where
  z := (hb.block _ (Array.getElem?_eq_some_iff.1 h.z).1).trans h.z
  wd := (hb.block _ (Array.getElem?_eq_some_iff.1 h.wd).1).trans h.wd
  sb := (hb.block _ (Array.getElem?_eq_some_iff.1 h.sb).1).trans h.sb
  on := h.on.below hb
  nn := h.nn.same (.below hb) (.below hb)
  ot := h.ot.below hb
  tt := h.tt
  run := h.run
  len := h.len
  bel := h.bel.trans (hb.mono h.bel.size)
/-- The words of a kind, behind its name: whom it comes of, and where its fields begin. -/
def ofQ (P : List (List UInt8)) : List (List UInt8) × Nat := if 3 < P.length ∧ P[2]? = some ofW then (Lib.split (P.getD 3 []) [44], 4) else ([], 2)
theorem knd_parts {P ws : List (List UInt8)} {x a : List UInt8} (hP : P = x :: a :: ws) (ha : wordB a = true) : (ofQ P).2 ≤ P.length ∧ ((ofQ P).1.all wordB = false → readKndL P = none) ∧
    ((ofQ P).1.all wordB = true → (fldsP (P.drop (ofQ P).2) = none → readKndL P = none) ∧ ∀ fs, fldsP (P.drop (ofQ P).2) = some fs → readKndL P = some ⟨bs a, (ofQ P).1.map bs, fs⟩) := by
  subst hP
  have e0 := readKnd_two x a ws
  rw [if_pos ha] at e0
  by_cases h : 1 < ws.length ∧ ws.head? = some ofW
  · obtain ⟨o, y, rest, rfl⟩ : ∃ o y rest, ws = o :: y :: rest := by
      match ws, h.1 with
      | o :: y :: rest, _ => exact ⟨o, y, rest, rfl⟩
    have ho : o = ofW := by have := h.2; simpa using this
    subst ho
    have eq : ofQ (x :: a :: ofW :: y :: rest) = (Lib.split y [44], 4) := by
      unfold ofQ; rw [if_pos ⟨by simp, rfl⟩]; rfl
    rw [eq, e0, ofsP_of]
    refine ⟨by simp, fun h1 => ?_, fun h1 => ?_⟩
    · have h1' : (Lib.split y [44]).all wordB = false := h1
      rw [h1', if_neg (by decide)]; rfl
    · have h1' : (Lib.split y [44]).all wordB = true := h1
      rw [if_pos h1']
      obtain ⟨k1, k2⟩ := kndOf_some a ((Lib.split y [44]).map bs) rest
      exact ⟨k1, k2⟩
  · have eq : ofQ (x :: a :: ws) = ([], 2) := by
      unfold ofQ; rw [if_neg]
      intro h2
      apply h
      refine ⟨by have := h2.1; simp at this; omega, ?_⟩
      have := h2.2
      cases ws with
      | nil => simp at this
      | cons o r => simpa using this
    rw [eq, e0, ofsP_no h]
    refine ⟨by simp, (fun h1 => by cases h1), fun _ => ?_⟩
    obtain ⟨k1, k2⟩ := kndOf_some a [] ws
    exact ⟨k1, k2⟩
theorem fldsP_step {P : List (List UInt8)} {base m : Nat} {y : List UInt8} {fs : List Fld} (h : fldsP ((P.drop base).take m) = some fs) (hy : P[base + m]? = some y) :
    (readFldL y = none → fldsP (P.drop base) = none) ∧ ∀ f, readFldL y = some f → fldsP ((P.drop base).take (m + 1)) = some (fs ++ [f]) :=
  fldsP_take h (by rw [List.getElem?_drop]; exact hy)
/-- A kind's box, while its words are read: base world v, box q. -/
structure KS (v : World) (a : List UInt8) (O : List (List UInt8)) (Ao : Option Addr) (co : Nat) (fs : List Fld) (Af : Option Addr) (cf : Nat) (W : World) : Prop where
  bel : Below v.heap.size v W
  kb : W.heap[v.heap.size]? = some (.cells #[.string (bs a), .slice Ao O.length co, .slice Af fs.length cf] 59 (0, 0))
  oo : Own W v.heap.size 9 1 (.slice Ao O.length co) O.length (wv O)
  of : Own W v.heap.size 61 4 (.slice Af fs.length cf) fs.length (fs.flatMap Fld.enc)
  ok : ∀ f ∈ fs, f.ok
theorem KS.below {v W W' : World} {a : List UInt8} {O : List (List UInt8)} {Ao : Option Addr} {co : Nat} {fs : List Fld} {Af : Option Addr} {cf : Nat} (h : KS v a O Ao co fs Af cf W) (hb : Below W.heap.size W W') : KS v a O Ao co fs Af cf W' where
  bel := h.bel.trans (hb.mono h.bel.size)
  kb := (hb.block _ (Array.getElem?_eq_some_iff.1 h.kb).1).trans h.kb
  oo := h.oo.below hb
  of := h.of.below hb
  ok := h.ok
/-- A field's box is written. -/
theorem KS.setF {v W : World} {a : List UInt8} {O : List (List UInt8)} {Ao : Option Addr} {co : Nat} {fs : List Fld} {Af : Option Addr} {cf : Nat} (h : KS v a O Ao co fs Af cf W) {q : Nat} {c : Array Value} (hq : W.heap[q]? = some (.cells c 61 (0, 0))) (hv : v.heap.size < q) (hne : some q ≠ (Value.slice Af fs.length cf).ownBlock) (i : Nat) (u : Value) :
    KS v a O Ao co fs Af cf (W.setCell ⟨q, i, none⟩ u) where
  bel := h.bel.setCell (p := ⟨q, i, none⟩) (by show v.heap.size ≤ q; omega) u
  kb := setCell_other h.kb (by omega) i u
  oo := h.oo.same (.setCell (p := ⟨q, i, none⟩) hq (by decide) u)
  of := h.of.setCell ⟨q, i, none⟩ u (Ne.symm hne)
  ok := h.ok
/-- A field more is stored. -/
theorem KS.field {v V X : World} {a : List UInt8} {O : List (List UInt8)} {Ao : Option Addr} {co : Nat} {fs : List Fld} {Af : Option Addr} {cf : Nat} (h : KS v a O Ao co fs Af cf V) {A7 : Option Addr} {c7 : Nat} {d : Fld} (hg : V.grownBy X (Value.slice Af fs.length cf).ownBlock)
    (ho : Own X v.heap.size 61 4 (.slice A7 (fs.length + 1) c7) (fs.length + 1) (fs.flatMap Fld.enc ++ Fld.enc d)) (hd : d.ok) :
    KS v a O Ao co (fs ++ [d]) A7 c7 (X.setCell ⟨v.heap.size, 2, none⟩ (.slice A7 (fs.length + 1) c7)) := by
  have k1 := grown_block hg h.kb (h.of.ne_block h.kb (by decide))
  have hs : ∀ T, 59 ≠ T → Same T X (X.setCell ⟨v.heap.size, 2, none⟩ (.slice A7 (fs.length + 1) c7)) := fun T hT => .setCell (p := ⟨v.heap.size, 2, none⟩) k1 hT _
  have hl : (fs ++ [d]).length = fs.length + 1 := by simp
  have hf : (fs ++ [d]).flatMap Fld.enc = fs.flatMap Fld.enc ++ Fld.enc d := by simp
  refine ⟨(h.bel.grown hg h.bel.size (fun kk e => (h.of.lt kk e).1)).setCell (p := ⟨v.heap.size, 2, none⟩) (Nat.le_refl _) _, ?_, (h.oo.same (.grown h.of (by decide) hg)).same (hs _ (by decide)), ?_, ?_⟩
  · rw [hl]; exact setCell_block k1 2 _
  · rw [hl, hf]; exact ho.same (hs _ (by decide))
  · intro f hf2
    rcases List.mem_append.1 hf2 with h2 | h2
    · exact h.ok f h2
    · rw [List.mem_singleton.1 h2]; exact hd
/-- The cells of a new block of four, of five. -/
theorem four_new (w : World) (a b c d : Value) (T : TypeId) : ∀ (j : Nat) (u' : Value), ([a, b, c, d] : List Value)[j]? = some u' → (w.alloc (.cells #[a, b, c, d] T)).cell? ⟨w.heap.size, j, none⟩ = some u' := fun j u' hj => by
  rw [World.cell?_alloc_at _ _ _ _ rfl]; simpa using hj
theorem five_new (w : World) (a b c d e : Value) (T : TypeId) : ∀ (j : Nat) (u' : Value), ([a, b, c, d, e] : List Value)[j]? = some u' → (w.alloc (.cells #[a, b, c, d, e] T)).cell? ⟨w.heap.size, j, none⟩ = some u' := fun j u' hj => by
  rw [World.cell?_alloc_at _ _ _ _ rfl]; simpa using hj
/-- Whom a kind comes of is stored in its box. -/
theorem KS.setOf {v W : World} {a : List UInt8} {O : List (List UInt8)} {Ao : Option Addr} {co : Nat} (h : KS v a [] none 0 [] none 0 W) (ho : Own W v.heap.size 9 1 (.slice Ao O.length co) O.length (wv O)) : KS v a O Ao co [] none 0 (W.setCell ⟨v.heap.size, 1, none⟩ (.slice Ao O.length co)) where
  bel := h.bel.setCell (p := ⟨v.heap.size, 1, none⟩) (Nat.le_refl _) _
  kb := setCell_block h.kb 1 _
  oo := ho.same (.setCell (p := ⟨v.heap.size, 1, none⟩) h.kb (by decide) _)
  of := Own.nil _ _ _ _
  ok := fun _ h => by cases h
theorem ofQ_small {P : List (List UInt8)} {m : Nat} (h : ∀ y ∈ P, y.length ≤ m) : ∀ x ∈ (ofQ P).1, x.length ≤ m := by
  unfold ofQ
  by_cases h3 : 3 < P.length ∧ P[2]? = some ofW
  · rw [if_pos h3]
    intro x hx
    have hy : P.getD 3 [] ∈ P := by
      rw [List.getD_eq_getElem?_getD, List.getElem?_eq_getElem h3.1]
      exact List.getElem_mem _
    have := (split_len 44 _ (P.getD 3 []) (Nat.le_refl _)).1 x hx
    exact Nat.le_trans this (h _ hy)
  · rw [if_neg h3]; intro x hx; cases hx
theorem ofQ_len {P : List (List UInt8)} {m : Nat} (h : ∀ y ∈ P, y.length ≤ m) : (ofQ P).1.length ≤ m + 1 := by
  unfold ofQ
  by_cases h3 : 3 < P.length ∧ P[2]? = some ofW
  · rw [if_pos h3]
    have hy : P.getD 3 [] ∈ P := by
      rw [List.getD_eq_getElem?_getD, List.getElem?_eq_getElem h3.1]
      exact List.getElem_mem _
    have := (split_len 44 _ (P.getD 3 []) (Nat.le_refl _)).2
    have h4 := h _ hy
    show (Lib.split (P.getD 3 []) [44]).length ≤ m + 1
    omega
  · rw [if_neg h3]; simp
/-- The type's number, while the words of types are looked through. -/
def typJ (l : List UInt8) (j : Nat) : Int := if 0 < typN l ∧ typN l < (j : Int) then typN l else 0
theorem typJ_one (l : List UInt8) : typJ l 1 = 0 := by unfold typJ; rw [if_neg]; omega
theorem typN_max (l : List UInt8) : typN l ≤ 3 := by
  unfold typN
  repeat' split
  all_goals decide
theorem typJ_four (l : List UInt8) : typJ l 4 = typM l := by
  unfold typJ typM
  have := typN_max l
  by_cases h : 0 < typN l
  · rw [if_pos ⟨h, by omega⟩, if_pos h]
  · rw [if_neg (fun h2 => h h2.1), if_neg h]
theorem typL_at {j : Nat} (h1 : 1 ≤ j) (h2 : j ≤ 3) : typN (typL (j : Int)) = j := by
  have h3 : j = 1 ∨ j = 2 ∨ j = 3 := by omega
  rcases h3 with rfl | rfl | rfl <;> decide
theorem typJ_hit {l : List UInt8} {j : Nat} (h1 : 1 ≤ j) (h2 : j ≤ 3) (h : l = typL (j : Int)) : typJ l (j + 1) = j := by
  have e := typL_at h1 h2
  rw [← h] at e
  unfold typJ
  rw [if_pos ⟨by omega, by omega⟩, e]
theorem typJ_miss {l : List UInt8} {j : Nat} (h : ¬ l = typL (j : Int)) : typJ l (j + 1) = typJ l j := by
  unfold typJ
  by_cases h0 : 0 < typN l
  · have hne : typN l ≠ (j : Int) := fun e => h (by rw [← e]; exact (typ_of h0).symm)
    by_cases h3 : typN l < (j : Int)
    · rw [if_pos (show 0 < typN l ∧ typN l < ((j + 1 : Nat) : Int) from ⟨h0, by omega⟩), if_pos (show 0 < typN l ∧ typN l < (j : Int) from ⟨h0, h3⟩)]
    · rw [if_neg (show ¬ (0 < typN l ∧ typN l < ((j + 1 : Nat) : Int)) from fun h4 => by have := h4.2; omega), if_neg (fun h4 => h3 h4.2)]
  · rw [if_neg (fun h4 => h0 h4.1), if_neg (fun h4 => h0 h4.1)]
theorem wds_at {W : World} {q j : Nat} (h : W.heap[q]? = some (.cells typCells 9 (0, 0))) (h1 : 1 ≤ j) (h2 : j ≤ 3) : W.cell? ⟨q, j, none⟩ = some (.string (bs (typL (j : Int)))) := by
  have h3 : j = 1 ∨ j = 2 ∨ j = 3 := by omega
  rcases h3 with rfl | rfl | rfl
  · exact block_cell h 1
  · exact block_cell h 2
  · exact block_cell h 3
theorem fld_of {y n t : List UInt8} (h : Lib.split y [58] = [n, t]) (hn : wordB n = true) : (¬ 0 < typM (signB t).2.2 → readFldL y = none) ∧ (0 < typM (signB t).2.2 → readFldL y = some ⟨bs n, typM (signB t).2.2, (signB t).1, (signB t).2.1⟩) := by
  have e := (fld_split y).1 n t h
  rw [typM_pos]
  constructor
  · intro h0; rw [e, if_neg (fun h2 => h0 h2.2)]
  · intro h0
    rw [e, if_pos ⟨hn, h0⟩]
    unfold typM
    rw [if_pos h0]
theorem fld_not {y n t : List UInt8} (h : Lib.split y [58] = [n, t]) (hn : wordB n = false) : readFldL y = none := by
  rw [(fld_split y).1 n t h, if_neg (fun h2 => by rw [hn] at h2; cases h2.1)]
theorem two_parts {P : List (List UInt8)} (h : P.length = 2) : ∃ a b, P = [a, b] := by
  match P, h with
  | [a, b], _ => exact ⟨a, b, rfl⟩
theorem typM_i64 (l : List UInt8) : I64 (typM l) := by
  unfold typM
  split
  · exact typN_i64 l
  · exact ⟨by decide, by decide⟩
section
variable {w V X : World} {P : List (List UInt8)} {s : Scm} {Ak Ab : Option Addr} {ck cb : Nat} {xs : List Value} {k : Nat}
/-- A kind more is stored. -/
theorem Sg.kind (h : Sg w P s Ak Ab ck cb xs k V) {A7 : Option Addr} {c7 : Nat} {d : Knd} {u x : Value} (hg : V.grownBy X (Value.slice Ak s.kinds.length ck).ownBlock) (ho : Own X w.heap.size 59 3 (.slice A7 (s.kinds.length + 1) c7) (s.kinds.length + 1) (xs ++ [.string d.name, u, x]))
    (a1 : Sm d.name) (a2 : ∀ p ∈ d.ofs, Sm p) (a3 : Own V w.heap.size 9 1 u d.ofs.length (d.ofs.map Value.string)) (a4 : ∀ p ∈ d.fields, p.ok) (a5 : Own V w.heap.size 61 4 x d.fields.length (d.fields.flatMap Fld.enc))
    (hr : srun ⟨[], []⟩ 0 P = srun ⟨s.kinds ++ [d], s.bonds⟩ (k + 1) (P.drop (k + 1))) :
    Sg w P ⟨s.kinds ++ [d], s.bonds⟩ A7 Ab c7 cb (xs ++ [.string d.name, u, x]) (k + 1) (X.setCell ⟨w.heap.size + 1 + 1, 0, none⟩ (.slice A7 (s.kinds.length + 1) c7)) := by
  have z1 := grown_block hg h.z (h.on.ne_block h.z (by decide))
  have w1 := grown_block hg h.wd (h.on.ne_block h.wd (by decide))
  have g1 := grown_block hg h.sb (h.on.ne_block h.sb (by decide))
  have hs : ∀ T, 25 ≠ T → Same T X (X.setCell ⟨w.heap.size + 1 + 1, 0, none⟩ (.slice A7 (s.kinds.length + 1) c7)) := fun T hT => .setCell (p := ⟨w.heap.size + 1 + 1, 0, none⟩) g1 hT _
  have hl : (s.kinds ++ [d]).length = s.kinds.length + 1 := by simp
  refine ⟨setCell_other z1 (by omega) _ _, setCell_other w1 (by omega) _ _, ?_, ?_, ?_, (h.ot.same (.grown h.on (by decide) hg)).same (hs _ (by decide)), h.tt, hr, ?_, ?_⟩
  · rw [hl]; exact setCell_block g1 0 _
  · rw [hl]; exact ho.same (hs _ (by decide))
  · exact OwnKnds.snoc a1 a2 ((a3.same (.grown h.on (by decide) hg)).same (hs _ (by decide))) a4 ((a5.same (.grown h.on (by decide) hg)).same (hs _ (by decide))) ((h.nn.same (.grown h.on (by decide) hg) (.grown h.on (by decide) hg)).same (hs _ (by decide)) (hs _ (by decide)))
  · have := h.len; simp; omega
  · exact (h.bel.grown hg h.bel.size (fun kk e => (h.on.lt kk e).1)).setCell (p := ⟨w.heap.size + 1 + 1, 0, none⟩) (by show w.heap.size ≤ w.heap.size + 1 + 1; omega) _
/-- A bond more is stored. -/
theorem Sg.bond (h : Sg w P s Ak Ab ck cb xs k V) {A7 : Option Addr} {c7 : Nat} {d : Bnd} (hg : V.grownBy X (Value.slice Ab s.bonds.length cb).ownBlock) (ho : Own X w.heap.size 40 5 (.slice A7 (s.bonds.length + 1) c7) (s.bonds.length + 1) (s.bonds.flatMap Bnd.enc ++ Bnd.enc d))
    (h1 : d.ok) (hr : srun ⟨[], []⟩ 0 P = srun ⟨s.kinds, s.bonds ++ [d]⟩ (k + 1) (P.drop (k + 1))) :
    Sg w P ⟨s.kinds, s.bonds ++ [d]⟩ Ak A7 ck c7 xs (k + 1) (X.setCell ⟨w.heap.size + 1 + 1, 1, none⟩ (.slice A7 (s.bonds.length + 1) c7)) := by
  have z1 := grown_block hg h.z (h.ot.ne_block h.z (by decide))
  have w1 := grown_block hg h.wd (h.ot.ne_block h.wd (by decide))
  have g1 := grown_block hg h.sb (h.ot.ne_block h.sb (by decide))
  have hs : ∀ T, 25 ≠ T → Same T X (X.setCell ⟨w.heap.size + 1 + 1, 1, none⟩ (.slice A7 (s.bonds.length + 1) c7)) := fun T hT => .setCell (p := ⟨w.heap.size + 1 + 1, 1, none⟩) g1 hT _
  have hl : (s.bonds ++ [d]).length = s.bonds.length + 1 := by simp
  have hf : (s.bonds ++ [d]).flatMap Bnd.enc = s.bonds.flatMap Bnd.enc ++ Bnd.enc d := by simp
  refine ⟨setCell_other z1 (by omega) _ _, setCell_other w1 (by omega) _ _, ?_, (h.on.same (.grown h.ot (by decide) hg)).same (hs _ (by decide)), (h.nn.same (.grown h.ot (by decide) hg) (.grown h.ot (by decide) hg)).same (hs _ (by decide)) (hs _ (by decide)), ?_, ?_, hr, ?_, ?_⟩
  · rw [hl]; exact setCell_block g1 1 _
  · rw [hl, hf]; exact ho.same (hs _ (by decide))
  · intro t ht
    rcases List.mem_append.1 ht with h2 | h2
    · exact h.tt t h2
    · rw [List.mem_singleton.1 h2]; exact h1
  · have := h.len; simp; omega
  · exact (h.bel.grown hg h.bel.size (fun kk e => (h.ot.lt kk e).1)).setCell (p := ⟨w.heap.size + 1 + 1, 1, none⟩) (by show w.heap.size ≤ w.heap.size + 1 + 1; omega) _
/-- What an append leaves of the boxes. -/
theorem Sg.boxes_k (h : Sg w P s Ak Ab ck cb xs k V) (hg : V.grownBy X (Value.slice Ak s.kinds.length ck).ownBlock) : X.heap[w.heap.size]? = some (.cells #[.slice none 0 0, .slice none 0 0] 25 (0, 0)) ∧ X.heap[w.heap.size + 1 + 1]? = some (.cells #[.slice Ak s.kinds.length ck, .slice Ab s.bonds.length cb] 25 (0, 0)) ∧ Below w.heap.size w X :=
  ⟨grown_block hg h.z (h.on.ne_block h.z (by decide)), grown_block hg h.sb (h.on.ne_block h.sb (by decide)), h.bel.grown hg h.bel.size (fun kk e => (h.on.lt kk e).1)⟩
theorem Sg.boxes_b (h : Sg w P s Ak Ab ck cb xs k V) (hg : V.grownBy X (Value.slice Ab s.bonds.length cb).ownBlock) : X.heap[w.heap.size]? = some (.cells #[.slice none 0 0, .slice none 0 0] 25 (0, 0)) ∧ X.heap[w.heap.size + 1 + 1]? = some (.cells #[.slice Ak s.kinds.length ck, .slice Ab s.bonds.length cb] 25 (0, 0)) ∧ Below w.heap.size w X :=
  ⟨grown_block hg h.z (h.ot.ne_block h.z (by decide)), grown_block hg h.sb (h.ot.ne_block h.sb (by decide)), h.bel.grown hg h.bel.size (fun kk e => (h.ot.lt kk e).1)⟩
/-- The result is stored. -/
theorem res2s {v0 v1 : Value} {c0 c1 : Value} (hB : Below w.heap.size w V) (h : V.heap[w.heap.size]? = some (.cells #[c0, c1] 25 (0, 0))) :
    Below w.heap.size w ((V.setCell ⟨w.heap.size, 0, none⟩ v0).setCell ⟨w.heap.size, 1, none⟩ v1) ∧ ((V.setCell ⟨w.heap.size, 0, none⟩ v0).setCell ⟨w.heap.size, 1, none⟩ v1).heap[w.heap.size]? = some (.cells #[v0, v1] 25 (0, 0)) ∧ ∀ T, 25 ≠ T → Same T V ((V.setCell ⟨w.heap.size, 0, none⟩ v0).setCell ⟨w.heap.size, 1, none⟩ v1) :=
  ⟨(hB.setCell (p := ⟨_, 0, none⟩) (Nat.le_refl _) _).setCell (p := ⟨_, 1, none⟩) (Nat.le_refl _) _, setCell_block (setCell_block h 0 v0) 1 v1,
   fun _ hT => (Same.setCell (p := ⟨w.heap.size, 0, none⟩) h hT v0).trans (Same.setCell (p := ⟨w.heap.size, 1, none⟩) (setCell_block h 0 v0) hT v1)⟩
end
end Go.Proofs.YtfeccicogcnhcaaGreatDoor
