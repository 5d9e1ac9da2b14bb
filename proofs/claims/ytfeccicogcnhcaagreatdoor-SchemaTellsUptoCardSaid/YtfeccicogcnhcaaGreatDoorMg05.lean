/- Parts: VtR, VtG, KinE, KinF, KinG, KinP. -/
import Derived.Test.YtfeccicogcnhcaaGreatDoorMg04
import Derived.Test.YtfeccicogcnhcaaGreatDoorMg02
/- Plain: a text as a record. No condition. -/
namespace Go.Proofs.YtfeccicogcnhcaaGreatDoor
open Go

/-- A piece as a property. -/
def pieceP (x : List UInt8) : Option Prp := if (Lib.cut x [61]).2.2 = true ∧ readE (Lib.cut x [61]).2.1 = 0 then some ⟨bs (Lib.cut x [61]).1, readV (Lib.cut x [61]).2.1⟩ else none
def propsP : List (List UInt8) → Option (List Prp)
  | [] => some []
  | x :: xs => match pieceP x with
    | none => none
    | some p => match propsP xs with
      | none => none
      | some r => some (p :: r)
/-- A text as a record: the fault; the record. -/
def readRE (l : List UInt8) : Int := if l = [45] then 0 else match propsP (cutL 44 l) with | none => 2 | some r => recE r
def readRV (l : List UInt8) : List Prp := if l = [45] then [] else match propsP (cutL 44 l) with | none => [] | some r => if recE r = 0 then r else []

/-- A text's lines, each with its end. -/
def linesF (cur : List UInt8) : List UInt8 → List (List UInt8)
  | [] => if cur = [] then [] else [cur]
  | c :: l => if c = 10 then (cur ++ [10]) :: linesF [] l else linesF (cur ++ [c]) l
theorem linesF_cons (cur : List UInt8) (c : UInt8) (l : List UInt8) : linesF cur (c :: l) = if c = 10 then (cur ++ [10]) :: linesF [] l else linesF (cur ++ [c]) l := rfl
def linesL (l : List UInt8) : List (List UInt8) := linesF [] l
theorem linesF_sign : ∀ (a r cur : List UInt8), noB 10 a → linesF cur (a ++ 10 :: r) = (cur ++ a ++ [10]) :: linesL r
  | [], r, cur, _ => by
    show linesF cur (10 :: r) = _
    rw [linesF_cons, if_pos rfl, List.append_nil]; rfl
  | x :: a, r, cur, h => by
    show linesF cur (x :: (a ++ 10 :: r)) = _
    rw [linesF_cons, if_neg (h x (by simp)), linesF_sign a r _ fun y hy => h y (List.mem_cons_of_mem _ hy)]
    simp
theorem linesF_no : ∀ (a cur : List UInt8), noB 10 a → linesF cur a = if cur ++ a = [] then [] else [cur ++ a]
  | [], cur, _ => by rw [List.append_nil]; rfl
  | x :: a, cur, h => by
    rw [linesF_cons, if_neg (h x (by simp)), linesF_no a _ fun y hy => h y (List.mem_cons_of_mem _ hy)]
    simp
theorem lines_sign {a r : List UInt8} (h : noB 10 a) : linesL (a ++ 10 :: r) = (a ++ [10]) :: linesL r := by
  have := linesF_sign a r [] h
  rw [List.nil_append] at this
  exact this
theorem lines_no {a : List UInt8} (h : noB 10 a) (h0 : a ≠ []) : linesL a = [a] := by
  unfold linesL
  rw [linesF_no a [] h, if_neg (by simpa using h0)]; rfl
theorem lines_nil : linesL [] = [] := rfl
theorem lines_whole : ∀ (n : Nat) (l : List UInt8), l.length ≤ n → (linesL l).flatten = l
  | n, l, hn => by
    by_cases h0 : l = []
    · subst h0; rfl
    rcases first_sign 10 l with h | ⟨a, r, rfl, h⟩
    · rw [lines_no h h0]; simp
    · cases n with
      | zero => simp at hn
      | succ n =>
        rw [lines_sign h, List.flatten_cons, lines_whole n r (by simp at hn; omega)]; simp
theorem suffix_line (a : List UInt8) : Lib.hasSuffix (a ++ [10]) [10] = true ∧ Lib.trimSuffix (a ++ [10]) [10] = a := by
  have h : Lib.hasSuffix (a ++ [10]) [10] = true := by
    unfold Lib.hasSuffix
    rw [List.isSuffixOf_iff_suffix]
    exact ⟨a, rfl⟩
  refine ⟨h, ?_⟩
  unfold Lib.trimSuffix
  rw [h, if_pos rfl]
  simp
theorem suffix_cases (x : List UInt8) : Lib.hasSuffix x [10] = false ∨ ∃ a, x = a ++ [10] := by
  cases h : Lib.hasSuffix x [10] with
  | false => exact .inl rfl
  | true =>
    unfold Lib.hasSuffix at h
    rw [List.isSuffixOf_iff_suffix] at h
    obtain ⟨a, e⟩ := h
    exact .inr ⟨a, e.symm⟩
def nodeW : List UInt8 := [110, 111, 100, 101]
def tieW : List UInt8 := [116, 105, 101]
/-- A node, a tie of what stands behind its word. -/
def readNodL (l : List UInt8) : Option Nod := match Lib.splitN l [32] 3 with
  | [a, b, c] => if b = [] then none else match numL a 4 with
    | none => none
    | some n => if readRE c = 0 then some ⟨n, bs b, readRV c⟩ else none
  | _ => none
def readTieL (l : List UInt8) : Option Tie := match Lib.split l [32] with
  | [a, b, c] => if a = [] then none else match numL b 4, numL c 4 with
    | some x, some y => some ⟨bs a, x, y⟩
    | _, _ => none
  | _ => none
/-- A line more. -/
def lineT (g : Grf) (x : List UInt8) : Option Grf :=
  if Lib.hasSuffix x [10] = true then
    (if (Lib.cut (Lib.trimSuffix x [10]) [32]).1 = nodeW ∧ g.ties.length = 0 then (readNodL (Lib.cut (Lib.trimSuffix x [10]) [32]).2.1).map fun n => ⟨g.nodes ++ [n], g.ties⟩
     else if (Lib.cut (Lib.trimSuffix x [10]) [32]).1 = tieW then (readTieL (Lib.cut (Lib.trimSuffix x [10]) [32]).2.1).map fun t => ⟨g.nodes, g.ties ++ [t]⟩
     else none)
  else none
/-- Lines, one by one: the graph, or the number of the line that is wrong. -/
def runT (g : Grf) (n : Nat) : List (List UInt8) → Except Nat Grf
  | [] => .ok g
  | x :: xs => match lineT g x with
    | none => .error n
    | some g' => runT g' (n + 1) xs
open Go.RowKit

theorem fieldsOf1_any (d : Fld) (name : ByteArray) (w : World) :
    Calls Tryz.prog 93 #[.agg #[.string d.name, .int .i64 d.ty, .bool d.must, .bool d.key], .string name] w fun e w' => e = .returned (.int .i64 (cmpS d.name name)) ∧ Below w.heap.size w w' := by
  go_enter Tryz.func93, Tryz.ntmps93
  go_wp2_with (go_at_call 94; refine (scmp_any _ _ _).mono ?_; rintro e w' ⟨rfl, rfl⟩)
  go_ret
  exact ⟨rfl, (Below.refl _ _).alloc (Nat.le_refl _) _⟩
def fldV (_ : World) (d : Fld) (u : Value) : Prop := u = .agg #[.string d.name, .int .i64 d.ty, .bool d.must, .bool d.key] ∧ d.ok
set_option maxHeartbeats 2000000 in
theorem bs_fld (g : Nat) (caps : Array Value) (eg : ∀ args w, (callFunc g args).run Tryz.prog w = .ok (.enter g args) w) (tv : Value) (c : Fld → Int) (l : List Fld) (v : Value) (w : World) (hv : Sl fldL w v l)
    (hp : CmpB Tryz.prog g caps fldV tv c w) (pos : Nat) (hlen : l.length ≤ 1000) (hpos : pos ≤ l.length) (h1 : ∀ i d, i < pos → l[i]? = some d → c d < 0) (h2 : ∀ i d, pos ≤ i → l[i]? = some d → 0 ≤ c d) :
    Calls Tryz.prog 92 #[v, tv, .func (.func g) #[] caps] w fun e w' => e = .returned (.tuple #[.int .i64 pos, .bool (eqAt c l pos)]) ∧ Below w.heap.size w w' := by
  obtain ⟨A, cp, rfl, hlc, hcm⟩ := hv.form
  have hcm' : l.length ≤ 9223372036854775807 := by unfold maxLen at hcm; omega
  clear hcm hlc hcm'
  have P1 := Lib.hid h1
  have P2 := Lib.hid h2
  clear h1 h2
  go_enter Tryz.func92, Tryz.ntmps92
  go_wp2_with fail
  go_loopw [9, 10] (fun i j wr => ∃ lo hi : Nat, lo ≤ pos ∧ pos ≤ hi ∧ hi ≤ l.length ∧ i = .int .i64 lo ∧ j = .int .i64 hi ∧ Below w.heap.size w wr) (fun i j _ => (intOf j).toNat - (intOf i).toNat)
  case atStart => exact ⟨0, l.length, Nat.zero_le _, hpos, Nat.le_refl _, rfl, rfl, Below.refl _ _⟩
  case round =>
    obtain ⟨lo, hi, hlo, hhi, hhl, rfl, rfl, hb⟩ := hrel
    by_cases hlt : lo < hi
    · obtain ⟨d, hd⟩ : ∃ d, l[(lo + hi) / 2]? = some d := ⟨_, List.getElem?_eq_getElem (by omega)⟩
      have HD : Hid (l[(lo + hi) / 2]? = some d) := hd
      obtain ⟨b, o, rfl, hok, x0, x1, x2, x3⟩ := fld_at (hv.below hb) hd
      have hcall := hp d _ wr hb ⟨rfl, hok⟩
      clear hd hp hv
      have hm1 : (lo + hi) / 2 < hi := by omega
      have hm2 : lo ≤ (lo + hi) / 2 := by omega
      by_cases hc : c d < 0
      · have hmp : (lo + hi) / 2 < pos := by
          rcases Nat.lt_or_ge ((lo + hi) / 2) pos with h | h
          · exact h
          · have := P2.out _ _ h HD.out; omega
        go_wp2_with (go_at_fn g; refine hcall.mono ?_; rintro e w' ⟨rfl, hb2⟩)
        go_roundw
        case rel => exact ⟨(lo + hi) / 2 + 1, hi, by omega, hhi, hhl, by go_num, rfl, hb.trans (hb2.mono hb.size)⟩
        case measure => simp [intOf]; omega
      · have hmp : pos ≤ (lo + hi) / 2 := by
          rcases Nat.lt_or_ge ((lo + hi) / 2) pos with h | h
          · have := P1.out _ _ h HD.out; omega
          · exact h
        have hc' : 0 ≤ c d := by omega
        go_wp2_with (go_at_fn g; refine hcall.mono ?_; rintro e w' ⟨rfl, hb2⟩)
        go_roundw
        case rel => exact ⟨lo, (lo + hi) / 2, hlo, by omega, by omega, rfl, by go_num, hb.trans (hb2.mono hb.size)⟩
        case measure => simp [intOf]; omega
    · obtain rfl : lo = hi := by omega
      obtain rfl : lo = pos := by omega
      by_cases hl : lo < l.length
      · obtain ⟨d, hd⟩ : ∃ d, l[lo]? = some d := ⟨_, List.getElem?_eq_getElem hl⟩
        have HE : Hid (eqAt c l lo = (c d == 0)) := by unfold eqAt; rw [hd]; rfl
        have hl' : (lo : Int) < (l.length : Int) := by omega
        have hl2 : decide ((lo : Int) < (l.length : Int)) = true := by simpa using hl
        obtain ⟨b, o, rfl, hok, x0, x1, x2, x3⟩ := fld_at (hv.below hb) hd
        have hcall := hp d _ wr hb ⟨rfl, hok⟩
        clear hd hp hv
        go_wp2_with (go_at_fn g; refine hcall.mono ?_; rintro e w' ⟨rfl, hb2⟩)
        go_ret2
        exact ⟨by rw [HE.out]; rfl, hb.trans (hb2.mono hb.size)⟩
      · have HE : Hid (eqAt c l lo = false) := by unfold eqAt; rw [List.getElem?_eq_none (by omega)]; rfl
        have hl2 : decide ((lo : Int) < (l.length : Int)) = false := by simp; omega
        have hl3 : (l.length : Int) ≤ (lo : Int) := by omega
        clear hp hv
        go_wp2_with fail
        go_ret2
        exact ⟨by rw [HE.out]; rfl, hb⟩

def fldC (name : ByteArray) (f : Fld) : Int := cmpS f.name name
def fldLt (a b : Fld) : Bool := decide (cmpS a.name b.name < 0)
/-- One more field. -/
def putF (l : List Fld) (f : Fld) : Option (List Fld) :=
  if eqAt (fldC f.name) l (lowI (fldC f.name) l) then (if l[lowI (fldC f.name) l]? = some f then some l else none)
  else some (l.take (lowI (fldC f.name) l) ++ f :: l.drop (lowI (fldC f.name) l))
theorem fldC_mono (name : ByteArray) : ∀ a b, fldLt a b = true → 0 ≤ fldC name a → 0 ≤ fldC name b := by
  intro a b h h1
  unfold fldLt at h
  unfold fldC at h1 ⊢
  simp at h
  by_cases hb : cmpS b.name name < 0
  · have := cmpS_trans h hb
    omega
  · omega
/-- Strictly rising by name. -/
def Rise (l : List Fld) : Prop := l.Pairwise fun a b => cmpS a.name b.name < 0
theorem rise_chain {l : List Fld} (h : Rise l) : chain fldLt l = true := by
  rw [chain_iff]
  intro i a b ha hb
  obtain ⟨h1, rfl⟩ := List.getElem?_eq_some_iff.1 ha
  obtain ⟨h2, rfl⟩ := List.getElem?_eq_some_iff.1 hb
  have := List.pairwise_iff_getElem.1 h i (i + 1) h1 h2 (by omega)
  unfold fldLt; simpa using this
theorem putF_rise {l l' : List Fld} {f : Fld} (h : Rise l) (hp : putF l f = some l') : Rise l' := by
  unfold putF at hp
  have hc := rise_chain h
  generalize hk : lowI (fldC f.name) l = k at hp
  have h1 : ∀ i d, i < k → l[i]? = some d → cmpS d.name f.name < 0 := fun i d hi hd => low_lt (c := fldC f.name) (by rw [hk]; exact hi) hd
  have h2 : ∀ i d, k ≤ i → l[i]? = some d → 0 ≤ cmpS d.name f.name := fun i d hi hd => low_ge (c := fldC f.name) hc (fldC_mono f.name) (by rw [hk]; exact hi) hd
  split at hp
  · split at hp
    · injection hp with e; subst e; exact h
    · cases hp
  · rename_i he
    injection hp with e; subst e
    have h3 : ∀ i d, k ≤ i → l[i]? = some d → 0 < cmpS d.name f.name := by
      intro i d hi hd
      have hge := h2 i d hi hd
      by_cases h0 : cmpS d.name f.name = 0
      · exfalso
        by_cases hik : i = k
        · subst hik
          unfold eqAt at he
          rw [hd] at he
          simp [fldC, h0] at he
        · obtain ⟨hl, rfl⟩ := List.getElem?_eq_some_iff.1 hd
          have hkl : k < l.length := by omega
          have h4 := List.pairwise_iff_getElem.1 h k i hkl hl (by omega)
          have h5 := h2 k l[k] (Nat.le_refl _) (List.getElem?_eq_getElem hkl)
          rw [cmpS_zero] at h0
          rw [h0] at h4
          omega
      · omega
    unfold Rise
    rw [List.pairwise_append]
    refine ⟨h.sublist (List.take_sublist _ _), ?_, ?_⟩
    · rw [List.pairwise_cons]
      refine ⟨fun b hb => ?_, h.sublist (List.drop_sublist _ _)⟩
      obtain ⟨i, hi⟩ := List.mem_iff_getElem?.1 hb
      rw [List.getElem?_drop] at hi
      have := h3 _ _ (by omega) hi
      rw [cmpS_anti]; omega
    · intro a ha b hb
      obtain ⟨i, hi⟩ := List.mem_iff_getElem?.1 ha
      rw [List.getElem?_take] at hi
      split at hi
      · rename_i hik
        have hal := h1 i a hik hi
        rcases List.mem_cons.1 hb with rfl | hb
        · exact hal
        · obtain ⟨j, hj⟩ := List.mem_iff_getElem?.1 hb
          rw [List.getElem?_drop] at hj
          have := h3 _ _ (by omega) hj
          exact cmpS_trans hal (by rw [cmpS_anti]; omega)
      · cases hi
/-- All fields of some kinds, one behind the other. -/
def allF (fs : List Fld) : Option (List Fld) := fs.foldlM putF []
def fieldsOf (l : List Knd) (name : ByteArray) : Option (List Fld) :=
  allF ((kinL l name).flatMap fun s => match l.find? (fun k => decide (k.name = s)) with | some k => k.fields | none => [])
theorem mem_putF {l l' : List Fld} {f : Fld} (hp : putF l f = some l') : ∀ x, x ∈ l' ↔ x ∈ l ∨ x = f := by
  unfold putF at hp
  intro x
  split at hp
  · split at hp
    · rename_i hf
      injection hp with e; subst e
      constructor
      · exact .inl
      · rintro (h | rfl)
        · exact h
        · exact List.mem_of_getElem? hf
    · cases hp
  · injection hp with e; subst e
    generalize lowI (fldC f.name) l = k
    have : x ∈ l ↔ x ∈ l.take k ∨ x ∈ l.drop k := by rw [← List.mem_append, List.take_append_drop]
    rw [this, List.mem_append, List.mem_cons]
    constructor
    · rintro (h | h | h)
      · exact .inl (.inl h)
      · exact .inr h
      · exact .inl (.inr h)
    · rintro ((h | h) | h)
      · exact .inl h
      · exact .inr (.inr h)
      · exact .inr (.inl h)

def tyB (t : Int) : Bool := decide (1 ≤ t ∧ t ≤ 3)
theorem typ_any (t : Int) (w : World) :
    Calls Tryz.prog 91 #[.int .i64 t] w fun e w' => e = .returned (.bool (tyB t)) ∧ w = w' := by
  by_cases h1 : 1 ≤ t
  · by_cases h2 : t ≤ 3
    · have HB : Hid (tyB t = true) := by unfold tyB Hid; simp [h1, h2]
      have d1 : decide (1 ≤ t) = true := decide_eq_true h1
      have d2 : decide (t ≤ 3) = true := decide_eq_true h2
      go_enter Tryz.func91, Tryz.ntmps91
      go_wp2_with fail
      go_ret
      exact ⟨by rw [HB.out]; rfl, rfl⟩
    · have HB : Hid (tyB t = false) := by unfold tyB Hid; simp [h2]
      have d1 : decide (1 ≤ t) = true := decide_eq_true h1
      have d2 : decide (t ≤ 3) = false := decide_eq_false h2
      have h3 : 3 < t := by omega
      go_enter Tryz.func91, Tryz.ntmps91
      go_wp2_with fail
      go_ret
      exact ⟨by rw [HB.out]; rfl, rfl⟩
  · have HB : Hid (tyB t = false) := by unfold tyB Hid; simp [h1]
    have d1 : decide (1 ≤ t) = false := decide_eq_false h1
    have h3 : t < 1 := by omega
    go_enter Tryz.func91, Tryz.ntmps91
    go_wp2_with fail
    go_ret
    exact ⟨by rw [HB.out]; rfl, rfl⟩
/-- What is wrong with one field, behind another one. -/
def fldE (p : Option Fld) (f : Fld) : Int :=
  if nameE f.name = 0 then (if tyB f.ty then (if f.key && !f.must then 3 else match p with | some q => (if ltS q.name f.name then 0 else 7) | none => 0) else 8) else nameE f.name
def fldsE : Option Fld → List Fld → Int
  | _, [] => 0
  | p, f :: r => if fldE p f = 0 then fldsE (some f) r else fldE p f
theorem prev_succ {D : Type} {l : List D} {k : Nat} {d : D} (h : l[k]? = some d) : prev l (k + 1) = some d := by
  unfold prev; simpa using h
theorem cell_box4 (w : World) (a b c d : Value) (t : TypeId) : (w.alloc (.cells #[a, b, c, d] t)).cell? ⟨w.heap.size, 0, none⟩ = some a ∧ (w.alloc (.cells #[a, b, c, d] t)).cell? ⟨w.heap.size, 1, none⟩ = some b ∧
    (w.alloc (.cells #[a, b, c, d] t)).cell? ⟨w.heap.size, 2, none⟩ = some c ∧ (w.alloc (.cells #[a, b, c, d] t)).cell? ⟨w.heap.size, 3, none⟩ = some d :=
  ⟨by rw [World.cell?_alloc_at _ _ _ _ rfl]; rfl, by rw [World.cell?_alloc_at _ _ _ _ rfl]; rfl, by rw [World.cell?_alloc_at _ _ _ _ rfl]; rfl, by rw [World.cell?_alloc_at _ _ _ _ rfl]; rfl⟩
set_option maxHeartbeats 4000000 in
theorem flds_any (l : List Fld) (v : Value) (w : World) (hv : Sl fldL w v l) :
    Calls Tryz.prog 66 #[v] w fun e w' => e = .returned (errV (fldsE none l)) ∧ Below w.heap.size w w' := by
  obtain ⟨A, c, rfl, hlc, hcm⟩ := hv.form
  unfold maxLen at hcm
  go_enter Tryz.func66, Tryz.ntmps66
  go_wp2_with fail
  go_loopw [8] (fun i wr => ∃ k : Nat, k ≤ l.length ∧ i = .int .i64 k ∧ Below w.heap.size w wr ∧ Hid (fldsE none l = fldsE (prev l k) (l.drop k))) (fun i _ => l.length - (intOf i).toNat)
  case atStart => exact ⟨0, Nat.zero_le _, rfl, Below.refl _ _, rfl⟩
  case round =>
    obtain ⟨k, hk, rfl, hb, HR⟩ := hrel
    by_cases hlt : k < l.length
    · obtain ⟨d, hd⟩ : ∃ d, l[k]? = some d := ⟨_, List.getElem?_eq_getElem hlt⟩
      obtain ⟨b, o, rfl, hok, x0, x1, x2, x3⟩ := fld_at (hv.below hb) hd
      obtain ⟨z0, z1, z2, z3⟩ := cell_box4 wr (.string d.name) (.int .i64 d.ty) (.bool d.must) (.bool d.key) 61
      have hlt' : (k : Int) < (l.length : Int) := by omega
      have HS : Hid (fldsE none l = if fldE (prev l k) d = 0 then fldsE (prev l (k + 1)) (l.drop (k + 1)) else fldE (prev l k) d) := by
        unfold Hid; rw [HR.out, drop_cons hd, fldsE, prev_succ hd]
      by_cases hn : nameE d.name = 0
      · have hE : errV (nameE d.name) = .nilIface := errV_zero hn
        have HQ : Hid (fldE (prev l k) d = if tyB d.ty then (if d.key && !d.must then 3 else match prev l k with | some q => (if ltS q.name d.name then 0 else 7) | none => 0) else 8) := by
          unfold Hid fldE; rw [if_pos hn]
        have HD := Lib.hid hd
        have HV := Lib.hid hv
        clear hn hd hv
        cases hT : tyB d.ty with
        | false =>
          have HE : Hid (errV (fldsE none l) = .iface 54 (.int .i64 8)) := by
            have : fldE (prev l k) d = 8 := by rw [HQ.out, hT]; rfl
            unfold Hid; rw [HS.out, this]; rfl
          clear HQ
          go_wp2_with fail
          refine (name_any d.name _ hok.1).mono ?_
          rintro e w1 ⟨rfl, hb1⟩
          rw [hE]
          have hb2 : Below w.heap.size w w1 := (hb.alloc hb.size _).trans (hb1.mono (by have := hb.size; simp; omega))
          have q0 := cell_below hb1 z0
          have q1 := cell_below hb1 z1
          have q2 := cell_below hb1 z2
          have q3 := cell_below hb1 z3
          try have y1 := cell_below hb1 (cell_below ((Below.refl _ _).alloc (Nat.le_refl _) _) y0)
          go_wp2_with (go_at_call 91; refine (typ_any _ _).mono ?_; rw [hT]; rintro e w2 ⟨rfl, rfl⟩)
          go_ret
          exact ⟨by rw [HE.out]; rfl, hb2⟩
        | true =>
          have HQ2 : Hid (fldE (prev l k) d = if d.key && !d.must then 3 else match prev l k with | some q => (if ltS q.name d.name then 0 else 7) | none => 0) := by
            unfold Hid; rw [HQ.out, hT]; rfl
          clear HQ
          cases hK : (d.key && !d.must) with
          | true =>
            have HE : Hid (errV (fldsE none l) = .iface 54 (.int .i64 3)) := by
              have : fldE (prev l k) d = 3 := by rw [HQ2.out, hK]; rfl
              unfold Hid; rw [HS.out, this]; rfl
            clear HQ2
            have hk1 : d.key = true := by cases h : d.key <;> simp [h] at hK ⊢
            have hk2 : d.must = false := by cases h : d.must <;> simp [h] at hK ⊢
            clear hK
            rw [hk1, hk2] at z0 z1 z2 z3
            rw [hk1] at x3
            rw [hk2] at x2
            go_wp2_with fail
            refine (name_any d.name _ hok.1).mono ?_
            rintro e w1 ⟨rfl, hb1⟩
            rw [hE]
            have hb2 : Below w.heap.size w w1 := (hb.alloc hb.size _).trans (hb1.mono (by have := hb.size; simp; omega))
            have q0 := cell_below hb1 z0
            have q1 := cell_below hb1 z1
            have q2 := cell_below hb1 z2
            have q3 := cell_below hb1 z3
            try have y1 := cell_below hb1 (cell_below ((Below.refl _ _).alloc (Nat.le_refl _) _) y0)
            go_wp2_with (go_at_call 91; refine (typ_any _ _).mono ?_; rw [hT]; rintro e w2 ⟨rfl, rfl⟩)
            go_ret
            exact ⟨by rw [HE.out]; rfl, hb2⟩
          | false =>
            have HQ3 : Hid (fldE (prev l k) d = match prev l k with | some q => (if ltS q.name d.name then 0 else 7) | none => 0) := by
              unfold Hid; rw [HQ2.out, hK]; rfl
            clear HQ2
            have hkm : d.key = false ∨ (d.key = true ∧ d.must = true) := by cases h : d.key <;> simp [h] at hK ⊢; exact hK
            clear hK
            by_cases h0 : k = 0
            · subst h0
              simp only [Nat.zero_mul, Nat.add_zero] at x0 x1 x2 x3
              have HN : Hid (fldsE none l = fldsE (prev l (0 + 1)) (l.drop (0 + 1))) := by unfold Hid; rw [HS.out, HQ3.out]; rfl
              clear HQ3 HS
              rcases hkm with hk1 | ⟨hk1, hk2⟩
              · rw [hk1] at z0 z1 z2 z3 x3
                go_wp2_with fail
                refine (name_any d.name _ hok.1).mono ?_
                rintro e w1 ⟨rfl, hb1⟩
                rw [hE]
                have hb2 : Below w.heap.size w w1 := (hb.alloc hb.size _).trans (hb1.mono (by have := hb.size; simp; omega))
                have q0 := cell_below hb1 z0
                have q1 := cell_below hb1 z1
                have q2 := cell_below hb1 z2
                have q3 := cell_below hb1 z3
                try have y1 := cell_below hb1 (cell_below ((Below.refl _ _).alloc (Nat.le_refl _) _) y0)
                go_wp2_with (go_at_call 91; refine (typ_any _ _).mono ?_; rw [hT]; rintro e w2 ⟨rfl, rfl⟩)
                go_quiet (fail)
                go_wp2_with fail
                go_roundw
                case rel => exact ⟨1, by omega, by go_num, Go.below_drewN hb2 _, HN⟩
                case measure => simp [intOf]; omega
              · rw [hk1, hk2] at z0 z1 z2 z3
                rw [hk1] at x3
                rw [hk2] at x2
                go_wp2_with fail
                refine (name_any d.name _ hok.1).mono ?_
                rintro e w1 ⟨rfl, hb1⟩
                rw [hE]
                have hb2 : Below w.heap.size w w1 := (hb.alloc hb.size _).trans (hb1.mono (by have := hb.size; simp; omega))
                have q0 := cell_below hb1 z0
                have q1 := cell_below hb1 z1
                have q2 := cell_below hb1 z2
                have q3 := cell_below hb1 z3
                try have y1 := cell_below hb1 (cell_below ((Below.refl _ _).alloc (Nat.le_refl _) _) y0)
                go_wp2_with (go_at_call 91; refine (typ_any _ _).mono ?_; rw [hT]; rintro e w2 ⟨rfl, rfl⟩)
                go_quiet (fail)
                go_wp2_with fail
                go_roundw
                case rel => exact ⟨1, by omega, by go_num, Go.below_drewN hb2 _, HN⟩
                case measure => simp [intOf]; omega
            · obtain ⟨q, hq⟩ : ∃ q, l[k - 1]? = some q := ⟨_, List.getElem?_eq_getElem (by omega)⟩
              have hkd0 : (0 : Int) < (k : Int) := by omega
              have hkd1 : decide ((0 : Int) < (k : Int)) = true := decide_eq_true hkd0
              have hkd2 : decide (0 < k) = true := decide_eq_true (by omega)
              have hpv : prev l k = some q := by
                obtain ⟨m, rfl⟩ : ∃ m, k = m + 1 := ⟨k - 1, by omega⟩
                exact hq
              obtain ⟨b', o', hA', _, y0, _⟩ := fld_at (HV.out.below hb) hq
              injection hA' with e5
              injection e5 with e6 e7
              subst e6; subst e7
              cases hL : ltS q.name d.name with
              | true =>
                have HN : Hid (fldsE none l = fldsE (prev l (k + 1)) (l.drop (k + 1))) := by unfold Hid; rw [HS.out, HQ3.out, hpv]; simp [hL]
                have hL' : Op.bytesLess q.name.toList d.name.toList = true := hL
                clear HQ3 HS hq hpv hL
                rcases hkm with hk1 | ⟨hk1, hk2⟩
                · rw [hk1] at z0 z1 z2 z3 x3
                  go_wp2_with fail
                  refine (name_any d.name _ hok.1).mono ?_
                  rintro e w1 ⟨rfl, hb1⟩
                  rw [hE]
                  have hb2 : Below w.heap.size w w1 := (hb.alloc hb.size _).trans (hb1.mono (by have := hb.size; simp; omega))
                  have q0 := cell_below hb1 z0
                  have q1 := cell_below hb1 z1
                  have q2 := cell_below hb1 z2
                  have q3 := cell_below hb1 z3
                  try have y1 := cell_below hb1 (cell_below ((Below.refl _ _).alloc (Nat.le_refl _) _) y0)
                  go_wp2_with (go_at_call 91; refine (typ_any _ _).mono ?_; rw [hT]; rintro e w2 ⟨rfl, rfl⟩)
                  go_quiet (fail)
                  go_wp2_with fail
                  go_roundw
                  case rel => exact ⟨k + 1, by omega, by go_num, Go.below_drewN hb2 _, HN⟩
                  case measure => simp [intOf]; omega
                · rw [hk1, hk2] at z0 z1 z2 z3
                  rw [hk1] at x3
                  rw [hk2] at x2
                  go_wp2_with fail
                  refine (name_any d.name _ hok.1).mono ?_
                  rintro e w1 ⟨rfl, hb1⟩
                  rw [hE]
                  have hb2 : Below w.heap.size w w1 := (hb.alloc hb.size _).trans (hb1.mono (by have := hb.size; simp; omega))
                  have q0 := cell_below hb1 z0
                  have q1 := cell_below hb1 z1
                  have q2 := cell_below hb1 z2
                  have q3 := cell_below hb1 z3
                  try have y1 := cell_below hb1 (cell_below ((Below.refl _ _).alloc (Nat.le_refl _) _) y0)
                  go_wp2_with (go_at_call 91; refine (typ_any _ _).mono ?_; rw [hT]; rintro e w2 ⟨rfl, rfl⟩)
                  go_quiet (fail)
                  go_wp2_with fail
                  go_roundw
                  case rel => exact ⟨k + 1, by omega, by go_num, Go.below_drewN hb2 _, HN⟩
                  case measure => simp [intOf]; omega
              | false =>
                have HE : Hid (errV (fldsE none l) = .iface 54 (.int .i64 7)) := by unfold Hid; rw [HS.out, HQ3.out, hpv]; simp [hL, errV]
                have hL' : Op.bytesLess q.name.toList d.name.toList = false := hL
                clear HQ3 HS hq hpv hL
                rcases hkm with hk1 | ⟨hk1, hk2⟩
                · rw [hk1] at z0 z1 z2 z3 x3
                  go_wp2_with fail
                  refine (name_any d.name _ hok.1).mono ?_
                  rintro e w1 ⟨rfl, hb1⟩
                  rw [hE]
                  have hb2 : Below w.heap.size w w1 := (hb.alloc hb.size _).trans (hb1.mono (by have := hb.size; simp; omega))
                  have q0 := cell_below hb1 z0
                  have q1 := cell_below hb1 z1
                  have q2 := cell_below hb1 z2
                  have q3 := cell_below hb1 z3
                  try have y1 := cell_below hb1 (cell_below ((Below.refl _ _).alloc (Nat.le_refl _) _) y0)
                  go_wp2_with (go_at_call 91; refine (typ_any _ _).mono ?_; rw [hT]; rintro e w2 ⟨rfl, rfl⟩)
                  go_quiet (fail)
                  go_wp2_with fail
                  go_ret
                  exact ⟨by rw [HE.out]; rfl, Go.below_drewN hb2 _⟩
                · rw [hk1, hk2] at z0 z1 z2 z3
                  rw [hk1] at x3
                  rw [hk2] at x2
                  go_wp2_with fail
                  refine (name_any d.name _ hok.1).mono ?_
                  rintro e w1 ⟨rfl, hb1⟩
                  rw [hE]
                  have hb2 : Below w.heap.size w w1 := (hb.alloc hb.size _).trans (hb1.mono (by have := hb.size; simp; omega))
                  have q0 := cell_below hb1 z0
                  have q1 := cell_below hb1 z1
                  have q2 := cell_below hb1 z2
                  have q3 := cell_below hb1 z3
                  try have y1 := cell_below hb1 (cell_below ((Below.refl _ _).alloc (Nat.le_refl _) _) y0)
                  go_wp2_with (go_at_call 91; refine (typ_any _ _).mono ?_; rw [hT]; rintro e w2 ⟨rfl, rfl⟩)
                  go_quiet (fail)
                  go_wp2_with fail
                  go_ret
                  exact ⟨by rw [HE.out]; rfl, Go.below_drewN hb2 _⟩
      · have hE : errV (nameE d.name) = .iface 54 (.int .i64 (nameE d.name)) := errV_some hn
        have HE : Hid (errV (fldsE none l) = .iface 54 (.int .i64 (nameE d.name))) := by
          have : fldE (prev l k) d = nameE d.name := by unfold fldE; rw [if_neg hn]
          unfold Hid; rw [HS.out, this, if_neg hn]; exact hE
        clear hn hd hv
        go_wp2_with fail
        refine (name_any d.name _ hok.1).mono ?_
        rintro e w1 ⟨rfl, hb1⟩
        rw [hE]
        have hb2 : Below w.heap.size w w1 := (hb.alloc hb.size _).trans (hb1.mono (by have := hb.size; simp; omega))
        have q0 := cell_below hb1 z0
        have q1 := cell_below hb1 z1
        have q2 := cell_below hb1 z2
        have q3 := cell_below hb1 z3
        try have y1 := cell_below hb1 (cell_below ((Below.refl _ _).alloc (Nat.le_refl _) _) y0)
        go_wp2_with fail
        go_ret
        exact ⟨by rw [HE.out]; rfl, hb2⟩
    · obtain rfl : k = l.length := by omega
      have HE : Hid (errV (fldsE none l) = .nilIface) := by unfold Hid; rw [HR.out, List.drop_length]; rfl
      clear hv
      go_wp2_with fail
      go_ret
      exact ⟨by rw [HE.out]; rfl, hb⟩

/-! ### What is wrong with kinds -/
def ofsE (l : List Knd) : List ByteArray → List ByteArray → Int
  | _, [] => 0
  | p, s :: r => if kFind l s < 0 then 5 else if p.any (fun y => decide (s = y)) then 7 else ofsE l (p ++ [s]) r
def sumE : Option (List Fld) → Int
  | none => 7
  | some fs => if 8 < fs.length then 4 else 0
def oneE (l : List Knd) (k : Knd) : Int :=
  if nameE k.name = 0 then
    if 0 ≤ kFind l k.name then 7
    else if 4 < k.ofs.length then 4
    else if 8 < k.fields.length then 4
    else if ofsE l [] k.ofs = 0 then
      if fldsE none k.fields = 0 then sumE (fieldsOf (l ++ [k]) k.name)
      else fldsE none k.fields
    else ofsE l [] k.ofs
  else nameE k.name
def kindsE : List Knd → List Knd → ByteArray × Int
  | _, [] => (.empty, 0)
  | p, k :: r => if oneE p k = 0 then kindsE (p ++ [k]) r else (k.name, oneE p k)
def checkE (l : List Knd) : ByteArray × Int := if 12 < l.length then (.empty, 4) else kindsE [] l

/-! ### Where it is -/
theorem idxI_nonneg {D : Type} {p : D → Bool} {l : List D} (h : 0 ≤ idxI p l) : ∃ (k : Nat) (d : D), idxI p l = k ∧ l[k]? = some d ∧ p d = true ∧ ∀ j x, j < k → l[j]? = some x → p x = false := by
  induction l with
  | nil => rw [show idxI p ([] : List D) = -1 from idxI_miss (fun j x hj => absurd hj (Nat.not_lt_zero _))] at h; omega
  | cons a l ih =>
    by_cases ha : p a = true
    · refine ⟨0, a, ?_, rfl, ha, fun j x hj => absurd hj (Nat.not_lt_zero _)⟩
      have := idxI_hit (p := p) (l := a :: l) (k := 0) (d := a) (fun j x hj => absurd hj (Nat.not_lt_zero _)) rfl ha
      simpa using this
    · have hf : p a = false := by simpa using ha
      by_cases hall : ∃ (k : Nat) (d : D), l[k]? = some d ∧ p d = true
      · have : l.any p = true := by obtain ⟨k, d, h1, h2⟩ := hall; exact List.any_eq_true.2 ⟨d, List.mem_of_getElem? h1, h2⟩
        rw [← idxI_any] at this
        obtain ⟨k, d, h1, h2, h3, h4⟩ := ih (by simpa using this)
        have hm : ∀ j x, j < k + 1 → (a :: l)[j]? = some x → p x = false := by
          intro j x hj hx
          cases j with
          | zero => simp at hx; subst hx; exact hf
          | succ j => exact h4 j x (by omega) (by simpa using hx)
        exact ⟨k + 1, d, idxI_hit hm (by simpa using h2) h3, by simpa using h2, h3, hm⟩
      · exfalso
        have hm : ∀ j x, j < (a :: l).length → (a :: l)[j]? = some x → p x = false := by
          intro j x _ hx
          cases j with
          | zero => simp at hx; subst hx; exact hf
          | succ j =>
            cases hp : p x with
            | false => rfl
            | true => exact absurd ⟨j, x, by simpa using hx, hp⟩ hall
        have := idxI_miss hm
        omega
theorem kFind_neg {l : List Knd} {s : ByteArray} (h : kFind l s < 0) : ∀ k ∈ l, k.name ≠ s := by
  intro k hk e
  have : l.any (fun k => decide (k.name = s)) = true := List.any_eq_true.2 ⟨k, hk, by simpa using e⟩
  rw [← idxI_any] at this
  unfold kFind at h
  simp at this
  omega
theorem kFind_pos {l : List Knd} {s : ByteArray} (h : 0 ≤ kFind l s) : ∃ (i : Nat) (k : Knd), kFind l s = i ∧ l[i]? = some k ∧ k.name = s ∧ ∀ j x, j < i → l[j]? = some x → x.name ≠ s := by
  obtain ⟨k, d, h1, h2, h3, h4⟩ := idxI_nonneg h
  exact ⟨k, d, h1, h2, by simpa using h3, fun j x hj hx => by simpa using h4 j x hj hx⟩
theorem kFind_mem {l : List Knd} {k : Knd} (h : k ∈ l) : 0 ≤ kFind l k.name := by
  rcases Int.lt_or_le (kFind l k.name) 0 with h0 | h0
  · exact absurd rfl (kFind_neg h0 k h)
  · exact h0
theorem find_of_kFind {l : List Knd} {s : ByteArray} {i : Nat} {k : Knd} (h1 : kFind l s = i) (h2 : l[i]? = some k) : l.find? (fun k => decide (k.name = s)) = some k := by
  obtain ⟨i', k', e1, e2, e3, e4⟩ := kFind_pos (l := l) (s := s) (by rw [h1]; omega)
  have : i' = i := by omega
  subst this
  rw [h2] at e2
  injection e2 with e2
  subst e2
  rw [List.find?_eq_some_iff_getElem]
  obtain ⟨hl, hk⟩ := List.getElem?_eq_some_iff.1 h2
  exact ⟨by simpa using e3, i', hl, hk, fun j hj => by simpa using e4 j _ hj (List.getElem?_eq_getElem _)⟩

/-! ### Kinds that are right -/
/-- Each of another name; each comes of what stands ahead. -/
def Wf (l : List Knd) : Prop := ∀ (i : Nat) k, l[i]? = some k → (∀ (j : Nat) x, j < i → l[j]? = some x → x.name ≠ k.name) ∧ (∀ s ∈ k.ofs, ∃ (j : Nat) (x : Knd), j < i ∧ l[j]? = some x ∧ x.name = s)
theorem ofsE_zero {l : List Knd} : ∀ {r p : List ByteArray}, ofsE l p r = 0 → ∀ s ∈ r, 0 ≤ kFind l s
  | [], _, _, s, hs => by simp at hs
  | t :: r, p, h, s, hs => by
    rw [ofsE] at h
    split at h
    · omega
    · split at h
      · omega
      · rename_i h1 _
        rcases List.mem_cons.1 hs with rfl | hs
        · omega
        · exact ofsE_zero h s hs
structure OneOk (l : List Knd) (k : Knd) : Prop where
  nm : nameE k.name = 0
  new : kFind l k.name < 0
  ofl : k.ofs.length ≤ 4
  fll : k.fields.length ≤ 8
  ofs : ofsE l [] k.ofs = 0
  fls : fldsE none k.fields = 0
  all : ∃ fs, fieldsOf (l ++ [k]) k.name = some fs ∧ fs.length ≤ 8
theorem oneE_zero {l : List Knd} {k : Knd} (h : oneE l k = 0) : OneOk l k := by
  unfold oneE at h
  by_cases h1 : nameE k.name = 0
  · rw [if_pos h1] at h
    by_cases h2 : 0 ≤ kFind l k.name
    · rw [if_pos h2] at h; omega
    rw [if_neg h2] at h
    by_cases h3 : 4 < k.ofs.length
    · rw [if_pos h3] at h; omega
    rw [if_neg h3] at h
    by_cases h4 : 8 < k.fields.length
    · rw [if_pos h4] at h; omega
    rw [if_neg h4] at h
    by_cases h5 : ofsE l [] k.ofs = 0
    · rw [if_pos h5] at h
      by_cases h6 : fldsE none k.fields = 0
      · rw [if_pos h6] at h
        cases h7 : fieldsOf (l ++ [k]) k.name with
        | none => rw [h7] at h; simp [sumE] at h
        | some fs =>
          rw [h7] at h
          simp only [sumE] at h
          split at h
          · omega
          · exact ⟨h1, by omega, by omega, by omega, h5, h6, fs, h7, by omega⟩
      · rw [if_neg h6] at h; exact absurd h h6
    · rw [if_neg h5] at h; exact absurd h h5
  · rw [if_neg h1] at h; exact absurd h h1
theorem kindsE_zero : ∀ {r p : List Knd}, (kindsE p r).2 = 0 → ∀ (i : Nat) k, r[i]? = some k → OneOk (p ++ r.take i) k
  | [], _, _, i, k, h => by simp at h
  | x :: r, p, h, i, k, hk => by
    rw [kindsE] at h
    split at h
    · rename_i h0
      cases i with
      | zero => simp at hk; subst hk; simpa using oneE_zero h0
      | succ i =>
        have := kindsE_zero h i k (by simpa using hk)
        simpa using this
    · rename_i h0; exact absurd h h0
structure Right (l : List Knd) : Prop where
  len : l.length ≤ 12
  one : ∀ (i : Nat) k, l[i]? = some k → OneOk (l.take i) k
theorem checkE_zero {l : List Knd} (h : (checkE l).2 = 0) : Right l := by
  unfold checkE at h
  split at h
  · simp at h
  · exact ⟨by omega, fun i k hk => by simpa using kindsE_zero h i k hk⟩
theorem take_get {D : Type} {l : List D} {i j : Nat} {x : D} (h : j < i) (hx : l[j]? = some x) : (l.take i)[j]? = some x := by rw [List.getElem?_take, if_pos h, hx]
theorem Right.wf {l : List Knd} (h : Right l) : Wf l := by
  intro i k hk
  have ho := h.one i k hk
  refine ⟨fun j x hj hx => kFind_neg ho.new x (List.mem_of_getElem? (take_get hj hx)), fun s hs => ?_⟩
  obtain ⟨j, x, h1, h2, h3, _⟩ := kFind_pos (ofsE_zero ho.ofs s hs)
  rw [List.getElem?_take] at h2
  split at h2
  · exact ⟨j, x, by assumption, h2, h3⟩
  · cases h2
theorem Right.take {l : List Knd} (h : Right l) (n : Nat) : Right (l.take n) := by
  refine ⟨by have := h.len; simp; omega, fun i k hk => ?_⟩
  rw [List.getElem?_take] at hk
  split at hk
  · have := h.one i k hk
    rw [List.take_take, Nat.min_eq_left (by omega)]; exact this
  · cases hk
theorem Wf.take {l : List Knd} (h : Wf l) (n : Nat) : Wf (l.take n) := by
  intro i k hk
  rw [List.getElem?_take] at hk
  split at hk
  · rename_i hin
    obtain ⟨h1, h2⟩ := h i k hk
    refine ⟨fun j x hj hx => ?_, fun s hs => ?_⟩
    · rw [List.getElem?_take] at hx
      split at hx
      · exact h1 j x hj hx
      · cases hx
    · obtain ⟨j, x, e1, e2, e3⟩ := h2 s hs
      exact ⟨j, x, e1, take_get (by omega) e2, e3⟩
  · cases hk

/-! ### Kin -/
def kinFrom (l : List Knd) (S : ByteArray → Bool) : ByteArray → Bool := l.foldr (fun k S => kinStep S k) S
theorem kinSet_eq (l : List Knd) (name : ByteArray) : kinSet l name = kinFrom l (fun s => decide (name = s)) := rfl
theorem kinFrom_append (p q : List Knd) (S : ByteArray → Bool) : kinFrom (p ++ q) S = kinFrom p (kinFrom q S) := by unfold kinFrom; rw [List.foldr_append]
theorem kinStep_mono {S : ByteArray → Bool} {k : Knd} {s : ByteArray} (h : S s = true) : kinStep S k s = true := by unfold kinStep; split <;> simp [h]
theorem kinFrom_mono : ∀ {l : List Knd} {S : ByteArray → Bool} {s : ByteArray}, S s = true → kinFrom l S s = true
  | [], _, _, h => h
  | _ :: l, S, _, h => kinStep_mono (S := kinFrom l S) (kinFrom_mono (l := l) h)
theorem kinStep_inv {S : ByteArray → Bool} {k : Knd} {s : ByteArray} (h : kinStep S k s = true) : S s = true ∨ s ∈ k.ofs := by
  unfold kinStep at h
  split at h
  · simp only [Bool.or_eq_true, List.any_eq_true, decide_eq_true_eq] at h
    rcases h with h | ⟨o, ho, rfl⟩
    · exact .inl h
    · exact .inr ho
  · exact .inl h
theorem kinFrom_inv : ∀ {l : List Knd} {S : ByteArray → Bool} {s : ByteArray}, kinFrom l S s = true → S s = true ∨ ∃ k ∈ l, s ∈ k.ofs
  | [], _, _, h => .inl h
  | k :: l, S, s, h => by
    rcases kinStep_inv (S := kinFrom l S) h with h | h
    · rcases kinFrom_inv (l := l) h with h | ⟨x, hx, h⟩
      · exact .inl h
      · exact .inr ⟨x, List.mem_cons_of_mem _ hx, h⟩
    · exact .inr ⟨k, List.mem_cons_self .., h⟩
/-- Closed under what kinds come of. -/
def Closed (l : List Knd) (T : ByteArray → Bool) : Prop := ∀ k ∈ l, T k.name = true → ∀ o ∈ k.ofs, T o = true
theorem kinFrom_least : ∀ {l : List Knd} {S T : ByteArray → Bool}, Closed l T → (∀ s, S s = true → T s = true) → ∀ s, kinFrom l S s = true → T s = true
  | [], _, _, _, h, s, hs => h s hs
  | k :: l, S, T, hc, h, s, hs => by
    have ih := kinFrom_least (l := l) (S := S) (T := T) (fun x hx => hc x (List.mem_cons_of_mem _ hx)) h
    have hs : kinStep (kinFrom l S) k s = true := hs
    unfold kinStep at hs
    split at hs
    · rename_i hk
      simp only [Bool.or_eq_true, List.any_eq_true, decide_eq_true_eq] at hs
      rcases hs with hs | ⟨o, ho, rfl⟩
      · exact ih s hs
      · exact hc k (List.mem_cons_self ..) (ih _ hk) o ho
    · exact ih s hs
theorem kinFrom_closed {l : List Knd} (hw : Wf l) : ∀ (n : Nat) (S : ByteArray → Bool), Closed (l.take n) (kinFrom (l.take n) S)
  | 0, S => by intro k hk; simp at hk
  | n + 1, S => by
    by_cases hn : n < l.length
    · have hx : l[n]? = some l[n] := List.getElem?_eq_getElem hn
      have ht : l.take (n + 1) = l.take n ++ [l[n]] := by rw [List.take_add_one, hx]; rfl
      generalize l[n] = x at hx ht
      have hS : kinFrom [x] S = kinStep S x := rfl
      rw [ht, kinFrom_append, hS]
      obtain ⟨hw1, hw2⟩ := hw n x hx
      intro k hk hkn o ho
      rcases List.mem_append.1 hk with hk | hk
      · exact kinFrom_closed hw n _ k hk hkn o ho
      · simp at hk
        subst hk
        have h1 : kinStep S k k.name = true := by
          rcases kinFrom_inv hkn with h | ⟨y, hy, h⟩
          · exact h
          · exfalso
            obtain ⟨i, hi⟩ := List.mem_iff_getElem?.1 hy
            rw [List.getElem?_take] at hi
            split at hi
            · obtain ⟨j, z, e1, e2, e3⟩ := (hw i y hi).2 _ h
              exact hw1 j z (by omega) e2 e3
            · cases hi
        have h2 : S k.name = true := by
          unfold kinStep at h1
          split at h1
          · assumption
          · exact h1
        refine kinFrom_mono ?_
        unfold kinStep
        rw [if_pos h2]
        simp only [Bool.or_eq_true, List.any_eq_true, decide_eq_true_eq]
        exact .inr ⟨o, ho, rfl⟩
    · have ht : l.take (n + 1) = l.take n := by rw [List.take_of_length_le (by omega), List.take_of_length_le (by omega)]
      rw [ht]
      exact kinFrom_closed hw n S
theorem kinSet_closed {l : List Knd} (hw : Wf l) (name : ByteArray) : Closed l (kinSet l name) := by
  have := kinFrom_closed hw l.length (fun s => decide (name = s))
  rw [List.take_length] at this
  exact this
theorem kinSet_self (l : List Knd) (name : ByteArray) : kinSet l name name = true := kinFrom_mono (by simp)
theorem mem_kinL {l : List Knd} {a s : ByteArray} : s ∈ kinL l a ↔ (∃ k ∈ l, k.name = s) ∧ kinSet l a s = true := by
  unfold kinL
  simp only [List.mem_map, List.mem_filter]
  constructor
  · rintro ⟨k, ⟨h1, h2⟩, rfl⟩; exact ⟨⟨k, h1, rfl⟩, h2⟩
  · rintro ⟨⟨k, h1, rfl⟩, h2⟩; exact ⟨k, ⟨h1, h2⟩, rfl⟩
/-! ### Fields -/
def fldsFor (l : List Knd) (s : ByteArray) : List Fld := match l.find? (fun k => decide (k.name = s)) with | some k => k.fields | none => []
theorem fieldsOf_eq (l : List Knd) (name : ByteArray) : fieldsOf l name = allF ((kinL l name).flatMap (fldsFor l)) := rfl
/-- What stands behind a kind turns nothing of its kin. -/
theorem kinSet_take {l : List Knd} (hw : Wf l) {i : Nat} {k : Knd} (hk : l[i]? = some k) : kinSet l k.name = kinSet (l.take (i + 1)) k.name := by
  rw [kinSet_eq, kinSet_eq]
  conv => lhs; rw [← List.take_append_drop (i + 1) l]
  rw [kinFrom_append]
  congr 1
  have : ∀ q : List Knd, (∀ x ∈ q, x.name ≠ k.name) → kinFrom q (fun s => decide (k.name = s)) = fun s => decide (k.name = s) := by
    intro q
    induction q with
    | nil => intro _; rfl
    | cons y q ih =>
      intro hq
      have h1 := ih (fun x hx => hq x (List.mem_cons_of_mem _ hx))
      show kinStep (kinFrom q _) y = _
      rw [h1]
      unfold kinStep
      rw [if_neg]
      have := hq y (List.mem_cons_self ..)
      simpa using fun e => this e.symm
  refine this _ fun x hx => ?_
  obtain ⟨j, hj⟩ := List.mem_iff_getElem?.1 hx
  rw [List.getElem?_drop] at hj
  intro e
  exact (hw _ x hj).1 i k (by omega) hk e.symm
theorem kinL_take {l : List Knd} (hw : Wf l) {i : Nat} {k : Knd} (hk : l[i]? = some k) : kinL l k.name = kinL (l.take (i + 1)) k.name := by
  unfold kinL
  rw [← kinSet_take hw hk]
  have hsp : l.filter (fun x => kinSet l k.name x.name) = (l.take (i + 1)).filter (fun x => kinSet l k.name x.name) ++ (l.drop (i + 1)).filter (fun x => kinSet l k.name x.name) := by
    rw [← List.filter_append, List.take_append_drop]
  rw [hsp]
  have : (l.drop (i + 1)).filter (fun x => kinSet l k.name x.name) = [] := by
    rw [List.filter_eq_nil_iff]
    intro x hx hs
    obtain ⟨j, hj⟩ := List.mem_iff_getElem?.1 hx
    rw [List.getElem?_drop] at hj
    rw [kinSet_take hw hk, kinSet_eq] at hs
    rcases kinFrom_inv hs with h | ⟨y, hy, h⟩
    · simp at h
      exact (hw _ x hj).1 i k (by omega) hk h
    · obtain ⟨m, hm⟩ := List.mem_iff_getElem?.1 hy
      rw [List.getElem?_take] at hm
      split at hm
      · obtain ⟨n, z, e1, e2, e3⟩ := (hw m y hm).2 _ h
        exact (hw _ x hj).1 n z (by omega) e2 e3
      · cases hm
  rw [this, List.append_nil]
theorem fldsFor_take {l : List Knd} {n : Nat} {s : ByteArray} (h : ∃ k ∈ l.take n, k.name = s) : fldsFor l s = fldsFor (l.take n) s := by
  unfold fldsFor
  have : l.find? (fun k => decide (k.name = s)) = (l.take n).find? (fun k => decide (k.name = s)) := by
    conv => lhs; rw [← List.take_append_drop n l]
    rw [List.find?_append]
    have hs : ((l.take n).find? (fun k => decide (k.name = s))).isSome := by
      rw [List.find?_isSome]
      obtain ⟨k, h1, h2⟩ := h
      exact ⟨k, h1, by simpa using h2⟩
    obtain ⟨y, hy⟩ := Option.isSome_iff_exists.1 hs
    rw [hy]; rfl
  rw [this]
theorem flatMap_congr {A B : Type} {l : List A} {f g : A → List B} (h : ∀ x ∈ l, f x = g x) : l.flatMap f = l.flatMap g := by
  induction l with
  | nil => rfl
  | cons a l ih =>
    rw [List.flatMap_cons, List.flatMap_cons, h a (List.mem_cons_self ..), ih fun x hx => h x (List.mem_cons_of_mem _ hx)]
theorem fieldsOf_take {l : List Knd} (hw : Wf l) {i : Nat} {k : Knd} (hk : l[i]? = some k) : fieldsOf l k.name = fieldsOf (l.take (i + 1)) k.name := by
  rw [fieldsOf_eq, fieldsOf_eq, kinL_take hw hk]
  congr 1
  exact flatMap_congr fun s hs => fldsFor_take (mem_kinL.1 hs).1
theorem Right.fields {l : List Knd} (h : Right l) {k : Knd} (hk : k ∈ l) : ∃ fs, fieldsOf l k.name = some fs ∧ fs.length ≤ 8 := by
  obtain ⟨i, hi⟩ := List.mem_iff_getElem?.1 hk
  obtain ⟨fs, h1, h2⟩ := (h.one i k hi).all
  refine ⟨fs, ?_, h2⟩
  rw [fieldsOf_take h.wf hi, List.take_add_one, hi]
  exact h1
end Go.Proofs.YtfeccicogcnhcaaGreatDoor
