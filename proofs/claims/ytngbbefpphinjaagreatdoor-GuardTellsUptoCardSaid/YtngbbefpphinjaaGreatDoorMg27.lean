/- Parts: DwK, CkP, CkF, CkL, CkM. -/
import Derived.Test.YtngbbefpphinjaaGreatDoorMg14
import Derived.Test.YtngbbefpphinjaaGreatDoorMg04
import Derived.Test.YtngbbefpphinjaaGreatDoorMg21
import Derived.Test.YtngbbefpphinjaaGreatDoorMg26
import Derived.Test.YtngbbefpphinjaaGreatDoorMg15
import Derived.Test.YtngbbefpphinjaaGreatDoorMg01
import Derived.Test.YtngbbefpphinjaaGreatDoorMg07
/- Plain: the fields of a kind; a node by itself; keys. No condition. -/
namespace Go.Proofs.YtngbbefpphinjaaGreatDoor
open Go Go.RowKit
theorem allF_rise : ∀ {fs acc out : List Fld}, fs.foldlM putF acc = some out -> Rise acc -> Rise out
 | [], acc, out, h, hr => by
  simp only [List.foldlM_nil] at h
  injection h with h; subst h; exact hr
 | f :: fs, acc, out, h, hr => by
  rw [List.foldlM_cons] at h
  cases hp : putF acc f with
  | none => rw [hp] at h; cases h
  | some acc' => rw [hp] at h; exact allF_rise (show fs.foldlM putF acc' = some out from h) (putF_rise hr hp)
theorem Rise.uniq {l : List Fld} (h : Rise l) {x y : Fld} (hx : x ∈ l) (hy : y ∈ l) (he : x.name = y.name) : x = y := by
 obtain ⟨i, hi, rfl⟩ := List.mem_iff_getElem.1 hx
 obtain ⟨j, hj, rfl⟩ := List.mem_iff_getElem.1 hy
 rcases Nat.lt_trichotomy i j with h' | h' | h'
 ·have := List.pairwise_iff_getElem.1 h i j hi hj h'
  rw [he, cmpS_zero.2 rfl] at this; omega
 ·subst h'; rfl
 have := List.pairwise_iff_getElem.1 h j i hj hi h'
 rw [he, cmpS_zero.2 rfl] at this; omega
theorem kfl_some {s : Scm} (h : Right s.kinds) {k : Knd} (hk : k ∈ s.kinds) : fieldsOf s.kinds k.name = some (kfl s k.name) := by
 obtain ⟨fs, h1, _⟩ := h.fields hk
 unfold kfl
 rw [if_neg (by have := kFind_mem hk; omega), h1]
 rfl
theorem kfl_rise {s : Scm} (h : Right s.kinds) {k : Knd} (hk : k ∈ s.kinds) : Rise (kfl s k.name) :=
 allF_rise (kfl_some h hk) List.Pairwise.nil
theorem tyF_aux (s : ByteArray) : ∀ (fs : List Fld) (F : ByteArray -> Int), ((fs.foldl (fun F f => fun s => if f.name = s then f.ty else F s) F) s = F s /\ ∀ f ∈ fs, f.name ≠ s) \/ ∃ f ∈ fs, f.name = s /\ (fs.foldl (fun F f => fun s => if f.name = s then f.ty else F s) F) s = f.ty
 | [], F => .inl ⟨rfl, by simp⟩
 | f :: r, F => by
  rcases tyF_aux s r (fun s => if f.name = s then f.ty else F s) with ⟨h1, h2⟩ | ⟨x, hx, h1, h2⟩
  ·by_cases h : f.name = s
   ·exact .inr ⟨f, by simp, h, by rw [List.foldl_cons, h1, if_pos h]⟩
   exact .inl ⟨by rw [List.foldl_cons, h1, if_neg h], fun x hx => by
    rcases List.mem_cons.1 hx with rfl | hx
    ·exact h
    exact h2 x hx⟩
  exact .inr ⟨x, by simp [hx], h1, h2⟩
theorem tyF_cases (fs : List Fld) (s : ByteArray) : (tyF fs s = 0 /\ ∀ f ∈ fs, f.name ≠ s) \/ ∃ f ∈ fs, f.name = s /\ tyF fs s = f.ty := tyF_aux s fs _
theorem firstE_zero {D : Type} {f : D -> Int} : ∀ {l : List D}, firstE f l = 0 -> ∀ x ∈ l, f x = 0
 | [], _, _, h => by cases h
 | d :: r, h, x, hx => by
  rw [firstE] at h
  split at h
  ·rename_i h0
   rcases List.mem_cons.1 hx with rfl | hx
   ·exact h0
   exact firstE_zero h x hx
  rename_i h0; exact absurd h h0
theorem nodE_types {n : Nod} (h : nodE n = 0) : ∀ p ∈ n.props, p.v.ty ≠ 0 := by
 have h1 : recE n.props = 0 := by
  unfold nodE at h
  split at h
  ·omega
  split at h
  ·exact h
  rename_i h0; exact absurd h h0
 have h2 : firstE prpE n.props = 0 := by
  unfold recE at h1
  split at h1
  ·omega
  split at h1
  ·assumption
  rename_i h0; exact absurd h1 h0
 intro p hp e
 have h3 := firstE_zero h2 p hp
 have h4 : valE p.v = 0 := by
  unfold prpE at h3
  split at h3
  ·exact h3
  rename_i h0; exact absurd h3 h0
 unfold valE at h4
 rw [e] at h4
 simp at h4
theorem keyOf_iff {n : Nod} {f : Fld} {k : Key} : keyOf n f = some k ↔ f.key = true /\ rhas n.props f.name = true /\ ∃ p, n.props[rpos n.props f.name]? = some p /\ p.v.ty = f.ty /\ k = ⟨f.name, p.v⟩ := by
 unfold keyOf
 split
 ·rename_i p hp
  constructor
  ·intro h
   split at h
   ·rename_i h0; injection h with h; exact ⟨h0.1, h0.2.1, p, hp, h0.2.2, h.symm⟩
   cases h
  rintro ⟨h1, h2, q, hq, h3, rfl⟩
  rw [hp] at hq; injection hq with hq; subst hq
  rw [if_pos ⟨h1, h2, h3⟩]
 rename_i hp
 constructor
 ·intro h; cases h
 rintro ⟨_, _, q, hq, _⟩; rw [hp] at hq; cases hq
theorem rhas_get {r : List Prp} {nm : ByteArray} (h : rhas r nm = true) {p : Prp} (hp : r[rpos r nm]? = some p) : p.name = nm := by
 unfold rhas eqAt at h
 rw [hp] at h
 have : prpC nm p = 0 := by simpa using h
 exact cmpS_zero.1 this
theorem rhas_of {r : List Prp} (hc : chain prpLt r = true) {p : Prp} (hp : p ∈ r) : rhas r p.name = true := by
 obtain ⟨i, hi⟩ := List.mem_iff_getElem?.1 hp
 have h0 : prpC p.name p = 0 := cmpS_zero.2 rfl
 have hle : rpos r p.name <= i := by
  rcases Nat.lt_or_ge i (rpos r p.name) with h | h
  ·have := low_lt (c := prpC p.name) h hi; omega
  exact h
 have hlt : rpos r p.name < r.length := by have := (List.getElem?_eq_some_iff.1 hi).1; omega
 obtain ⟨m, hm⟩ : ∃ m, r[rpos r p.name]? = some m := ⟨_, List.getElem?_eq_getElem hlt⟩
 have h1 := low_ge (c := prpC p.name) hc (prpC_mono p.name) (Nat.le_refl _) hm
 have h2 : ¬ 0 < prpC p.name m := by
  intro h
  have hb : ∀ a b : Prp, prpLt a b = true -> 0 <= (if 0 < prpC p.name a then (0 : Int) else -1) -> 0 <= (if 0 < prpC p.name b then (0 : Int) else -1) := by
   intro a b hab ha
   unfold prpLt at hab
   rw [ltS_cmp] at hab
   simp only [decide_eq_true_eq] at hab
   split at ha
   ·rename_i ha0
    have e1 := cmpS_anti p.name a.name
    have e2 := cmpS_anti p.name b.name
    unfold prpC at ha0 ⊢
    have := cmpS_trans (a := p.name) (b := a.name) (c := b.name) (by omega) hab
    rw [if_pos (by omega)]
    omega
   omega
  have hl : lowI (fun q => if 0 < prpC p.name q then (0 : Int) else -1) r <= rpos r p.name := by
   rcases Nat.lt_or_ge (rpos r p.name) (lowI (fun q => if 0 < prpC p.name q then (0 : Int) else -1) r) with h' | h'
   ·have := low_lt h' hm
    simp only [if_pos h] at this
    omega
   exact h'
  have := low_ge (c := fun q => if 0 < prpC p.name q then (0 : Int) else -1) hc hb (Nat.le_trans hl hle) hi
  have h3 : ¬ 0 < prpC p.name p := by omega
  rw [if_neg h3] at this
  omega
 unfold rhas eqAt
 rw [hm]
 have : prpC p.name m = 0 := by omega
 simp [this]
theorem rhas_at {r : List Prp} (hc : chain prpLt r = true) (nm : ByteArray) : rhas r nm = decide (0 <= atI r nm) := by
 unfold atI
 rw [idxI_any, Bool.eq_iff_iff, List.any_eq_true]
 constructor
 ·intro h
  obtain ⟨p, hp⟩ := rhas_some h
  exact ⟨p, List.mem_of_getElem? hp, by simp [rhas_get h hp]⟩
 rintro ⟨p, hp, he⟩
 rw [<- of_decide_eq_true he]
 exact rhas_of hc hp
theorem rpos_at {r : List Prp} (hc : chain prpLt r = true) {nm : ByteArray} (h : 0 <= atI r nm) : ∃ (i : Nat) (p : Prp), atI r nm = i /\ r[i]? = some p /\ p.name = nm /\ rhas r nm = true /\ ∃ q, r[rpos r nm]? = some q /\ q = p := by
 obtain ⟨i, p, h1, h2, h3, _⟩ := idxI_nonneg h
 have h3 : p.name = nm := of_decide_eq_true h3
 have hh : rhas r nm = true := by rw [rhas_at hc]; exact decide_eq_true h
 obtain ⟨q, hq⟩ := rhas_some hh
 refine ⟨i, p, h1, h2, h3, hh, q, hq, ?_⟩
 have hqn := rhas_get hh hq
 have hch : ∀ {i j : Nat} {a b : Prp}, i < j -> r[i]? = some a -> r[j]? = some b -> cmpS a.name b.name < 0 := by
  intro i j
  induction j with
  | zero => intro a b h; omega
  | succ j ih =>
   intro a b h ha hb
   have hj : j < r.length := by have := (List.getElem?_eq_some_iff.1 hb).1; omega
   have g1 := chain_iff.1 hc j r[j] b (List.getElem?_eq_getElem hj) hb
   unfold prpLt at g1
   rw [ltS_cmp] at g1
   simp only [decide_eq_true_eq] at g1
   rcases Nat.lt_or_ge i j with g2 | g2
   ·exact cmpS_trans (ih (b := r[j]) g2 ha (List.getElem?_eq_getElem hj)) g1
   obtain rfl : i = j := by omega
   have := ha.symm.trans (List.getElem?_eq_getElem hj)
   cases this
   exact g1
 rcases Nat.lt_trichotomy i (rpos r nm) with g | g | g
 ·have := hch g h2 hq; rw [h3, hqn, cmpS_zero.2 rfl] at this; omega
 ·subst g; rw [h2] at hq; injection hq with hq; exact hq.symm
 have := hch g hq h2; rw [h3, hqn, cmpS_zero.2 rfl] at this; omega
/-! ### A node by itself, as the document has it -/
def hasT (fs : List Fld) (p : Prp) : Bool := fs.any fun f => decide (f.name = p.name) && decide (f.ty = p.v.ty)
def rAloneF (s : Scm) (n : Nod) : List Flt := if kFind s.kinds n.kind < 0 then [⟨1, n.id, n.kind⟩] else
 (n.props.filter fun p => !hasT (kfl s n.kind) p).map (fun p => ⟨2, n.id, p.name⟩) ++ ((kfl s n.kind).filter fun f => f.must && decide (atI n.props f.name < 0)).map (fun f => ⟨3, n.id, f.name⟩)
theorem rAlone_eq {s : Scm} {n : Nod} (hr : Right s.kinds) (hn : nodE n = 0) (hc : chain prpLt n.props = true) : rAloneF s n = aloneF s n := by
 unfold rAloneF aloneF
 by_cases hk : kFind s.kinds n.kind < 0
 ·rw [if_pos hk, if_pos hk]
 rw [if_neg hk, if_neg hk]
 obtain ⟨i, k, _, e2, e3, _⟩ := kFind_pos (by omega : 0 <= kFind s.kinds n.kind)
 have hri := kfl_rise hr (List.mem_of_getElem? e2)
 rw [e3] at hri
 unfold recF
 congr 2
 ·refine List.filter_congr fun p hp => ?_
  unfold badF
  congr 1
  rw [Bool.eq_iff_iff, decide_eq_true_eq]
  unfold hasT
  rw [List.any_eq_true]
  constructor
  ·rintro ⟨f, hf, h⟩
   simp only [Bool.and_eq_true, decide_eq_true_eq] at h
   rcases tyF_cases (kfl s n.kind) p.name with ⟨_, h2⟩ | ⟨x, hx, h1, h2⟩
   ·exact absurd h.1 (h2 f hf)
   rw [h2, hri.uniq hx hf (h1.trans h.1.symm)]; exact h.2
  intro h
  rcases tyF_cases (kfl s n.kind) p.name with ⟨h1, _⟩ | ⟨x, hx, h1, h2⟩
  ·exact absurd (h.symm.trans h1) (nodE_types hn p hp)
  exact ⟨x, hx, by simp [h1, <- h2, h]⟩
 refine List.filter_congr fun f _ => ?_
 unfold lackF
 rw [rhas_at hc]
 congr 1
 by_cases h : 0 <= atI n.props f.name
 ·rw [decide_eq_true h, decide_eq_false (by omega)]; rfl
 rw [decide_eq_false h, decide_eq_true (by omega)]; rfl
def keyB (n : Nod) (nm : ByteArray) (f : Fld) : Bool := decide (f.name = nm) && f.key && decide (0 <= atI n.props nm) && (match n.props[(atI n.props nm).toNat]? with | some p => decide (p.v.ty = f.ty) | none => false)
def rKey (s : Scm) (n : Nod) (nm : ByteArray) : Option Val := if kFind s.kinds n.kind < 0 then none else
 if (kfl s n.kind).any (keyB n nm) = true then (n.props[(atI n.props nm).toNat]?).map (·.v) else none
theorem rKey_eq {s : Scm} {n : Nod} (hr : Right s.kinds) (hc : chain prpLt n.props = true) (hk : ¬ kFind s.kinds n.kind < 0) {f : Fld} (hf : f ∈ kfl s n.kind) : keyOf n f = (rKey s n f.name).map fun v => ⟨f.name, v⟩ := by
 obtain ⟨i, k, _, e2, e3, _⟩ := kFind_pos (by omega : 0 <= kFind s.kinds n.kind)
 have hri := kfl_rise hr (List.mem_of_getElem? e2)
 rw [e3] at hri
 unfold rKey
 rw [if_neg hk]
 by_cases h0 : 0 <= atI n.props f.name
 ·obtain ⟨j, p, h1, h2, h3, h4, q, h5, rfl⟩ := rpos_at hc h0
  have hany : (kfl s n.kind).any (keyB n f.name) = (f.key && decide (q.v.ty = f.ty)) := by
   unfold keyB
   rw [h1, Int.toNat_natCast, h2, Bool.eq_iff_iff, List.any_eq_true]
   constructor
   ·rintro ⟨x, hx, h⟩
    simp only [Bool.and_eq_true, decide_eq_true_eq] at h
    have : x = f := hri.uniq hx hf h.1.1.1
    subst this
    simp [h.1.1.2, h.2]
   intro h
   simp only [Bool.and_eq_true, decide_eq_true_eq] at h
   exact ⟨f, hf, by simp [h.1, h.2]⟩
  rw [hany, h1, Int.toNat_natCast, h2]
  unfold keyOf
  rw [h5]
  simp only [h4, true_and, Bool.and_eq_true, decide_eq_true_eq]
  split <;> simp
 have hno : rhas n.props f.name = false := by rw [rhas_at hc]; exact decide_eq_false h0
 have hany : (kfl s n.kind).any (keyB n f.name) = false := by
  rw [List.any_eq_false]; intro x _; simp [keyB, h0]
 rw [hany]
 unfold keyOf
 split
 ·simp [hno]
 rfl
def oldF (n : Nod) (T : List Key) (f : Fld) : Bool := match keyOf n f with | some k => decide (k ∈ T) | none => false
theorem keyOf_name {n : Nod} {f : Fld} {k : Key} (h : keyOf n f = some k) : k.f = f.name := by
 obtain ⟨_, _, p, _, _, rfl⟩ := keyOf_iff.1 h
 rfl
theorem keys_told (n : Nod) : ∀ (l : List Fld) (F : List Flt) (T : List Key), Rise l ->
 (l.foldl (keyStep n) (F, T)).1 = F ++ (l.filter (oldF n T)).map (fun f => ⟨4, n.id, f.name⟩) /\ ∀ k, k ∈ (l.foldl (keyStep n) (F, T)).2 ↔ k ∈ T \/ ∃ f ∈ l, keyOf n f = some k
 | [], F, T, _ => by simp
 | f :: r, F, T, hr => by
  have hr' : Rise r := (List.pairwise_cons.1 hr).2
  have hne : ∀ x ∈ r, x.name ≠ f.name := fun x hx e => by
   have := (List.pairwise_cons.1 hr).1 x hx
   rw [e, cmpS_zero.2 rfl] at this; omega
  rw [List.foldl_cons]
  cases hk : keyOf n f with
  | none =>
   have e : keyStep n (F, T) f = (F, T) := by unfold keyStep; rw [hk]
   have ho : oldF n T f = false := by unfold oldF; rw [hk]
   obtain ⟨h1, h2⟩ := keys_told n r F T hr'
   rw [e, List.filter_cons_of_neg (by simp [ho])]
   refine ⟨h1, fun k => ?_⟩
   rw [h2 k]
   simp [hk]
  | some k0 =>
   by_cases hm : k0 ∈ T
   ·have e : keyStep n (F, T) f = (F ++ [⟨4, n.id, f.name⟩], T) := by unfold keyStep; rw [hk]; simp [hm]
    have ho : oldF n T f = true := by unfold oldF; rw [hk]; simp [hm]
    obtain ⟨h1, h2⟩ := keys_told n r (F ++ [⟨4, n.id, f.name⟩]) T hr'
    rw [e, List.filter_cons_of_pos ho]
    refine ⟨by rw [h1]; simp, fun k => ?_⟩
    rw [h2 k]
    constructor
    ·rintro (h | ⟨x, hx, h⟩)
     ·exact .inl h
     exact .inr ⟨x, by simp [hx], h⟩
    rintro (h | ⟨x, hx, h⟩)
    ·exact .inl h
    rcases List.mem_cons.1 hx with rfl | hx
    ·rw [hk] at h; injection h with h; subst h; exact .inl hm
    exact .inr ⟨x, hx, h⟩
   have e : keyStep n (F, T) f = (F, T ++ [k0]) := by unfold keyStep; rw [hk]; simp [hm]
   have ho : oldF n T f = false := by unfold oldF; rw [hk]; simp [hm]
   obtain ⟨h1, h2⟩ := keys_told n r F (T ++ [k0]) hr'
   have hf : r.filter (oldF n (T ++ [k0])) = r.filter (oldF n T) := by
    refine List.filter_congr fun x hx => ?_
    unfold oldF
    cases hx2 : keyOf n x with
    | none => rfl
    | some k =>
     have : k ≠ k0 := fun e => hne x hx (by rw [<- keyOf_name hx2, e, keyOf_name hk])
     simp [this]
   rw [e, List.filter_cons_of_neg (by simp [ho])]
   refine ⟨by rw [h1, hf], fun k => ?_⟩
   rw [h2 k]
   constructor
   ·rintro (h | ⟨x, hx, h⟩)
    ·rcases List.mem_append.1 h with h | h
     ·exact .inl h
     simp at h; subst h; exact .inr ⟨f, by simp, hk⟩
    exact .inr ⟨x, by simp [hx], h⟩
   rintro (h | ⟨x, hx, h⟩)
   ·exact .inl (by simp [h])
   rcases List.mem_cons.1 hx with rfl | hx
   ·rw [hk] at h; injection h with h; subst h; exact .inl (by simp)
   exact .inr ⟨x, hx, h⟩
theorem rKey_some {s : Scm} {n : Nod} (hr : Right s.kinds) (hc : chain prpLt n.props = true) {nm : ByteArray} {v : Val} : rKey s n nm = some v ↔ ∃ f ∈ kfl s n.kind, keyOf n f = some ⟨nm, v⟩ := by
 by_cases hk : kFind s.kinds n.kind < 0
 ·constructor
  ·intro h; unfold rKey at h; rw [if_pos hk] at h; cases h
  rintro ⟨f, hf, _⟩; unfold kfl at hf; rw [if_pos hk] at hf; cases hf
 constructor
 ·intro h
  have h0 := h
  unfold rKey at h
  rw [if_neg hk] at h
  by_cases ha : (kfl s n.kind).any (keyB n nm) = true
  ·obtain ⟨f, hf, h2⟩ := List.any_eq_true.1 ha
   unfold keyB at h2
   simp only [Bool.and_eq_true, decide_eq_true_eq] at h2
   refine ⟨f, hf, ?_⟩
   have hfn := h2.1.1.1
   rw [rKey_eq hr hc hk hf, hfn, h0]
   rfl
  rw [if_neg ha] at h; cases h
 rintro ⟨f, hf, h⟩
 have hn : nm = f.name := by have := keyOf_name h; exact this
 subst hn
 rw [rKey_eq hr hc hk hf] at h
 cases hq : rKey s n f.name with
 | none => rw [hq] at h; cases h
 | some u => rw [hq] at h; injection h with h; injection h with _ h; rw [h]
def rKeysF (s : Scm) (p : List Nod) (n : Nod) : List Flt := ((kfl s n.kind).filter fun f => match rKey s n f.name with | some v => p.any (fun m => decide (rKey s m f.name = some v)) | none => false).map (fun f => ⟨4, n.id, f.name⟩)
def rNodeF (s : Scm) (g : Grf) (p : List Nod) (n : Nod) : List Flt := rAloneF s n ++ if kFind s.kinds n.kind < 0 then [] else rKeysF s p n ++ s.bonds.flatMap (bondF s g n)
def KeysOf (s : Scm) (p : List Nod) (S : List Key) : Prop := ∀ k, k ∈ S ↔ ∃ m ∈ p, rKey s m k.f = some k.v
theorem rNode_eq {s : Scm} {g : Grf} {p : List Nod} {n : Nod} {S : List Key} (hr : Right s.kinds) (hn : nodE n = 0) (hc : chain prpLt n.props = true) (hS : KeysOf s p S) :
 (nodeF s g S n).1 = rNodeF s g p n /\ KeysOf s (p ++ [n]) (nodeF s g S n).2 := by
 unfold nodeF rNodeF
 rw [rAlone_eq hr hn hc]
 by_cases hk : kFind s.kinds n.kind < 0
 ·rw [if_pos hk, if_pos hk]
  refine ⟨by simp, fun k => ?_⟩
  rw [hS k]
  constructor
  ·rintro ⟨m, hm, h⟩; exact ⟨m, by simp [hm], h⟩
  rintro ⟨m, hm, h⟩
  rcases List.mem_append.1 hm with hm | hm
  ·exact ⟨m, hm, h⟩
  simp at hm; subst hm; unfold rKey at h; rw [if_pos hk] at h; cases h
 rw [if_neg hk, if_neg hk]
 obtain ⟨i, k, _, e2, e3, _⟩ := kFind_pos (by omega : 0 <= kFind s.kinds n.kind)
 have hri := kfl_rise hr (List.mem_of_getElem? e2)
 rw [e3] at hri
 obtain ⟨h1, h2⟩ := keys_told n (kfl s n.kind) [] S hri
 have h1' : (keysF n (kfl s n.kind) S).1 = rKeysF s p n := by
  unfold keysF
  rw [h1, List.nil_append]
  unfold rKeysF
  congr 1
  refine List.filter_congr fun f hf => ?_
  unfold oldF
  rw [rKey_eq hr hc hk hf]
  cases hq : rKey s n f.name with
  | none => rfl
  | some v =>
   simp only [Option.map_some]
   rw [Bool.eq_iff_iff, decide_eq_true_eq, hS, List.any_eq_true]
   constructor
   ·rintro ⟨m, hm, h⟩; exact ⟨m, hm, decide_eq_true h⟩
   rintro ⟨m, hm, h⟩; exact ⟨m, hm, of_decide_eq_true h⟩
 refine ⟨by rw [h1']; simp, fun k => ?_⟩
 show k ∈ (keysF n (kfl s n.kind) S).2 ↔ _
 unfold keysF
 rw [h2 k, hS k]
 constructor
 ·rintro (⟨m, hm, h⟩ | ⟨f, hf, h⟩)
  ·exact ⟨m, by simp [hm], h⟩
  exact ⟨n, by simp, (rKey_some hr hc).2 ⟨f, hf, h⟩⟩
 rintro ⟨m, hm, h⟩
 rcases List.mem_append.1 hm with hm | hm
 ·exact .inl ⟨m, hm, h⟩
 simp at hm; subst hm
 exact .inr ((rKey_some hr hc).1 h)
theorem Own.single {w : World} {D : Type} {n : Nat} {enc : D -> List Value} (hn : ∀ d, (enc d).length = n) (T : TypeId) (d : D) (B : Nat) (hB : B <= w.heap.size) (_hn0 : n <= 1000) : Own (w.alloc (.cells (enc d).toArray T)) B T n (.slice (some ⟨w.heap.size, 0, none⟩) 1 1) [d].length ([d].flatMap enc) := by
 refine ⟨by simp [hn], .inr ⟨w.heap.size, 0, 1, (enc d).toArray, rfl, hB, heap_alloc_new _ _, Nat.le_refl _, by unfold maxLen; omega, by simp [hn], ?_⟩⟩
 have : (enc d).length = n := hn d
 simp [<- this]
theorem any_snoc {D : Type} {l : List D} {k : Nat} {d : D} (p : D -> Bool) (h : l[k]? = some d) : (l.take (k + 1)).any p = ((l.take k).any p || p d) := by
 rw [take_snocF h, List.any_append]; simp
def RAloneR (s : Scm) (n : Nod) (w : World) (e : Ending) (w' : World) : Prop :=
 ∃ v, e = .returned v /\ Own w' w.heap.size 137 3 v (rAloneF s n).length ((rAloneF s n).flatMap Flt.enc) /\ (∀ x ∈ rAloneF s n, x.ok) /\ (rAloneF s n).length <= 1008 /\ Below w.heap.size w w'
set_option maxRecDepth 100000 in
set_option maxHeartbeats 16000000 in
theorem ralone_any (s : Scm) (n : Nod) (vk vb u : Value) (w : World) (hs : ScmR w vk vb s) (hu : Sl prpL w u n.props) (hid : I64 n.id) (hkd : Sm n.kind) (hr : Right s.kinds) (hpl : n.props.length <= 1000) :
 Calls Tryz.prog 58 #[.agg #[vk, vb], .agg #[.int .i64 n.id, .string n.kind, u]] w (RAloneR s n w) := by
 obtain ⟨i0, ei, ez, ez1, ez2⟩ := info_parts flt_info
 obtain ⟨A1, c1, rfl, _, _⟩ := hs.1.form
 obtain ⟨A2, c2, rfl, _, _⟩ := hs.2.form
 obtain ⟨A3, c3, rfl, _, _⟩ := hu.form
 obtain ⟨W0, hW0⟩ : ∃ W0, W0 = (w.alloc (.cells #[.slice A1 s.kinds.length c1, .slice A2 s.bonds.length c2] 61)).alloc (.cells #[.int .i64 n.id, .string n.kind, .slice A3 n.props.length c3] 29) := ⟨_, rfl⟩
 have hb0 : Below w.heap.size w W0 := by rw [hW0]; exact ((Below.refl _ _).alloc (Nat.le_refl _) _).alloc (by simp) _
 have g0 : W0.heap[w.heap.size]? = some (.cells #[.slice A1 s.kinds.length c1, .slice A2 s.bonds.length c2] 61 (0, 0)) := by
  rw [hW0, Below.heap_alloc _ _ _ (by simp)]; exact heap_alloc_new _ _
 have g1 : W0.heap[w.heap.size + 1]? = some (.cells #[.int .i64 n.id, .string n.kind, .slice A3 n.props.length c3] 29 (0, 0)) := by
  have := heap_alloc_new (w.alloc (.cells #[.slice A1 s.kinds.length c1, .slice A2 s.bonds.length c2] 61)) (.cells #[.int .i64 n.id, .string n.kind, .slice A3 n.props.length c3] 29); rw [hW0]; simpa using this
 have hW0' := hW0.symm
 have hw0 := hb0.size
 have x0 := block_cell g0 0
 have y0 := block_cell g1 0
 have y1 := block_cell g1 1
 have y2 := block_cell g1 2
 have X0 := Lib.hid x0
 have Y0 := Lib.hid y0
 have Y1 := Lib.hid y1
 have Y2 := Lib.hid y2
 have HID := Lib.hid hid
 have HKD := Lib.hid hkd
 have HU := Lib.hid (hu.below hb0)
 have hx := rkind_any s.kinds n.kind _ W0 (hs.below hb0).1
 have HF : Hid (0 <= kFind s.kinds n.kind -> Calls Tryz.prog 60 #[.slice A1 s.kinds.length c1, .string n.kind] W0 (FieldsR s.kinds n.kind W0)) := fun h => rfields_any s.kinds n.kind _ W0 (hs.below hb0).1 hr.wf h hr.len hr.ck.f
 have HNEG : Hid (kFind s.kinds n.kind < 0 -> rAloneF s n = [⟨1, n.id, n.kind⟩]) := fun h => by unfold rAloneF; rw [if_pos h]
 have HPOS : Hid (0 <= kFind s.kinds n.kind -> kfl s n.kind = (fieldsOf s.kinds n.kind).getD [] /\ rAloneF s n = (n.props.filter fun p => !hasT (kfl s n.kind) p).map (fun p => ⟨2, n.id, p.name⟩) ++ ((kfl s n.kind).filter fun f => f.must && decide (atI n.props f.name < 0)).map (fun f => ⟨3, n.id, f.name⟩)) := fun h => ⟨by unfold kfl; rw [if_neg (by omega)], by unfold rAloneF; rw [if_neg (by omega)]⟩
 have hfl8 := kfl_len hr n.kind
 generalize kFind s.kinds n.kind = z at *
 unfold RAloneR
 generalize rAloneF s n = RA at *
 clear hs hu g0 g1 hW0 hid hkd hr
 go_enter Tryz.func58, Tryz.ntmps58
 go_wp2_with fail
 clear hW0'
 refine hx.mono ?_
 clear hx x0 y0 y1 y2
 rintro e W1 ⟨rfl, rfl⟩
 by_cases hz : z < 0
 ·have HE := Lib.hid (HNEG.out hz)
  have hzd : decide (z < 0) = true := decide_eq_true hz
  have y0 := Y0.out
  have y1 := Y1.out
  clear HF HPOS HNEG hz
  go_wp2_with fail
  go_ret
  refine ⟨_, rfl, ?_, ?_, ?_, hb0.alloc hw0 _⟩
  ·rw [HE.out]; exact Own.single Flt.enc_len 137 (⟨1, n.id, n.kind⟩ : Flt) w.heap.size hw0 (by omega)
  ·rw [HE.out]; intro x hx; simp at hx; subst hx; exact ⟨⟨by show (-9223372036854775808 : Int) <= 1; omega, by show (1 : Int) <= 9223372036854775807; omega⟩, HID.out, HKD.out⟩
  rw [HE.out]; simp
 have hzd : decide (z < 0) = false := decide_eq_false hz
 obtain ⟨hkf, hRA⟩ := HPOS.out (by omega)
 have hfx := HF.out (by omega)
 unfold FieldsR at hfx
 rw [<- hkf] at hfx
 generalize kfl s n.kind = fs at *
 have HRA := Lib.hid hRA
 have x0 := X0.out
 have y1 := Y1.out
 clear HF HPOS HNEG hz hkf hRA
 go_wp2_with fail
 refine hfx.mono ?_
 clear hfx x0 y1
 rintro e W2 ⟨uf, rfl, huf, hb2⟩
 obtain ⟨Af, cf, rfl, _, _⟩ := huf.form
 have HUF := Lib.hid huf
 have hB2 := hb0.trans (hb2.mono hw0)
 have hfl' : (fs.length : Int) <= 8 := by omega
 have hpl' : (n.props.length : Int) <= 1000 := by omega
 have y2 := cell_below hb2 Y2.out
 clear huf
 go_wp2_with fail
 go_loopw [5, 8] (fun ov i wr => ∃ k : Nat, k <= n.props.length /\ i = .int .i64 k /\ Below W2.heap.size W2 wr /\ Own wr W2.heap.size 137 3 ov (((n.props.take k).filter fun p => !hasT fs p).map (fun p => (⟨2, n.id, p.name⟩ : Flt))).length ((((n.props.take k).filter fun p => !hasT fs p).map (fun p => (⟨2, n.id, p.name⟩ : Flt))).flatMap Flt.enc)) (fun _ i _ => n.props.length - (intOf i).toNat)
 case atStart => exact ⟨0, Nat.zero_le _, rfl, Below.refl _ _, Own.nil _ _ _ _⟩
 obtain ⟨k, hk, rfl, hbr, hor⟩ := hrel
 have hbR0 : Below W0.heap.size W0 wr := hb2.trans (hbr.mono hb2.size)
 have y2 := cell_below hbR0 Y2.out
 by_cases hlt : k < n.props.length
 ·obtain ⟨p, hd⟩ : ∃ d, n.props[k]? = some d := ⟨_, List.getElem?_eq_getElem hlt⟩
  obtain ⟨gb, o, rfl, hok, q0, q1, q2, q3⟩ := prp_at (HU.out.below hbR0) hd
  have hlt' : (k : Int) < (n.props.length : Int) := by omega
  obtain ⟨z0, z1, z2, z3⟩ := cell_box4 wr (.string p.name) (.int .i64 p.v.ty) (.int .i64 p.v.n) (.string p.v.s) 33
  have ha1 : Below wr.heap.size wr (wr.alloc (.cells #[.string p.name, .int .i64 p.v.ty, .int .i64 p.v.n, .string p.v.s] 33)) := (Below.refl _ _).alloc (Nat.le_refl _) _
  have HS := Lib.hid (filt_snoc (fun p => !hasT fs p) (fun p => (⟨2, n.id, p.name⟩ : Flt)) hd)
  have hle := filt_le n.props k (fun p => !hasT fs p) (fun p => (⟨2, n.id, p.name⟩ : Flt))
  have HOK : Hid (Sm p.name) := hok.1
  have HO := Lib.hid hor
  have HHT : Hid (hasT fs p = (fs.take fs.length).any fun f => decide (f.name = p.name) && decide (f.ty = p.v.ty)) := by unfold Hid; rw [List.take_length]; rfl
  clear hd hok hor
  go_upto_region 9 with fail
  generalize wr.alloc (.cells #[.string p.name, .int .i64 p.v.ty, .int .i64 p.v.n, .string p.v.s] 33) = wa at *
  generalize ((n.props.take k).filter fun p => !hasT fs p).map (fun p => (⟨2, n.id, p.name⟩ : Flt)) = acc at *
  have hba := hbr.trans (ha1.mono hbr.size)
  have Z0 := Lib.hid z0
  have Z1 := Lib.hid z1
  have HOA := Lib.hid (HO.out.below ha1)
  clear q0 q1 q2 q3 y2 z0 z1 z2 z3 HO
  go_wp2_with fail
  go_loopw [10, 11] (fun fv j wx => ∃ m : Nat, m <= fs.length /\ j = .int .i64 m /\ fv = .bool ((fs.take m).any fun f => decide (f.name = p.name) && decide (f.ty = p.v.ty)) /\ Below wa.heap.size wa wx) (fun _ j _ => fs.length - (intOf j).toNat)
  case atStart => exact ⟨0, Nat.zero_le _, rfl, rfl, Below.refl _ _⟩
  obtain ⟨wo, hwo⟩ : ∃ wo : World, wo = wr := ⟨_, rfl⟩
  obtain ⟨m, hm, rfl, rfl, hbx⟩ := hrel
  have hb2x : Below W2.heap.size W2 wr := hba.trans (hbx.mono hba.size)
  have z0 := cell_below hbx Z0.out
  have z1 := cell_below hbx Z1.out
  by_cases hlm : m < fs.length
  ·obtain ⟨f, hd⟩ : ∃ d, fs[m]? = some d := ⟨_, List.getElem?_eq_getElem hlm⟩
   obtain ⟨gb2, o2, rfl, hok2, q0, q1, q2, q3⟩ := fld_at (HUF.out.below hb2x) hd
   have hlm' : (m : Int) < (fs.length : Int) := by omega
   have HA := Lib.hid (any_snoc (fun f => decide (f.name = p.name) && decide (f.ty = p.v.ty)) hd)
   have hbb : (f.name.toList == p.name.toList) = decide (f.name = p.name) := bytes_beq f.name p.name
   have hcc : (f.ty == p.v.ty) = decide (f.ty = p.v.ty) := rfl
   clear hd hok2 q2 q3
   generalize (fs.take m).any (fun f => decide (f.name = p.name) && decide (f.ty = p.v.ty)) = fl at *
   go_upto_region 13 with fail
   have hNX : Hid (∀ nq, Below wa.heap.size wa (wr.drewN nq)) := fun nq => below_drewN hbx nq
   cases fl with
   | true =>
    go_quiet (fail)
    go_wp2_with fail
    go_roundw
    case rel => exact ⟨m + 1, by omega, by go_num, by rw [HA.out]; rfl, hNX.out _⟩
    case measure => simp [intOf]; omega
   | false =>
    by_cases h1 : f.name = p.name
    ·have h1l : f.name.toList = p.name.toList := by rw [h1]
     rw [decide_eq_true h1] at hbb
     by_cases h2 : f.ty = p.v.ty
     ·rw [decide_eq_true h2] at hcc
      have HE : Hid ((fs.take (m + 1)).any (fun f => decide (f.name = p.name) && decide (f.ty = p.v.ty)) = true) := by unfold Hid; rw [HA.out, decide_eq_true h1, decide_eq_true h2]; rfl
      clear HA
      go_quiet (fail)
      go_wp2_with fail
      go_roundw
      case rel => exact ⟨m + 1, by omega, by go_num, by rw [HE.out], hNX.out _⟩
      case measure => simp [intOf]; omega
     rw [decide_eq_false h2] at hcc
     have HE : Hid ((fs.take (m + 1)).any (fun f => decide (f.name = p.name) && decide (f.ty = p.v.ty)) = false) := by unfold Hid; rw [HA.out, decide_eq_true h1, decide_eq_false h2]; rfl
     clear HA
     go_quiet (fail)
     go_wp2_with fail
     go_roundw
     case rel => exact ⟨m + 1, by omega, by go_num, by rw [HE.out], hNX.out _⟩
     case measure => simp [intOf]; omega
    have h1l : ¬ f.name.toList = p.name.toList := by rw [bytes_eq]; exact h1
    rw [decide_eq_false h1] at hbb
    have HE : Hid ((fs.take (m + 1)).any (fun f => decide (f.name = p.name) && decide (f.ty = p.v.ty)) = false) := by unfold Hid; rw [HA.out, decide_eq_false h1]; rfl
    clear HA
    go_quiet (fail)
    go_wp2_with fail
    go_roundw
    case rel => exact ⟨m + 1, by omega, by go_num, by rw [HE.out], hNX.out _⟩
    case measure => simp [intOf]; omega
  obtain rfl : m = fs.length := by omega
  rw [<- HHT.out]
  have y0 := cell_below (hb2.trans (hb2x.mono hb2.size)) Y0.out
  have HOR := Lib.hid (HOA.out.below hbx)
  obtain ⟨Ar, cr, rfl, _, _⟩ := HOR.out.form
  have hbR := hb2x
  clear hlm hm hbx hb2x hba z1 HHT hlt hfl'
  cases hht : hasT fs p with
  | true =>
   rw [hht] at HS
   have HE : Hid (((n.props.take (k + 1)).filter fun p => !hasT fs p).map (fun p => (⟨2, n.id, p.name⟩ : Flt)) = acc) := by unfold Hid; rw [HS.out]; simp
   clear HS hht
   go_wp2_with fail
   go_roundw
   case rel => exact ⟨k + 1, by omega, by go_num, hbR, by rw [HE.out]; exact HOR.out⟩
   case measure => simp [intOf]; omega
  | false =>
   rw [hht] at HS
   have HE : Hid (((n.props.take (k + 1)).filter fun p => !hasT fs p).map (fun p => (⟨2, n.id, p.name⟩ : Flt)) = acc ++ [⟨2, n.id, p.name⟩]) := by unfold Hid; rw [HS.out]; simp
   clear HS hht
   go_wp2_with (at_builtin; refine wpList_append_q _ rfl (.tmp 75) (.tmp 81) _ rfl W2.heap.size 137 i0 (.agg #[.int .i64 0, .int .i64 0, .string .empty]) 3 32 Tryz.underlying64 ei ez ez1 ez2 rfl (by decide) (.slice Ar (acc).length cr) (acc).length ((acc).flatMap Flt.enc) rfl (HOR.out.alloc _) (some ⟨(wr).heap.size, 0, none⟩) 1 1 (Flt.enc (⟨2, n.id, p.name⟩ : Flt)) rfl rfl (fun _ => ⟨_, rfl, fun j u hj => by rw [addr_add, Nat.zero_add, World.cell?_alloc_at _ _ _ _ rfl]; simpa [Flt.enc] using hj⟩) (fun u hu => by simp [Flt.enc] at hu; rcases hu with rfl | rfl | rfl <;> rfl) (by unfold maxLen; omega) (by omega) (by have := hbR.size; simp; omega) ?_; intro v7 w7 hown7 hg7 hat7)
   have hb7 : Below W2.heap.size W2 w7 := (hbR.alloc hbR.size _).grown hg7 (by have := hbR.size; simp; omega) (fun kk hkk => (HOR.out.lt kk hkk).1)
   have ho7 : Own w7 W2.heap.size 137 3 v7 ((acc) ++ [(⟨2, n.id, p.name⟩ : Flt)]).length (((acc) ++ [(⟨2, n.id, p.name⟩ : Flt)]).flatMap Flt.enc) := by
    rw [flat_snoc] at hown7
    simpa using hown7
   clear hg7 hat7 hown7
   go_roundw
   case rel => exact ⟨k + 1, by omega, by go_num, hb7, by rw [HE.out]; exact ho7⟩
   case measure => simp [intOf]; omega
 obtain rfl : k = n.props.length := by omega
 rw [List.take_length] at hor
 generalize hb1 : (n.props.filter fun p => !hasT fs p).map (fun p => (⟨2, n.id, p.name⟩ : Flt)) = acc1 at *
 have hl1 : acc1.length <= 1000 := by rw [<- hb1, List.length_map]; exact Nat.le_trans (List.length_filter_le _ _) hpl
 have HOK1 : Hid (∀ x ∈ acc1, x.ok) := by
  intro x hx
  rw [<- hb1] at hx
  obtain ⟨p, hp, rfl⟩ := List.mem_map.1 hx
  obtain ⟨i, hi⟩ := List.mem_iff_getElem?.1 (List.mem_filter.1 hp).1
  obtain ⟨_, _, _, hok, _⟩ := prp_at HU.out hi
  exact ⟨⟨by show (-9223372036854775808 : Int) <= 2; omega, by show (2 : Int) <= 9223372036854775807; omega⟩, HID.out, hok.1⟩
 have HO := Lib.hid hor
 have HB1 := Lib.hid hb1
 clear hb1 hor hlt hk
 obtain ⟨w3, hw3⟩ : ∃ w3 : World, w3 = wr := ⟨_, rfl⟩
 have HBR := Lib.hid hbr
 rw [<- hw3] at HO HBR
 clear hbr hbR0
 go_wp2_with fail
 clear y2
 go_loopw [5, 12] (fun ov i wr => ∃ k : Nat, k <= fs.length /\ i = .int .i64 k /\ Below W2.heap.size W2 wr /\ Own wr W2.heap.size 137 3 ov (acc1 ++ ((fs.take k).filter fun f => f.must && decide (atI n.props f.name < 0)).map (fun f => (⟨3, n.id, f.name⟩ : Flt))).length ((acc1 ++ ((fs.take k).filter fun f => f.must && decide (atI n.props f.name < 0)).map (fun f => (⟨3, n.id, f.name⟩ : Flt))).flatMap Flt.enc)) (fun _ i _ => fs.length - (intOf i).toNat)
 case atStart => exact ⟨0, Nat.zero_le _, rfl, by rw [<- hw3]; exact HBR.out, by rw [<- hw3]; simpa using HO.out⟩
 clear hw3 HO HBR
 obtain ⟨k, hk, rfl, hbR, hor⟩ := hrel
 have hbR0 : Below W0.heap.size W0 wr := hb2.trans (hbR.mono hb2.size)
 have HO := Lib.hid hor
 obtain ⟨Ar, cr, rfl, _, _⟩ := hor.form
 by_cases hlt : k < fs.length
 ·obtain ⟨f, hd⟩ : ∃ d, fs[k]? = some d := ⟨_, List.getElem?_eq_getElem hlt⟩
  obtain ⟨gb, o, rfl, hok, q0, q1, q2, q3⟩ := fld_at (HUF.out.below hbR) hd
  have hlt' : (k : Int) < (fs.length : Int) := by omega
  have hk0 : (0 : Int) <= (k : Int) := by omega
  have HS := Lib.hid (filt_snoc (fun f => f.must && decide (atI n.props f.name < 0)) (fun f => (⟨3, n.id, f.name⟩ : Flt)) hd)
  have hle := filt_le fs k (fun f => f.must && decide (atI n.props f.name < 0)) (fun f => (⟨3, n.id, f.name⟩ : Flt))
  have y0 := cell_below hbR0 Y0.out
  have y2 := cell_below hbR0 Y2.out
  have HAT : Hid (∀ W, Below wr.heap.size wr W -> Calls Tryz.prog 55 #[.slice A3 n.props.length c3, .string f.name] W fun e w' => e = .returned (.int .i64 (atI n.props f.name)) /\ W = w') := fun W h => rat_any n.props f.name _ W (HU.out.below (hbR0.trans (h.mono hbR0.size)))
  clear hd hok hor q1 q3
  generalize ((fs.take k).filter fun f => f.must && decide (atI n.props f.name < 0)).map (fun f => (⟨3, n.id, f.name⟩ : Flt)) = acc2 at *
  generalize hat : atI n.props f.name = az at *
  generalize hfm : f.must = fm at *
  have HN0 : Hid ((fm && decide (az < 0)) = false -> acc1 ++ ((fs.take (k + 1)).filter fun f => f.must && decide (atI n.props f.name < 0)).map (fun f => (⟨3, n.id, f.name⟩ : Flt)) = acc1 ++ acc2) := fun h => by rw [HS.out, if_neg (by rw [h]; simp)]; simp
  have HN1 : Hid ((fm && decide (az < 0)) = true -> acc1 ++ ((fs.take (k + 1)).filter fun f => f.must && decide (atI n.props f.name < 0)).map (fun f => (⟨3, n.id, f.name⟩ : Flt)) = (acc1 ++ acc2) ++ [⟨3, n.id, f.name⟩]) := fun h => by rw [HS.out, if_pos h]; simp
  have hln : (acc1 ++ acc2).length <= 1008 := by rw [List.length_append]; omega
  clear hle HS
  generalize acc1 ++ acc2 = acc3 at *
  cases fm with
  | false =>
   have HE := Lib.hid (HN0.out rfl)
   clear HN0 HN1 HAT y0
   go_wp2_with fail
   go_quiet (fail)
   go_wp2_with fail
   go_roundw
   case rel => exact ⟨k + 1, by omega, by go_num, below_drewN hbR _, by rw [HE.out]; exact HO.out.drewN _⟩
   case measure => simp [intOf]; omega
  | true =>
   have HQ0 := Lib.hid q0
   go_wp2_with fail
   refine wp_mid_g 13 _ rfl rfl (by kernel_rfl) ?_
   simp only [List.take_succ_cons, List.take_zero, List.drop_succ_cons, List.drop_zero]
   repeat (go_big_quiet_step (fail))
   refine wpQuiet_nil ?_
   refine ⟨by simp [Region.wanted, yielded, go_sem], ?_⟩
   intro _ hw'
   obtain ⟨nq, hw''⟩ := hw'
   subst hw''
   intro K hK
   have hk1 := HAT.out (wr.drewN nq) (below_drewN (Below.refl _ _) nq)
   go_wp2_with fail
   refine hk1.mono ?_
   clear hk1 HAT
   rintro e w4 ⟨rfl, rfl⟩
   refine hK _ _ ?_
   repeat (go_big_quiet_step (fail))
   refine wpQuiet_nil ?_
   intro _ hw'
   obtain ⟨nq2, hw''⟩ := hw'
   subst hw''
   clear hK
   have hbq := below_drewN (below_drewN (Below.refl wr.heap.size wr) nq) nq2
   have hbR := below_drewN (below_drewN hbR nq) nq2
   have HO := Lib.hid (HO.out.below hbq)
   have y0 := cell_below hbq y0
   have q0 := cell_below hbq HQ0.out
   generalize (wr.drewN nq).drewN nq2 = w5 at *
   clear y2 hbq
   by_cases haz : az < 0
   ·have haz1 : decide (az < 0) = true := decide_eq_true haz
    have HE := Lib.hid (HN1.out (by rw [haz1]; rfl))
    clear HN0 HN1
    go_wp2_with fail
    have hod : Own ((w5).alloc (.cells (Flt.enc (⟨3, n.id, f.name⟩ : Flt)).toArray 137)).drew W2.heap.size 137 3 (.slice Ar (acc3).length cr) (acc3).length ((acc3).flatMap Flt.enc) := HO.out.alloc _
    have hcd : ∀ j u, (Flt.enc (⟨3, n.id, f.name⟩ : Flt))[j]? = some u -> ((w5).alloc (.cells (Flt.enc (⟨3, n.id, f.name⟩ : Flt)).toArray 137)).drew.cell? ⟨(w5).heap.size, j, none⟩ = some u := fun j u hj => by
     show ((w5).alloc (.cells (Flt.enc (⟨3, n.id, f.name⟩ : Flt)).toArray 137)).cell? ⟨(w5).heap.size, j, none⟩ = some u
     rw [World.cell?_alloc_at _ _ _ _ rfl]; simpa using hj
    have HCD := Lib.hid hcd
    have HOD := Lib.hid hod
    clear hcd hod
    go_region_law
     (first
       | (refine step_here rfl ?_
          refine wp_append_q _ (.tmp 105) (.tmp 114) 64 rfl W2.heap.size 137 i0 (.agg #[.int .i64 0, .int .i64 0, .string .empty]) 3 32 Tryz.underlying64 ei ez ez1 ez2 rfl (by decide) (.slice Ar (acc3).length cr) (acc3).length ((acc3).flatMap Flt.enc) rfl HOD.out (some ⟨(w5).heap.size, 0, none⟩) 1 1 (Flt.enc (⟨3, n.id, f.name⟩ : Flt)) rfl rfl (fun _ => ⟨_, rfl, fun j u hj => by rw [addr_add, Nat.zero_add]; exact HCD.out j u hj⟩) (fun u hu => by simp [Flt.enc] at hu; rcases hu with rfl | rfl | rfl <;> rfl) (by unfold maxLen; omega) (by omega) (by have := hbR.size; show W2.heap.size <= ((w5).alloc _).heap.size; simp; omega) ?_
          intro v7 w7 hown7 hg7 hat7))
    all_goals
     have hb7 : Below W2.heap.size W2 w7 := (hbR.alloc hbR.size _).drew.grown hg7 (by have := hbR.size; show W2.heap.size <= (w5.alloc _).heap.size; simp; omega) (fun kk hkk => (HOD.out.lt kk hkk).1)
     have ho7 : Own w7 W2.heap.size 137 3 v7 (acc3 ++ [(⟨3, n.id, f.name⟩ : Flt)]).length ((acc3 ++ [(⟨3, n.id, f.name⟩ : Flt)]).flatMap Flt.enc) := by
      rw [flat_snoc] at hown7
      simpa using hown7
     clear hg7 hat7 hown7
     go_wp2_with fail
     go_roundw
     case rel => exact ⟨k + 1, by omega, by go_num, hb7, by rw [HE.out]; exact ho7⟩
     case measure => simp [intOf]; omega
   have haz1 : decide (az < 0) = false := decide_eq_false haz
   have HE := Lib.hid (HN0.out (by rw [haz1]; rfl))
   clear HN0 HN1
   go_wp2_with fail
   go_roundw
   case rel => exact ⟨k + 1, by omega, by go_num, hbR, by rw [HE.out]; exact HO.out⟩
   case measure => simp [intOf]; omega
 obtain rfl : k = fs.length := by omega
 have HL : Hid (RA.length <= 1008) := by
  unfold Hid
  rw [HRA.out, List.length_append, List.length_map]
  have := List.length_filter_le (fun f => f.must && decide (atI n.props f.name < 0)) fs
  omega
 have HKO : Hid (∀ x ∈ RA, x.ok) := by
  intro x hx
  rw [HRA.out] at hx
  rcases List.mem_append.1 hx with h | h
  ·exact HOK1.out x h
  obtain ⟨f, hf, rfl⟩ := List.mem_map.1 h
  obtain ⟨i, hi⟩ := List.mem_iff_getElem?.1 (List.mem_filter.1 hf).1
  obtain ⟨_, _, _, hok, _⟩ := fld_at HUF.out hi
  exact ⟨⟨by show (-9223372036854775808 : Int) <= 3; omega, by show (3 : Int) <= 9223372036854775807; omega⟩, HID.out, hok.1⟩
 have HRE : Hid (acc1 ++ ((fs.take fs.length).filter fun f => f.must && decide (atI n.props f.name < 0)).map (fun f => (⟨3, n.id, f.name⟩ : Flt)) = RA) := by unfold Hid; rw [List.take_length, HRA.out]
 have HBW := Lib.hid (hB2.trans (hbR.mono hB2.size))
 have HZ2 := Lib.hid hB2.size
 clear hlt hk HRA HB1 HOK1 hB2 hor
 go_wp2_with fail
 go_ret
 exact ⟨_, rfl, by rw [<- HRE.out]; exact HO.out.mono HZ2.out, HKO.out, HL.out, HBW.out⟩
def keyV (o : Option Val) : Value := .tuple #[.agg #[.int .i64 (o.getD noVal).ty, .int .i64 (o.getD noVal).n, .string (o.getD noVal).s], .bool o.isSome]
theorem res3b {B : Nat} {w w1 : World} {q : Nat} {T : TypeId} {c0 c1 c2 : Value} (a b c : Value) (hB : Below B w w1) (hq : B <= q) (h : w1.heap[q]? = some (.cells #[c0, c1, c2] T (0, 0))) :
 Below B w (((w1.setCell ⟨q, 0, none⟩ a).setCell ⟨q, 1, none⟩ b).setCell ⟨q, 2, none⟩ c) /\
 (((w1.setCell ⟨q, 0, none⟩ a).setCell ⟨q, 1, none⟩ b).setCell ⟨q, 2, none⟩ c).cell? ⟨q, 0, none⟩ = some a /\
 (((w1.setCell ⟨q, 0, none⟩ a).setCell ⟨q, 1, none⟩ b).setCell ⟨q, 2, none⟩ c).cell? ⟨q, 1, none⟩ = some b /\
 (((w1.setCell ⟨q, 0, none⟩ a).setCell ⟨q, 1, none⟩ b).setCell ⟨q, 2, none⟩ c).cell? ⟨q, 2, none⟩ = some c := by
 have h3 := setCell_block (setCell_block (setCell_block h 0 a) 1 b) 2 c
 exact ⟨((hB.setCell (p := ⟨_, 0, none⟩) hq _).setCell (p := ⟨_, 1, none⟩) hq _).setCell (p := ⟨_, 2, none⟩) hq _, block_cell h3 0, block_cell h3 1, block_cell h3 2⟩
set_option maxRecDepth 100000 in
set_option maxHeartbeats 16000000 in
theorem rkey_any (s : Scm) (n : Nod) (nm : ByteArray) (vk vb u : Value) (w : World) (hs : ScmR w vk vb s) (hu : Sl prpL w u n.props) (hr : Right s.kinds) (_hpl : n.props.length <= 1000) :
 Calls Tryz.prog 61 #[.agg #[vk, vb], .agg #[.int .i64 n.id, .string n.kind, u], .string nm] w fun e w' => e = .returned (keyV (rKey s n nm)) /\ Below w.heap.size w w' := by
 obtain ⟨A1, c1, rfl, _, _⟩ := hs.1.form
 obtain ⟨A2, c2, rfl, _, _⟩ := hs.2.form
 obtain ⟨A3, c3, rfl, _, _⟩ := hu.form
 obtain ⟨W0, hW0⟩ : ∃ W0, W0 = ((w.alloc (.cells #[.slice A1 s.kinds.length c1, .slice A2 s.bonds.length c2] 61)).alloc (.cells #[.int .i64 n.id, .string n.kind, .slice A3 n.props.length c3] 29)).alloc (.cells #[.int .i64 0, .int .i64 0, .string ⟨#[]⟩] 31) := ⟨_, rfl⟩
 have hb0 : Below w.heap.size w W0 := by rw [hW0]; exact (((Below.refl _ _).alloc (Nat.le_refl _) _).alloc (by simp) _).alloc (by simp; omega) _
 have g0 : W0.heap[w.heap.size]? = some (.cells #[.slice A1 s.kinds.length c1, .slice A2 s.bonds.length c2] 61 (0, 0)) := by
  rw [hW0, Below.heap_alloc _ _ _ (by simp; omega), Below.heap_alloc _ _ _ (by simp)]; exact heap_alloc_new _ _
 have g1 : W0.heap[w.heap.size + 1]? = some (.cells #[.int .i64 n.id, .string n.kind, .slice A3 n.props.length c3] 29 (0, 0)) := by
  have := heap_alloc_new (w.alloc (.cells #[.slice A1 s.kinds.length c1, .slice A2 s.bonds.length c2] 61)) (.cells #[.int .i64 n.id, .string n.kind, .slice A3 n.props.length c3] 29); rw [hW0, Below.heap_alloc _ _ _ (by simp)]; simpa using this
 have gq : W0.heap[w.heap.size + 1 + 1]? = some (.cells #[.int .i64 0, .int .i64 0, .string ⟨#[]⟩] 31 (0, 0)) := by
  have := heap_alloc_new ((w.alloc (.cells #[.slice A1 s.kinds.length c1, .slice A2 s.bonds.length c2] 61)).alloc (.cells #[.int .i64 n.id, .string n.kind, .slice A3 n.props.length c3] 29)) (.cells #[.int .i64 0, .int .i64 0, .string ⟨#[]⟩] 31); rw [hW0]; simpa using this
 have hW0' := hW0.symm
 have hw0 := hb0.size
 have HGQ := Lib.hid gq
 have HSQ : Hid (w.heap.size <= w.heap.size + 1 + 1) := by unfold Hid; omega
 have x0 := block_cell g0 0
 have y1 := block_cell g1 1
 have X0 := Lib.hid x0
 have Y1 := Lib.hid y1
 have Y2 := Lib.hid (block_cell g1 2)
 have HU := Lib.hid (hu.below hb0)
 have hx := rkind_any s.kinds n.kind _ W0 (hs.below hb0).1
 have HF : Hid (0 <= kFind s.kinds n.kind -> Calls Tryz.prog 60 #[.slice A1 s.kinds.length c1, .string n.kind] W0 (FieldsR s.kinds n.kind W0)) := fun h => rfields_any s.kinds n.kind _ W0 (hs.below hb0).1 hr.wf h hr.len hr.ck.f
 have HNEG : Hid (kFind s.kinds n.kind < 0 -> rKey s n nm = none) := fun h => by unfold rKey; rw [if_pos h]
 have HPOS : Hid (0 <= kFind s.kinds n.kind -> kfl s n.kind = (fieldsOf s.kinds n.kind).getD [] /\ rKey s n nm = if (kfl s n.kind).any (keyB n nm) = true then (n.props[(atI n.props nm).toNat]?).map (·.v) else none) := fun h => ⟨by unfold kfl; rw [if_neg (by omega)], by unfold rKey; rw [if_neg (by omega)]⟩
 have HAC : Hid (atI n.props nm < 0 \/ ∃ (i : Nat) (p : Prp), atI n.props nm = i /\ n.props[i]? = some p) := by
  by_cases h : atI n.props nm < 0
  ·exact .inl h
  obtain ⟨i, p, h1, h2, _⟩ := idxI_nonneg (p := fun p : Prp => decide (p.name = nm)) (l := n.props) (by unfold atI at h; omega)
  exact .inr ⟨i, p, h1, h2⟩
 have hfl8 := kfl_len hr n.kind
 generalize kFind s.kinds n.kind = z at *
 generalize rKey s n nm = RK at *
 clear hs hu g0 g1 gq hW0 hr
 go_enter Tryz.func61, Tryz.ntmps61
 go_wp2_with fail
 clear hW0'
 refine hx.mono ?_
 clear hx x0 y1
 rintro e W1 ⟨rfl, rfl⟩
 by_cases hz : z < 0
 ·have HE := Lib.hid (HNEG.out hz)
  have hzd : decide (z < 0) = true := decide_eq_true hz
  have hb11 := Below.refl W0.heap.size W0
  have hqk := ((hb11).block _ (geB HGQ.out)).trans HGQ.out
  obtain ⟨k1, k2, k3, k4⟩ := res3b (.int .i64 0) (.int .i64 0) (.string ⟨#[]⟩) (hb0.trans ((hb11).mono hw0)) HSQ.out hqk
  have y0 := block_cell hqk 0
  have y1 := block_cell hqk 1
  have y2 := block_cell hqk 2
  have g0 := block_free hqk 0
  have g1 := block_free hqk 1
  have g2 := block_free hqk 2
  clear hqk
  clear HF HPOS HNEG hz
  go_wp2_with fail
  exact bodyPost_ret (v := .tuple #[.agg #[.int .i64 0, .int .i64 0, .string ⟨#[]⟩], .bool false]) (by simp [results, Tryz.results61, go_sem, k2, k3, k4]) rfl ⟨by rw [HE.out]; rfl, k1⟩
 have hzd : decide (z < 0) = false := decide_eq_false hz
 obtain ⟨hkf, hRK⟩ := HPOS.out (by omega)
 have hfx := HF.out (by omega)
 unfold FieldsR at hfx
 rw [<- hkf] at hfx
 generalize kfl s n.kind = fs at *
 have HRK := Lib.hid hRK
 have x0 := X0.out
 have y1 := Y1.out
 clear HF HPOS HNEG hz hkf hRK
 go_wp2_with fail
 refine hfx.mono ?_
 clear hfx x0 y1
 rintro e W2 ⟨uf, rfl, huf, hb2⟩
 obtain ⟨Af, cf, rfl, _, _⟩ := huf.form
 have HUF := Lib.hid huf
 have hfl' : (fs.length : Int) <= 8 := by omega
 have y2 := cell_below hb2 Y2.out
 have hx := rat_any n.props nm _ W2 (HU.out.below hb2)
 clear huf
 go_wp2_with fail
 refine hx.mono ?_
 clear hx y2
 rintro e W3 ⟨rfl, rfl⟩
 have hac := HAC.out
 have HKB : Hid (∀ f, keyB n nm f = (decide (f.name = nm) && f.key && decide (0 <= atI n.props nm) && (match n.props[(atI n.props nm).toNat]? with | some p => decide (p.v.ty = f.ty) | none => false))) := fun f => rfl
 clear HAC
 generalize atI n.props nm = az at *
 go_wp2_with fail
 go_loopw [11] (fun i wr => ∃ m : Nat, m <= fs.length /\ i = .int .i64 m /\ Below W2.heap.size W2 wr /\ Hid ((fs.take m).any (keyB n nm) = false)) (fun i _ => fs.length - (intOf i).toNat)
 case atStart => exact ⟨0, Nat.zero_le _, rfl, Below.refl _ _, rfl⟩
 obtain ⟨m, hm, rfl, hbr, HAN⟩ := hrel
 have hb0r : Below W0.heap.size W0 wr := hb2.trans (hbr.mono hb2.size)
 by_cases hlm : m < fs.length
 ·obtain ⟨f, hd⟩ : ∃ d, fs[m]? = some d := ⟨_, List.getElem?_eq_getElem hlm⟩
  obtain ⟨gb2, o2, rfl, hok2, q0, q1, q2, q3⟩ := fld_at (HUF.out.below hbr) hd
  have hlm' : (m : Int) < (fs.length : Int) := by omega
  have hm0 : (0 : Int) <= (m : Int) := by omega
  have HA := Lib.hid (any_snoc (keyB n nm) hd)
  have HK := Lib.hid (HKB.out f)
  have HMEM : Hid (keyB n nm f = true -> fs.any (keyB n nm) = true) := fun h => List.any_eq_true.2 ⟨f, List.mem_of_getElem? hd, h⟩
  have hbb : (f.name.toList == nm.toList) = decide (f.name = nm) := bytes_beq f.name nm
  have y2 := cell_below hb0r Y2.out
  clear hd hok2 q2
  generalize keyB n nm f = kb at *
  by_cases h1 : f.name = nm
  case neg =>
   have h1l : ¬ f.name.toList = nm.toList := by rw [bytes_eq]; exact h1
   rw [decide_eq_false h1] at hbb
   have HE : Hid ((fs.take (m + 1)).any (keyB n nm) = false) := by unfold Hid; rw [HA.out, HAN.out, HK.out, decide_eq_false h1]; rfl
   clear HA HK HMEM
   go_wp2_with fail
   go_quiet (fail)
   go_wp2_with fail
   go_roundw
   case rel => exact ⟨m + 1, by omega, by go_num, below_drewN hbr _, HE⟩
   case measure => simp [intOf]; omega
  have h1l : f.name.toList = nm.toList := by rw [h1]
  rw [decide_eq_true h1] at hbb
  cases hk : f.key with
  | false =>
   rw [hk] at q3
   have HE : Hid ((fs.take (m + 1)).any (keyB n nm) = false) := by unfold Hid; rw [HA.out, HAN.out, HK.out, decide_eq_true h1, hk]; rfl
   clear HA HK HMEM hk
   go_wp2_with fail
   go_quiet (fail)
   go_wp2_with fail
   go_roundw
   case rel => exact ⟨m + 1, by omega, by go_num, below_drewN hbr _, HE⟩
   case measure => simp [intOf]; omega
  | true =>
   rw [hk] at q3
   rcases hac with hn | ⟨i, p, hazi, hp⟩
   ·have hn1 : decide (0 <= az) = false := decide_eq_false (by omega)
    have HE : Hid ((fs.take (m + 1)).any (keyB n nm) = false) := by unfold Hid; rw [HA.out, HAN.out, HK.out, decide_eq_true h1, hk, hn1]; rfl
    clear HA HK HMEM hk
    go_wp2_with fail
    go_quiet (fail)
    go_wp2_with fail
    go_roundw
    case rel => exact ⟨m + 1, by omega, by go_num, below_drewN hbr _, HE⟩
    case measure => simp [intOf]; omega
   have hn1 : decide (0 <= az) = true := decide_eq_true (by omega)
   have hil := (List.getElem?_eq_some_iff.1 hp).1
   have hil' : az < (n.props.length : Int) := by omega
   have haz0 : 0 <= az := by omega
   obtain ⟨gb3, o3, rfl, _, r0, r1, r2, r3⟩ := prp_at (HU.out.below hb0r) hp
   have hcc : (p.v.ty == f.ty) = decide (p.v.ty = f.ty) := rfl
   subst hazi
   have hkbe : kb = decide (p.v.ty = f.ty) := by rw [HK.out, decide_eq_true h1, hk, hn1, Int.toNat_natCast, hp]; simp
   have HKE := Lib.hid hkbe
   by_cases h2 : p.v.ty = f.ty
   ·rw [decide_eq_true h2] at hcc
    have HE : Hid (RK = some p.v) := by unfold Hid; rw [HRK.out, if_pos (HMEM.out (by rw [HKE.out, decide_eq_true h2])), Int.toNat_natCast, hp]; rfl
    have HQ1 := Lib.hid r1
    have HQ2 := Lib.hid r2
    have HQ3 := Lib.hid r3
    clear HA HK HMEM hk hp hkbe HKE HRK h2
    go_wp2_with fail
    go_quiet (fail)
    have hbq := below_drewN (Below.refl wr.heap.size wr) nq
    have hb0q := below_drewN hb0r nq
    have r1 := cell_below hbq HQ1.out
    have r2 := cell_below hbq HQ2.out
    have r3 := cell_below hbq HQ3.out
    have y22 := cell_below hbq y2
    clear y2
    generalize wr.drewN nq = w5 at *
    have hqk := ((hb0q).block _ (geB HGQ.out)).trans HGQ.out
    obtain ⟨k1, k2, k3, k4⟩ := res3b (.int .i64 p.v.ty) (.int .i64 p.v.n) (.string p.v.s) (hb0.trans ((hb0q).mono hw0)) HSQ.out hqk
    have y0 := block_cell hqk 0
    have y1 := block_cell hqk 1
    have y2 := block_cell hqk 2
    have g0 := block_free hqk 0
    have g1 := block_free hqk 1
    have g2 := block_free hqk 2
    clear hqk
    go_wp2_with fail
    exact bodyPost_ret (v := .tuple #[.agg #[.int .i64 p.v.ty, .int .i64 p.v.n, .string p.v.s], .bool true]) (by simp [results, Tryz.results61, go_sem, k2, k3, k4]) rfl ⟨by rw [HE.out]; rfl, k1⟩
   rw [decide_eq_false h2] at hcc
   have HE : Hid ((fs.take (m + 1)).any (keyB n nm) = false) := by unfold Hid; rw [HA.out, HAN.out, HKE.out, decide_eq_false h2]; rfl
   clear HA HK HMEM hk hp hkbe HKE
   go_wp2_with fail
   go_quiet (fail)
   go_wp2_with fail
   go_roundw
   case rel => exact ⟨m + 1, by omega, by go_num, below_drewN hbr _, HE⟩
   case measure => simp [intOf]; omega
 obtain rfl : m = fs.length := by omega
 have HE : Hid (RK = none) := by
  have h := HAN.out
  rw [List.take_length] at h
  unfold Hid
  rw [HRK.out, h]; rfl
 clear HRK HAN
 have hqk := ((hb0r).block _ (geB HGQ.out)).trans HGQ.out
 obtain ⟨k1, k2, k3, k4⟩ := res3b (.int .i64 0) (.int .i64 0) (.string ⟨#[]⟩) (hb0.trans ((hb0r).mono hw0)) HSQ.out hqk
 have y0 := block_cell hqk 0
 have y1 := block_cell hqk 1
 have y2 := block_cell hqk 2
 have g0 := block_free hqk 0
 have g1 := block_free hqk 1
 have g2 := block_free hqk 2
 clear hqk
 go_wp2_with fail
 exact bodyPost_ret (v := .tuple #[.agg #[.int .i64 0, .int .i64 0, .string ⟨#[]⟩], .bool false]) (by simp [results, Tryz.results61, go_sem, k2, k3, k4]) rfl ⟨by rw [HE.out]; rfl, k1⟩
end Go.Proofs.YtngbbefpphinjaaGreatDoor
