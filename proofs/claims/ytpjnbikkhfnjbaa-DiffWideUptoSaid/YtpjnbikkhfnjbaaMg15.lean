/- Parts: DiffP, Chk0, Mi, Chk1. -/
import Derived.Test.YtpjnbikkhfnjbaaMg14
import Derived.Test.YtpjnbikkhfnjbaaMg09
import Derived.Test.YtpjnbikkhfnjbaaMg11
import Derived.Test.YtpjnbikkhfnjbaaMg02
import Derived.Test.YtpjnbikkhfnjbaaMg12
import Derived.Deep.DeepCutAuto
/- Plain: what of a schema is not in another one just so; which one is as wide. No condition. -/
namespace Go.Proofs.Ytpjnbikkhfnjbaa

def eqK (a b : Knd) : Bool := decide (a.ofs = b.ofs) && decide (a.fields = b.fields)
def lostK (l : List Knd) (k : Knd) : Bool := match l[(kFind l k.name).toNat]? with | some d => decide (kFind l k.name < 0) || !eqK k d | none => true
def lostB (l : List Bnd) (x : Bnd) : Bool := !(l.any fun y => decide (x = y))
def losesL (a b : Scm) : List ByteArray := (a.kinds.filter (lostK b.kinds)).map (·.name) ++ (a.bonds.filter (lostB b.bonds)).map (·.name)
def bothE (a b : Scm) : Int := if (scmE a).2 = 0 then (scmE b).2 else (scmE a).2
def losesR (a b : Scm) : List ByteArray := if bothE a b = 0 then losesL a b else []
def fFind (l : List Fld) (nm : ByteArray) : Int := idxI (fun f => decide (f.name = nm)) l
def okF (b : List Fld) (f : Fld) : Bool := match b[(fFind b f.name).toNat]? with | some d => !(decide (fFind b f.name < 0)) && decide (d.ty = f.ty) && !(d.must && !f.must) && !(d.key && !f.key) | none => false
def fieldsW (a b : List Fld) : Bool := a.all (okF b) && !(b.any fun f => f.must && decide (fFind a f.name < 0))
def kindW (l : List Knd) (k : Knd) : Bool := match l[(kFind l k.name).toNat]? with | some d => !(decide (kFind l k.name < 0)) && decide (k.ofs = d.ofs) && fieldsW k.fields d.fields | none => false
def bondW1 (a b : Bnd) : Bool := decide (a.src = b.src) && decide (a.dst = b.dst) && decide (b.mn ≤ a.mn) && (decide (b.mx = -1) || (!decide (a.mx = -1) && decide (a.mx ≤ b.mx)))
def bondW (l : List Bnd) (x : Bnd) : Bool := match l[(bFind l x.name).toNat]? with | some d => !(decide (bFind l x.name < 0)) && bondW1 x d | none => false
def widerB (a b : Scm) : Bool := a.kinds.all (kindW b.kinds) && a.bonds.all (bondW b.bonds) && !(b.bonds.any fun x => decide (bFind a.bonds x.name < 0) && decide (0 < x.mn))
def widerR (a b : Scm) : Bool := if bothE a b = 0 then widerB a b else false

theorem kFind_self {l : List Knd} (hw : Wf l) {i : Nat} {k : Knd} (hk : l[i]? = some k) : kFind l k.name = i := by
  exact idxI_hit (fun j x hj hx => by simpa using (hw i k hk).1 j x hj hx) hk (by simp)
/-- No two bonds of one name. -/
def BDist (l : List Bnd) : Prop := ∀ (i j : Nat) a b, j < i → l[i]? = some a → l[j]? = some b → b.name ≠ a.name
theorem ScmOk.bdist {s : Scm} (h : ScmOk s) : BDist s.bonds := fun i j a b hj hi hb =>
  bFind_neg (h.b i a hi).new b (List.mem_of_getElem? (by rw [List.getElem?_take, if_pos hj]; exact hb))
theorem bFind_self {l : List Bnd} (hd : BDist l) {i : Nat} {k : Bnd} (hk : l[i]? = some k) : bFind l k.name = i :=
  idxI_hit (fun j x hj hx => by simpa using hd i j k x hj hk hx) hk (by simp)
theorem loses_self {s : Scm} (h : ScmOk s) : losesL s s = [] := by
  unfold losesL
  have h1 : s.kinds.filter (lostK s.kinds) = [] := by
    rw [List.filter_eq_nil_iff]
    intro k hk
    obtain ⟨i, hi⟩ := List.mem_iff_getElem?.1 hk
    unfold lostK
    rw [kFind_self h.r.wf hi, Int.toNat_natCast, hi]
    simp [eqK]
  have h2 : s.bonds.filter (lostB s.bonds) = [] := by
    rw [List.filter_eq_nil_iff]
    intro b hb
    unfold lostB
    have : (s.bonds.any fun y => decide (b = y)) = true := List.any_eq_true.2 ⟨b, hb, by simp⟩
    simp [this]
  rw [h1, h2]; rfl
/-- A bond that is dropped is lost, and it is less wide. -/
theorem drop_lost {s : Scm} {nm : ByteArray} (h : cdoE s ⟨6, nm, kz, bz, fz, vz, .empty⟩ = 0) : nm ∈ losesL s (cdoS s ⟨6, nm, kz, bz, fz, vz, .empty⟩) ∧ widerB s (cdoS s ⟨6, nm, kz, bz, fz, vz, .empty⟩) = false := by
  obtain ⟨a1, a2, a3⟩ := cdoE_zero h
  have hok := scmE_zero a1
  have hd := hok.bdist
  have hE : bondsE s ⟨6, nm, kz, bz, fz, vz, .empty⟩ = 0 := by
    have e : chgE s ⟨6, nm, kz, bz, fz, vz, .empty⟩ = bondsE s ⟨6, nm, kz, bz, fz, vz, .empty⟩ := by
      unfold chgE
      rw [if_neg (by simp), if_neg (by simp), if_neg (by simp), if_pos (.inl rfl)]
    rw [← e]; exact a2
  have hn : 0 ≤ bFind s.bonds nm := by
    unfold bondsE at hE
    split at hE
    · omega
    · rename_i hx; simpa using hx
  obtain ⟨i, b, h1, h2, h3, _⟩ := bFind_pos hn
  have hil := (List.getElem?_eq_some_iff.1 h2).1
  have hS : cdoS s ⟨6, nm, kz, bz, fz, vz, .empty⟩ = ⟨s.kinds, s.bonds.take i ++ s.bonds.drop (i + 1)⟩ := by
    unfold cdoS
    rw [if_pos h]
    unfold chgS
    rw [if_neg (by simp), if_neg (by simp), if_neg (by simp), if_neg (by simp)]
    unfold bondsS
    simp only [h1, Int.toNat_natCast, h2]
    rw [if_pos trivial]
  rw [hS]
  have hno : ∀ y ∈ s.bonds.take i ++ s.bonds.drop (i + 1), y.name ≠ nm := fun y hy e => by
    rcases List.mem_append.1 hy with hm | hm
    · obtain ⟨j, hj⟩ := List.mem_iff_getElem?.1 hm
      rw [List.getElem?_take] at hj
      split at hj
      · exact hd i j b y (by assumption) h2 hj (e.trans h3.symm)
      · cases hj
    · obtain ⟨j, hj⟩ := List.mem_iff_getElem?.1 hm
      rw [List.getElem?_drop] at hj
      exact hd (i + 1 + j) i y b (by omega) hj h2 (h3.trans e.symm)
  have hb : b ∈ s.bonds := List.mem_of_getElem? h2
  refine ⟨?_, ?_⟩
  · unfold losesL
    refine List.mem_append.2 (.inr (List.mem_map.2 ⟨b, List.mem_filter.2 ⟨hb, ?_⟩, h3⟩))
    unfold lostB
    have : ((s.bonds.take i ++ s.bonds.drop (i + 1)).any fun y => decide (b = y)) = false := by
      rw [List.any_eq_false]
      intro y hy
      have := hno y hy
      simp only [decide_eq_true_eq]
      intro e
      rw [← e] at this
      exact this h3
    show (!((s.bonds.take i ++ s.bonds.drop (i + 1)).any fun y => decide (b = y))) = true
    rw [this]; rfl
  · have hf : bFind (s.bonds.take i ++ s.bonds.drop (i + 1)) b.name < 0 := by
      rcases Int.lt_or_le (bFind (s.bonds.take i ++ s.bonds.drop (i + 1)) b.name) 0 with hlt | hge
      · exact hlt
      · obtain ⟨j, y, _, hy, hny, _⟩ := bFind_pos hge
        exact absurd (hny.trans h3) (hno y (List.mem_of_getElem? hy))
    have hw : bondW (s.bonds.take i ++ s.bonds.drop (i + 1)) b = false := by
      unfold bondW
      split
      · simp [hf]
      · rfl
    have : s.bonds.all (bondW (s.bonds.take i ++ s.bonds.drop (i + 1))) = false := by
      rw [List.all_eq_false]
      exact ⟨b, hb, by simp [hw]⟩
    unfold widerB
    simp [this]
end Go.Proofs.Ytpjnbikkhfnjbaa

/- Contract: a checker tells a fault. No condition. -/
namespace Go.Proofs.Ytpjnbikkhfnjbaa
open Go Go.RowKit

structure Flt where
  what : Int
  node : Int
  name : ByteArray
def Flt.enc (d : Flt) : List Value := [.int .i64 d.what, .int .i64 d.node, .string d.name]
def Flt.ok (d : Flt) : Prop := I64 d.what ∧ I64 d.node ∧ Sm d.name
theorem Flt.enc_len (d : Flt) : d.enc.length = 3 := rfl
def fltL : Lay Flt := flatL 3 Flt.ok Flt.enc Flt.enc_len
theorem flt_info : (Try.prog.info? 103).map (fun i => (i.zero, i.size, i.bytes)) = some (some (.agg #[.int .i64 0, .int .i64 0, .string .empty]), 3, 32) := by kernel_rfl
theorem Own.is_cells {w : World} {B : Nat} {e : TypeId} {sz n k : Nat} {v : Value} {xs : List Value} (ho : Own w B e sz v n xs) (h : v.ownBlock = some k) : ∃ c fr, w.heap[k]? = some (.cells c e fr) := by
  rcases ho.2 with ⟨rfl, _⟩ | ⟨g, o, cap, cur, rfl, _, hg2, _⟩
  · simp [Value.ownBlock] at h
  · simp [Value.ownBlock] at h
    subst h
    exact ⟨_, _, hg2⟩
/-- A checker: what it asks of, its map, and what it has told. -/
structure Ck (B : Nat) (w : World) (bc : Nat) (vk vb vn vt mv out : Value) (fs : List Flt) : Prop where
  q : w.heap[bc]? = some (.cells #[vk, vb, vn, vt, out, mv] 72 (0, 0))
  l : B ≤ bc
  o : Own w B 103 3 out fs.length (fs.flatMap Flt.enc)
  k : ∀ x ∈ fs, x.ok
theorem Ck.below {B : Nat} {w w' : World} {bc : Nat} {vk vb vn vt mv out : Value} {fs : List Flt} (h : Ck B w bc vk vb vn vt mv out fs) (hb : Below w.heap.size w w') : Ck B w' bc vk vb vn vt mv out fs :=
  ⟨(hb.block _ (Array.getElem?_eq_some_iff.1 h.q).1).trans h.q, h.l, h.o.below hb, h.k⟩
/-- What has come of a checker that told more: all else stays. -/
structure Told1 (B : Nat) (w w' : World) (bc : Nat) (vk vb vn vt mv : Value) (fs : List Flt) : Prop where
  c : ∃ out, Ck B w' bc vk vb vn vt mv out fs
  b : Below B w w'
  s : ∀ T, 103 ≠ T → 72 ≠ T → Same T w w'
  m : ∀ (k : Nat) m c, w.heap[k]? = some (.map m c) → w'.heap[k]? = some (.map m c)
  z : w.heap.size ≤ w'.heap.size
theorem Told1.trans {B : Nat} {w w1 w2 : World} {bc : Nat} {vk vb vn vt mv : Value} {fs gs : List Flt} (h : Told1 B w w1 bc vk vb vn vt mv fs) (k : Told1 B w1 w2 bc vk vb vn vt mv gs) : Told1 B w w2 bc vk vb vn vt mv gs :=
  ⟨k.c, h.b.trans k.b, fun T h1 h2 => (h.s T h1 h2).trans (k.s T h1 h2), fun i m c hm => k.m i m c (h.m i m c hm), Nat.le_trans h.z k.z⟩
theorem Told1.first {B : Nat} {w w1 w2 : World} {bc : Nat} {vk vb vn vt mv : Value} {gs : List Flt} (hb : Below w.heap.size w w1) (hB : B ≤ w.heap.size) (k : Told1 B w1 w2 bc vk vb vn vt mv gs) : Told1 B w w2 bc vk vb vn vt mv gs :=
  ⟨k.c, (hb.mono hB).trans k.b, fun T h1 h2 => (Same.below hb).trans (k.s T h1 h2), fun i m c hm => k.m i m c ((hb.block _ (Array.getElem?_eq_some_iff.1 hm).1).trans hm), Nat.le_trans hb.size k.z⟩
theorem Told1.last {B : Nat} {w w1 w2 : World} {bc : Nat} {vk vb vn vt mv : Value} {gs : List Flt} (k : Told1 B w w1 bc vk vb vn vt mv gs) (hB : B ≤ w1.heap.size) (hb : Below w1.heap.size w1 w2) : Told1 B w w2 bc vk vb vn vt mv gs := by
  obtain ⟨out, hc⟩ := k.c
  exact ⟨⟨out, hc.below hb⟩, k.b.trans (hb.mono hB), fun T h1 h2 => (k.s T h1 h2).trans (Same.below hb), fun i m c hm => (hb.block _ (Array.getElem?_eq_some_iff.1 (k.m i m c hm)).1).trans (k.m i m c hm), Nat.le_trans k.z hb.size⟩
set_option maxRecDepth 100000 in
set_option maxHeartbeats 4000000 in
theorem tell_any (B bc : Nat) (vk vb vn vt mv out : Value) (fs : List Flt) (d : Flt) (w : World) (hB : B ≤ w.heap.size) (hC : Ck B w bc vk vb vn vt mv out fs) (hd : d.ok) (hl : fs.length ≤ 100000) :
    Calls Try.prog 31 #[.pointer (some ⟨bc, 0, none⟩), .int .i64 d.what, .int .i64 d.node, .string d.name] w fun e w' => e = .returned (.tuple #[]) ∧ Told1 B w w' bc vk vb vn vt mv (fs ++ [d]) := by
  obtain ⟨A, c, rfl, _, _⟩ := hC.o.form
  obtain ⟨i0, ei, ez, ez1, ez2⟩ := info_parts flt_info
  have x4 := block_cell hC.q 4
  have f4 := block_free hC.q 4
  have HC := Lib.hid hC
  have HD := Lib.hid hd
  have HN : Hid (∀ j u, d.enc[j]? = some u → (w.alloc (.cells #[.int .i64 d.what, .int .i64 d.node, .string d.name] 103)).cell? ⟨w.heap.size, j, none⟩ = some u) := fun j u hj => by
    rw [World.cell?_alloc_at _ _ _ _ rfl]; simpa [Flt.enc] using hj
  clear hC hd
  have HO : Hid (Own (w.alloc (.cells #[.int .i64 d.what, .int .i64 d.node, .string d.name] 103)) B 103 3 (.slice A fs.length c) fs.length (fs.flatMap Flt.enc)) := HC.out.o.alloc _
  have HSB : Hid (B ≤ (w.alloc (.cells #[.int .i64 d.what, .int .i64 d.node, .string d.name] 103)).heap.size) := by unfold Hid; simp; omega
  have HQ : Hid ((w.alloc (.cells #[.int .i64 d.what, .int .i64 d.node, .string d.name] 103)).heap[bc]? = some (.cells #[vk, vb, vn, vt, .slice A fs.length c, mv] 72 (0, 0))) := by
    unfold Hid; rw [Below.heap_alloc _ _ _ (Array.getElem?_eq_some_iff.1 HC.out.q).1]; exact HC.out.q
  go_enter Try.func31, Try.ntmps31
  go_wp2_with (at_builtin; refine wpList_append_q _ rfl (.tmp 12) (.tmp 17) _ rfl B 103 i0 (.agg #[.int .i64 0, .int .i64 0, .string .empty]) 3 32 Try.underlying52 ei ez ez1 ez2 rfl (by decide) (.slice A fs.length c) fs.length (fs.flatMap Flt.enc) rfl HO.out (some ⟨w.heap.size, 0, none⟩) 1 1 d.enc rfl rfl (fun _ => ⟨_, rfl, fun j u hj => by rw [addr_add, Nat.zero_add]; exact HN.out j u hj⟩) (fun u hu => by simp [Flt.enc] at hu; rcases hu with rfl | rfl | rfl <;> rfl) (by unfold maxLen; omega) (by omega) HSB.out ?_; intro v7 w7 hown7 hg7 hat7; obtain ⟨A7, c7, rfl, _, _⟩ := hown7.form; have hq7 := grown_block hg7 HQ.out (HO.out.ne_block HQ.out (by decide)); have e0 := block_cell hq7 4; have e1 := block_free hq7 4)
  go_end0
  refine ⟨rfl, ⟨⟨.slice A7 (fs.length + 1) c7, ?_, HC.out.l, ?_, fun x hx => ?_⟩, ?_, fun T h1 h2 => ?_, fun k m cl hm => ?_, ?_⟩⟩
  · exact setCell_block hq7 4 _
  · have h := hown7.same (Same.setCell (T := 103) (p := ⟨bc, 4, none⟩) hq7 (by decide) (.slice A7 (fs.length + 1) c7))
    rw [flat_snoc] at h
    simpa using h
  · rcases List.mem_append.1 hx with h | h
    · exact HC.out.k x h
    · simp at h; subst h; exact HD.out
  · exact (((Below.refl B w).alloc hB _).grown hg7 HSB.out (fun k e => (HO.out.lt k e).1)).setCell (p := ⟨bc, 4, none⟩) HC.out.l _
  · exact ((Same.alloc w _).trans (Same.grown HO.out h1 hg7)).trans (Same.setCell (p := ⟨bc, 4, none⟩) hq7 h2 _)
  · have hk := (Array.getElem?_eq_some_iff.1 hm).1
    have h1 : (w.alloc (.cells #[.int .i64 d.what, .int .i64 d.node, .string d.name] 103)).heap[k]? = some (.map m cl) := by rw [Below.heap_alloc _ _ _ hk]; exact hm
    have h2 := grown_block hg7 h1 (fun e => by
      obtain ⟨c, fr, h⟩ := HO.out.is_cells e.symm
      rw [h1] at h; cases h)
    rw [Below.heap_setCell _ _ _ _ (by
      intro e
      have e : k = bc := e
      rw [e, hq7] at h2; cases h2)]
    exact h2
  · have h1 := hg7.size
    simp [World.setCell] at h1 ⊢
    omega
end Go.Proofs.Ytpjnbikkhfnjbaa

/- Plain: a map from texts to ints that the call made, as a function. No condition. -/
namespace Go.Proofs.Ytpjnbikkhfnjbaa
open Go Go.RowKit
open Go.Maps (Keyed)

theorem plainElem_int_inv {H : Type} {P : Program} {e : TypeId} (he : P.underlying e = some (.int .i64)) {v : Value} {z : DataW H × List MemPlace} (h : plainElem P e v = some z) : ∃ n, v = .int .i64 n ∧ z = (.lit (.int .i64 n), []) := by
  unfold plainElem at h
  rw [he] at h
  cases v <;> simp at h
  obtain ⟨⟨rfl, _⟩, rfl⟩ := h
  exact ⟨_, rfl, rfl⟩
def FunIs (D : DataW Unit) (F : ByteArray → Int) : Prop := Maps.IsMap D ∧ ∀ s : ByteArray, s.size ≤ maxLen → D.atKey (.string s.data.toList) (.lit (.int .i64 0)) = .lit (.int .i64 (F s))
theorem FunIs.empty : FunIs (.map []) (fun _ => 0) := ⟨⟨[], rfl⟩, fun _ _ => rfl⟩
theorem FunIs.put {D : DataW Unit} {F : ByteArray → Int} (h : FunIs D F) {x : ByteArray} (n : Int) (hk : WideAt.IsKeyLit (.string x.data.toList)) : FunIs (D.put (.string x.data.toList) (.lit (.int .i64 n))) (fun s => if x = s then n else F s) := by
  refine ⟨h.1.put _ _, fun s hs => ?_⟩
  by_cases e : x = s
  · subst e
    rw [Maps.atKey_put_same h.1 hk]
    simp
  · rw [Maps.atKey_put_other (lit_ne (fun e' => e e'.symm)), h.2 s hs]
    simp [e]
/-- Block b is a map of at most n entries: the function F. -/
def MapI (w : World) (b n : Nat) (F : ByteArray → Int) : Prop :=
  ∃ D : DataW Unit, w.ownsMap Try.prog 9 (plainElem Try.prog 3) b n D ∧ FunIs D F
theorem zeroInt (w : World) : (zeroValue 3).run Try.prog w = .ok (.int .i64 0) w := by kernel_rfl
theorem MapI.made (w : World) : MapI (w.alloc (.map #[] 0)) w.heap.size 0 (fun _ => 0) := ⟨_, World.ownsMap_made w _ _ _, FunIs.empty⟩
theorem MapI.kept {w w' : World} {b n : Nat} {F : ByteArray → Int} {row : Option Nat} (h : MapI w b n F) (hg : w.grownBy w' row) (hne : some b ≠ row) : MapI w' b n F := by
  obtain ⟨D, h1, h2⟩ := h
  exact ⟨D, h1.kept hg hne, h2⟩
theorem MapI.lt {w : World} {b n : Nat} {F : ByteArray → Int} (h : MapI w b n F) : b < w.heap.size := by
  obtain ⟨D, h1, _⟩ := h
  exact h1.lt
set_option maxRecDepth 100000 in
theorem MapI.look {w : World} {b n : Nat} {F : ByteArray → Int} (h : MapI w b n F) {s : ByteArray} (hs : s.size ≤ maxLen) :
    (Instr.lookup 129 (.map (some b)) (.string s) false).run Try.prog w = .ok (.int .i64 (F s)) w := by
  obtain ⟨D, h1, h2⟩ := h
  obtain ⟨v, ps, hrun, hv⟩ := h1.lookup setLaw Try.underlying129 (zeroInt w) (plainElem_int Try.underlying3 (by decide)) (WideMaps.keyOf_string_mk Try.underlying9 hs)
  obtain ⟨x, rfl, hx⟩ := plainElem_int_inv Try.underlying3 hv
  rw [h2.2 s hs] at hx
  injection hx with hx _
  injection hx with hx
  injection hx with _ hx
  rw [hrun, hx]
set_option maxRecDepth 100000 in
theorem MapI.put {w : World} {b n : Nat} {F : ByteArray → Int} (h : MapI w b n F) (hn : n < maxLen) {s : ByteArray} (hs : s.size ≤ maxLen) {v : Int} (hv : I64 v) :
    ∃ w', (Instr.mapUpdate 129 (.map (some b)) (.string s) (.int .i64 v)).run Try.prog w = .ok () w' ∧ MapI w' b (n + 1) (fun t => if s = t then v else F t) ∧ w.grownBy w' (some b) := by
  obtain ⟨D, h1, h2⟩ := h
  have hkey := WideMaps.keyOf_string_mk Try.underlying9 hs
  have hwf : (Lit.int .i64 v).wf = true := by
    obtain ⟨h1, h2⟩ := hv
    have e1 : IntKind.min .i64 = -9223372036854775808 := by decide
    have e2 : IntKind.max .i64 = 9223372036854775807 := by decide
    simp only [Lit.wf, Bool.and_eq_true, decide_eq_true_eq, e1, e2]
    exact ⟨h1, h2⟩
  obtain ⟨w', hrun, hm, hg⟩ := h1.update setLaw Try.underlying129 hn hkey (plainElem_int (H := Unit) Try.underlying3 hwf)
  exact ⟨w', hrun, ⟨_, hm, h2.put v trivial⟩, hg⟩
end Go.Proofs.Ytpjnbikkhfnjbaa

/- Contract: a checker and a record. No condition. -/
namespace Go.Proofs.Ytpjnbikkhfnjbaa
open Go Go.RowKit

/-- Which type a field of a name has: the last one's; 0: there is none. -/
def tyF (fs : List Fld) : ByteArray → Int := fs.foldl (fun F f => fun s => if f.name = s then f.ty else F s) (fun _ => 0)
theorem tyF_snoc (fs : List Fld) (f : Fld) : tyF (fs ++ [f]) = fun s => if f.name = s then f.ty else tyF fs s := by simp [tyF]
def badF (fs : List Fld) (p : Prp) : Bool := !decide (tyF fs p.name = p.v.ty)
def lackF (n : Nod) (f : Fld) : Bool := f.must && !rhas n.props f.name
def recF (fs : List Fld) (n : Nod) : List Flt := (n.props.filter (badF fs)).map (fun p => ⟨2, n.id, p.name⟩) ++ (fs.filter (lackF n)).map (fun f => ⟨3, n.id, f.name⟩)
theorem take_snocF {D : Type} {l : List D} {k : Nat} {d : D} (h : l[k]? = some d) : l.take (k + 1) = l.take k ++ [d] := by rw [List.take_add_one, h]; rfl
theorem filt_snoc {D : Type} {l : List D} {k : Nat} {d : D} (p : D → Bool) (f : D → Flt) (h : l[k]? = some d) : ((l.take (k + 1)).filter p).map f = ((l.take k).filter p).map f ++ if p d then [f d] else [] := by
  rw [take_snocF h, List.filter_append, List.map_append]
  cases hp : p d <;> simp [hp]
theorem filt_le {D : Type} (l : List D) (k : Nat) (p : D → Bool) (f : D → Flt) : (((l.take k).filter p).map f).length ≤ k := by
  rw [List.length_map]
  exact Nat.le_trans (List.length_filter_le _ _) (by rw [List.length_take]; omega)
theorem MapI.of_block {w w' : World} {b n : Nat} {F : ByteArray → Int} (h : MapI w b n F) (hb : w'.heap[b]? = w.heap[b]?) : MapI w' b n F := by
  obtain ⟨D, ⟨es, clock, h1, h2⟩, h3⟩ := h
  exact ⟨D, ⟨es, clock, hb.trans h1, h2⟩, h3⟩
theorem MapI.keep {w w' : World} {b n : Nat} {F : ByteArray → Int} (h : MapI w b n F) (hk : ∀ m c, w.heap[b]? = some (.map m c) → w'.heap[b]? = some (.map m c)) : MapI w' b n F := by
  have h0 := h
  obtain ⟨D, ⟨es, clock, h1, h2⟩, h3⟩ := h
  exact h0.of_block ((hk _ _ h1).trans h1.symm)
theorem MapI.below {w w' : World} {b n : Nat} {F : ByteArray → Int} (h : MapI w b n F) (hb : Below w.heap.size w w') : MapI w' b n F := h.of_block (hb.block _ h.lt)
set_option maxRecDepth 100000 in
set_option maxHeartbeats 8000000 in
theorem record_any (B bc : Nat) (vk vb vn vt mv out : Value) (fs : List Flt) (n : Nod) (fields : List Fld) (u v : Value) (W1 w : World) (hBW : B = W1.heap.size) (hW : Below W1.heap.size W1 w) (hC : Ck B w bc vk vb vn vt mv out fs)
    (hu : Sl prpL W1 u n.props) (hid : I64 n.id) (hch : chain prpLt n.props = true) (hpl : n.props.length ≤ 1000) (hf : Own w B 31 4 v fields.length (fields.flatMap Fld.enc)) (hfo : ∀ x ∈ fields, x.ok) (hfl : fields.length ≤ 1000) (hl : fs.length ≤ 90000) :
    Calls Try.prog 51 #[.pointer (some ⟨bc, 0, none⟩), .agg #[.int .i64 n.id, .string n.kind, u], v] w fun e w' => e = .returned (.tuple #[]) ∧ Told1 B w w' bc vk vb vn vt mv (fs ++ recF fields n) := by
  obtain ⟨Au, cu, rfl, _, _⟩ := hu.form
  obtain ⟨Af, cf, rfl, _, _⟩ := hf.form
  have hmm := @run_makeMap Try.prog
  obtain ⟨W0, hW0⟩ : ∃ W0, W0 = (w.alloc (.cells #[.int .i64 n.id, .string n.kind, .slice Au n.props.length cu] 76)).alloc (.map #[] 0) := ⟨_, rfl⟩
  have hb0 : Below w.heap.size w W0 := by rw [hW0]; exact ((Below.refl _ _).alloc (Nat.le_refl _) _).alloc (by simp) _
  have g0 : W0.heap[w.heap.size]? = some (.cells #[.int .i64 n.id, .string n.kind, .slice Au n.props.length cu] 76 (0, 0)) := by
    rw [hW0, Below.heap_alloc _ _ _ (by simp)]; exact heap_alloc_new _ _
  have hM0 : MapI W0 (w.heap.size + 1) 0 (fun _ => 0) := by
    have := MapI.made (w.alloc (.cells #[.int .i64 n.id, .string n.kind, .slice Au n.props.length cu] 76))
    rw [hW0]; simpa using this
  have hW0' := hW0.symm
  have HM0 := Lib.hid hM0
  have HF := Lib.hid hf
  have HFO := Lib.hid hfo
  have HC := Lib.hid hC
  have HU := Lib.hid hu
  have HG := Lib.hid g0
  have hwB : B ≤ w.heap.size := by rw [hBW]; exact hW.size
  have hw0 := hb0.size
  have hs0 : W0.heap.size = w.heap.size + 2 := by rw [hW0]; simp
  clear hf hC hu g0 hM0 hW0 hfo
  go_enter Try.func51, Try.ntmps51
  go_wp2_with fail
  clear hW0' hmm
  go_loopw [18] (fun i wr => ∃ k : Nat, k ≤ fields.length ∧ i = .int .i64 k ∧ Below w.heap.size w wr ∧ wr.heap[w.heap.size]? = some (.cells #[.int .i64 n.id, .string n.kind, .slice Au n.props.length cu] 76 (0, 0)) ∧ Hid (MapI wr (w.heap.size + 1) k (tyF (fields.take k))) ∧ w.heap.size + 2 ≤ wr.heap.size) (fun i _ => fields.length - (intOf i).toNat)
  case atStart => exact ⟨0, Nat.zero_le _, rfl, hb0, HG.out, HM0.out, by omega⟩
  case round =>
    clear HM0 HG
    obtain ⟨k, hk, rfl, hbr, hg, HM, hz⟩ := hrel
    by_cases hlt : k < fields.length
    · obtain ⟨f, hd⟩ : ∃ d, fields[k]? = some d := ⟨_, List.getElem?_eq_getElem hlt⟩
      obtain ⟨gb, o, rfl, hok, q0, q1, q2, q3⟩ := fld_at ((HF.out.below hbr).flds HFO.out) hd
      have hlt' : (k : Int) < (fields.length : Int) := by omega
      have ha1 : Below wr.heap.size wr (wr.alloc (.cells #[.string f.name, .int .i64 f.ty, .bool f.must, .bool f.key] 31)) := (Below.refl _ _).alloc (Nat.le_refl _) _
      obtain ⟨z0, z1, z2, z3⟩ := cell_box4 wr (.string f.name) (.int .i64 f.ty) (.bool f.must) (.bool f.key) 31
      have hnm : f.name.size ≤ maxLen := by have := hok.1; unfold Sm at this; unfold maxLen; omega
      obtain ⟨w5, hput, hM5, hg5⟩ := (HM.out.below ha1).put (by unfold maxLen; omega) hnm hok.2
      have HN : Hid (MapI w5 (w.heap.size + 1) (k + 1) (tyF (fields.take (k + 1)))) := by unfold Hid; rw [take_snocF hd, tyF_snoc]; exact hM5
      have hg1 := grown_block hg5 ((ha1.block _ (Array.getElem?_eq_some_iff.1 hg).1).trans hg) (by simp)
      have hb5 : Below w.heap.size w w5 := (hbr.alloc hbr.size _).grown hg5 (by simp; omega) (fun j e => by cases e; omega)
      have hs5 := hg5.size
      have hz5 : w.heap.size + 2 ≤ w5.heap.size := by simp at hs5; omega
      clear hd hok hM5 hg5 hs5 HM hg hbr ha1
      go_wp2_with fail
      go_roundw
      case rel => exact ⟨k + 1, by omega, by go_num, hb5, hg1, HN, hz5⟩
      case measure => simp [intOf]; omega
    · obtain rfl : k = fields.length := by omega
      rw [List.take_length] at HM
      have HBR := Lib.hid hbr
      have HMF := Lib.hid HM.out
      have HGR := Lib.hid hg
      have hC1 : Told1 B w wr bc vk vb vn vt mv fs := Told1.first hbr hwB ⟨⟨_, HC.out.below hbr⟩, Below.refl _ _, fun _ _ _ => Same.refl _ _, fun _ _ _ h => h, Nat.le_refl _⟩
      have HC1 := Lib.hid hC1
      have y2 := block_cell hg 2
      have hpl' : (n.props.length : Int) ≤ 1000 := by omega
      have HR : Hid (recF fields n = (n.props.filter (badF fields)).map (fun p => ⟨2, n.id, p.name⟩) ++ (fields.filter (lackF n)).map (fun f => ⟨3, n.id, f.name⟩)) := rfl
      clear hbr HM hC1
      go_wp2_with fail
      go_loopw [31] (fun i wx => ∃ k : Nat, k ≤ n.props.length ∧ i = .int .i64 k ∧ Hid (Told1 B w wx bc vk vb vn vt mv (fs ++ (n.props.take k |>.filter (badF fields)).map (fun p => ⟨2, n.id, p.name⟩))) ∧ wx.heap[w.heap.size]? = some (.cells #[.int .i64 n.id, .string n.kind, .slice Au n.props.length cu] 76 (0, 0)) ∧ Hid (MapI wx (w.heap.size + 1) fields.length (tyF fields)) ∧ w.heap.size + 2 ≤ wx.heap.size) (fun i _ => n.props.length - (intOf i).toNat)
      case atStart => exact ⟨0, Nat.zero_le _, rfl, by unfold Hid; simpa using HC1.out, hg, HMF, hz⟩
      case round =>
        clear HMF HC1 HGR hg y2
        obtain ⟨k, hk, rfl, HT, hg, HM, hz⟩ := hrel
        have y0 := block_cell hg 0
        have y2 := block_cell hg 2
        by_cases hlt : k < n.props.length
        · obtain ⟨p, hd⟩ : ∃ d, n.props[k]? = some d := ⟨_, List.getElem?_eq_getElem hlt⟩
          have hWr : Below W1.heap.size W1 wr := by rw [hBW] at HT; exact hW.trans HT.out.b
          obtain ⟨gb, o, rfl, hok, q0, q1, q2, q3⟩ := prp_at (HU.out.below hWr) hd
          have hlt' : (k : Int) < (n.props.length : Int) := by omega
          have ha1 : Below wr.heap.size wr (wr.alloc (.cells #[.string p.name, .int .i64 p.v.ty, .int .i64 p.v.n, .string p.v.s] 96)) := (Below.refl _ _).alloc (Nat.le_refl _) _
          obtain ⟨z0, z1, z2, z3⟩ := cell_box4 wr (.string p.name) (.int .i64 p.v.ty) (.int .i64 p.v.n) (.string p.v.s) 96
          have hnm : p.name.size ≤ maxLen := by have := hok.1; unfold Sm at this; unfold maxLen; omega
          have hlk := (HM.out.below ha1).look hnm
          have y0 := cell_below ha1 y0
          have HS := Lib.hid (filt_snoc (badF fields) (fun p => (⟨2, n.id, p.name⟩ : Flt)) hd)
          have hle := filt_le n.props k (badF fields) (fun p => (⟨2, n.id, p.name⟩ : Flt))
          have hBr : B ≤ wr.heap.size := by have := HT.out.z; omega
          have HT1 := Lib.hid (HT.out.last hBr ha1)
          have hg1 := (ha1.block _ (Array.getElem?_eq_some_iff.1 hg).1).trans hg
          have HM1 := Lib.hid (HM.out.below ha1)
          have HBD : Hid (badF fields p = !decide (tyF fields p.name = p.v.ty)) := rfl
          have HOK : Hid (Sm p.name) := hok.1
          have hz1 : w.heap.size + 2 ≤ (wr.alloc (.cells #[.string p.name, .int .i64 p.v.ty, .int .i64 p.v.n, .string p.v.s] 96)).heap.size := by simp; omega
          have hBa : B ≤ (wr.alloc (.cells #[.string p.name, .int .i64 p.v.ty, .int .i64 p.v.n, .string p.v.s] 96)).heap.size := by simp; omega
          clear hd hok HT hWr HM hg y2 ha1
          go_upto_region 10 with fail
          generalize wr.alloc (.cells #[.string p.name, .int .i64 p.v.ty, .int .i64 p.v.n, .string p.v.s] 96) = Wa at *
          generalize ht : tyF fields p.name = ty at *
          by_cases hq : ty = p.v.ty
          · have hb1 : (ty != p.v.ty) = false := by rw [bne_eq_false_iff_eq]; exact hq
            have HN : Hid (Told1 B w Wa bc vk vb vn vt mv (fs ++ ((n.props.take (k + 1)).filter (badF fields)).map (fun p => ⟨2, n.id, p.name⟩))) := by
              unfold Hid; rw [HS.out, HBD.out, decide_eq_true hq]; simpa using HT1.out
            clear hq HS HBD ht
            go_wp2_with fail
            go_roundw
            case rel => exact ⟨k + 1, by omega, by go_num, HN, hg1, HM1, hz1⟩
            case measure => simp [intOf]; omega
          · have hb1 : (ty != p.v.ty) = true := by rw [bne_iff_ne]; exact hq
            have HN : Hid (fs ++ ((n.props.take (k + 1)).filter (badF fields)).map (fun p => (⟨2, n.id, p.name⟩ : Flt)) = (fs ++ ((n.props.take k).filter (badF fields)).map (fun p => (⟨2, n.id, p.name⟩ : Flt))) ++ [⟨2, n.id, p.name⟩]) := by
              unfold Hid; rw [HS.out, HBD.out, decide_eq_false hq]; simp
            obtain ⟨out', hc⟩ := HT1.out.c
            have htell := tell_any B bc vk vb vn vt mv out' _ ⟨2, n.id, p.name⟩ Wa hBa hc ⟨⟨by show (-9223372036854775808 : Int) ≤ 2; omega, by show (2 : Int) ≤ 9223372036854775807; omega⟩, hid, HOK.out⟩ (by rw [List.length_append]; omega)
            rw [← HN.out] at htell
            clear hq HS HBD HN hc ht
            go_wp2_with fail
            refine htell.mono ?_
            clear htell
            rintro e w5 ⟨rfl, ht5⟩
            have HT5 := Lib.hid (HT1.out.trans ht5)
            have hg5 := ht5.s 76 (by decide) (by decide) _ _ _ hg1
            have HM5 := Lib.hid (HM1.out.keep (ht5.m _))
            have hz5 : w.heap.size + 2 ≤ w5.heap.size := by have := ht5.z; omega
            clear ht5
            go_wp2_with fail
            go_roundw
            case rel => exact ⟨k + 1, by omega, by go_num, HT5, hg5, HM5, hz5⟩
            case measure => simp [intOf]; omega
        · obtain rfl : k = n.props.length := by omega
          rw [List.take_length] at HT
          generalize hl1 : (n.props.filter (badF fields)).map (fun p => (⟨2, n.id, p.name⟩ : Flt)) = l1 at *
          have hl1n : l1.length ≤ 1000 := by
            rw [← hl1, List.length_map]
            have := List.length_filter_le (badF fields) n.props
            omega
          have hHT : Told1 B w wr bc vk vb vn vt mv (fs ++ l1) := HT.out
          have HT0 := Lib.hid hHT
          have HG0 := Lib.hid hg
          have hz0 := hz
          clear HT HM hl1 hHT y0 y2
          go_wp2_with fail
          go_loopw [52] (fun i wx => ∃ k : Nat, k ≤ fields.length ∧ i = .int .i64 k ∧ Hid (Told1 B w wx bc vk vb vn vt mv ((fs ++ l1) ++ ((fields.take k).filter (lackF n)).map (fun f => ⟨3, n.id, f.name⟩))) ∧ wx.heap[w.heap.size]? = some (.cells #[.int .i64 n.id, .string n.kind, .slice Au n.props.length cu] 76 (0, 0))) (fun i _ => fields.length - (intOf i).toNat)
          case atStart => exact ⟨0, Nat.zero_le _, rfl, by unfold Hid; simpa using HT0.out, HG0.out⟩
          case round =>
            clear HT0 HG0 hg hz hz0
            obtain ⟨k, hk, rfl, HT, hg⟩ := hrel
            have y0 := block_cell hg 0
            have y2 := block_cell hg 2
            by_cases hlt : k < fields.length
            · obtain ⟨f, hd⟩ : ∃ d, fields[k]? = some d := ⟨_, List.getElem?_eq_getElem hlt⟩
              have hWr : Below W1.heap.size W1 wr := by rw [hBW] at HT; exact hW.trans HT.out.b
              obtain ⟨gb, o, rfl, hok, q0, q1, q2, q3⟩ := fld_at ((HF.out.same (HT.out.s 31 (by decide) (by decide))).flds HFO.out) hd
              have hlt' : (k : Int) < (fields.length : Int) := by omega
              have ha1 : Below wr.heap.size wr (wr.alloc (.cells #[.string f.name, .int .i64 f.ty, .bool f.must, .bool f.key] 31)) := (Below.refl _ _).alloc (Nat.le_refl _) _
              obtain ⟨z0, z1, z2, z3⟩ := cell_box4 wr (.string f.name) (.int .i64 f.ty) (.bool f.must) (.bool f.key) 31
              have y0 := cell_below ha1 y0
              have y2 := cell_below ha1 y2
              have HS := Lib.hid (filt_snoc (lackF n) (fun f => (⟨3, n.id, f.name⟩ : Flt)) hd)
              have hle := filt_le fields k (lackF n) (fun f => (⟨3, n.id, f.name⟩ : Flt))
              have hBr : B ≤ wr.heap.size := by have := HT.out.z; omega
              have HT1 := Lib.hid (HT.out.last hBr ha1)
              have hg1 := (ha1.block _ (Array.getElem?_eq_some_iff.1 hg).1).trans hg
              have HBD : Hid (lackF n f = (f.must && !rhas n.props f.name)) := rfl
              have HOK : Hid (Sm f.name) := hok.1
              have hBa : B ≤ (wr.alloc (.cells #[.string f.name, .int .i64 f.ty, .bool f.must, .bool f.key] 31)).heap.size := by simp; omega
              have hrf := rfind_any n.props f.name _ _ ((HU.out.below hWr).below ha1) hch hpl
              clear hd hok HT hWr hg ha1
              go_upto_region 16 with fail
              generalize wr.alloc (.cells #[.string f.name, .int .i64 f.ty, .bool f.must, .bool f.key] 31) = Wa at *
              generalize rhas n.props f.name = q at *
              generalize rpos n.props f.name = ps at *
              go_wp2_with fail
              refine hrf.mono ?_
              clear hrf
              rintro e w3 ⟨rfl, hb3⟩
              have z0 := cell_below hb3 z0
              have z2 := cell_below hb3 z2
              have y0 := cell_below hb3 y0
              have HT3 := Lib.hid (HT1.out.last hBa hb3)
              have hg3 := (hb3.block _ (Array.getElem?_eq_some_iff.1 hg1).1).trans hg1
              have hB3 : B ≤ w3.heap.size := Nat.le_trans hBa hb3.size
              clear HT1 hg1 hb3 z1 z3 y2
              cases hq : (f.must && !q) with
              | false =>
                have HN : Hid (Told1 B w w3 bc vk vb vn vt mv ((fs ++ l1) ++ ((fields.take (k + 1)).filter (lackF n)).map (fun f => ⟨3, n.id, f.name⟩))) := by
                  unfold Hid; rw [HS.out, HBD.out, hq]; simpa using HT3.out
                have HQ := Lib.hid hq
                clear HS HBD HT3 hq
                generalize f.must = fm at *
                cases fm <;> cases q
                case true.false => exact absurd HQ.out (by decide)
                all_goals
                  clear HQ
                  go_wp2_with fail
                  go_roundw
                  case rel => exact ⟨k + 1, by omega, by go_num, HN, hg3⟩
                  case measure => simp [intOf]; omega
              | true =>
                have HN : Hid ((fs ++ l1) ++ ((fields.take (k + 1)).filter (lackF n)).map (fun f => (⟨3, n.id, f.name⟩ : Flt)) = ((fs ++ l1) ++ ((fields.take k).filter (lackF n)).map (fun f => (⟨3, n.id, f.name⟩ : Flt))) ++ [⟨3, n.id, f.name⟩]) := by
                  unfold Hid; rw [HS.out, HBD.out, hq]; simp
                obtain ⟨out', hc⟩ := HT3.out.c
                have htell := tell_any B bc vk vb vn vt mv out' _ ⟨3, n.id, f.name⟩ w3 hB3 hc ⟨⟨by show (-9223372036854775808 : Int) ≤ 3; omega, by show (3 : Int) ≤ 9223372036854775807; omega⟩, hid, HOK.out⟩ (by rw [List.length_append, List.length_append]; omega)
                rw [← HN.out] at htell
                have HQ := Lib.hid hq
                clear HS HBD HN hc hq
                generalize f.must = fm at *
                cases fm <;> cases q
                case true.false =>
                  clear HQ
                  go_wp2_with fail
                  refine htell.mono ?_
                  clear htell
                  rintro e w5 ⟨rfl, ht5⟩
                  have HT5 := Lib.hid (HT3.out.trans ht5)
                  have hg5 := ht5.s 76 (by decide) (by decide) _ _ _ hg3
                  clear ht5
                  go_wp2_with fail
                  go_roundw
                  case rel => exact ⟨k + 1, by omega, by go_num, HT5, hg5⟩
                  case measure => simp [intOf]; omega
                all_goals exact absurd HQ.out (by decide)
            · obtain rfl : k = fields.length := by omega
              rw [List.take_length] at HT
              go_wp2_with fail
              go_end0
              exact ⟨rfl, by rw [HR.out, ← List.append_assoc]; exact HT.out⟩
end Go.Proofs.Ytpjnbikkhfnjbaa
