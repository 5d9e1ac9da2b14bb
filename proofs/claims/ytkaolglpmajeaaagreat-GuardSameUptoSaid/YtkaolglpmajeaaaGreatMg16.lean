/- Parts: Mk, SchA, GNode, EndP, SortI, EndA. -/
import Derived.Test.YtkaolglpmajeaaaGreatMg04
import Derived.Test.YtkaolglpmajeaaaGreatMg14
import Derived.MapKept
import Derived.Test.YtkaolglpmajeaaaGreatMg15
import Derived.Test.YtkaolglpmajeaaaGreatMg03
import Derived.Test.YtkaolglpmajeaaaGreatMg07
import Derived.Test.YtkaolglpmajeaaaGreatMg11
import Derived.Test.YtkaolglpmajeaaaGreatMg02
import Derived.Test.YtkaolglpmajeaaaGreatRows
import Derived.Shelf.SortM.Plain
import Derived.Shelf.SortM.SortNone
import Derived.Ground.SlgmProg
/- Plain: a map from the checker's keys (a text and a value) to bools that the call made, as a list of keys. No condition. -/
namespace Go.Proofs.YtkaolglpmajeaaaGreat
open Go Go.RowKit

/-- A key: the field's name, and the value. -/
structure Key where
  f : ByteArray
  v : Val
  deriving DecidableEq
def Key.ag (k : Key) : Value := .agg #[.string k.f, .int .i64 k.v.ty, .int .i64 k.v.n, .string k.v.s]
theorem kval_same (d : Nat) (x y : Val) (w : World) : (Op.equalIn (d + 2) 42 (.agg #[.int .i64 x.ty, .int .i64 x.n, .string x.s]) (.agg #[.int .i64 y.ty, .int .i64 y.n, .string y.s])).run Tryz.prog w = .ok (decide (x = y)) w := by
  have hS : Tryz.prog.underlying 42 = some (.struct (Tryz.prog.fieldsOf 42)) := by kernel_rfl
  have hp : Tryz.prog.stoodInHeld 42 = false := by kernel_rfl
  have e1 := Tryz.underlying9
  have e2 := Tryz.underlying3
  rw [run_equalIn_agg w (d + 1) 42 _ _ hS hp]
  simp only [Program.fieldsOf, Tryz.underlying42]
  go_simp
  simp only [bytes_eq]
  cases x; cases y
  simp only [Val.mk.injEq]
  rename_i a b c a' b' c'
  by_cases h1 : a = a' <;> by_cases h2 : b = b' <;> by_cases h3 : c = c' <;> simp [h1, h2, h3]
set_option maxRecDepth 100000 in
theorem key_same (d : Nat) (x y : Key) (w : World) : (Op.equalIn (d + 3) 121 x.ag y.ag).run Tryz.prog w = .ok (decide (x = y)) w := by
  have hS : Tryz.prog.underlying 121 = some (.struct (Tryz.prog.fieldsOf 121)) := by kernel_rfl
  have hp : Tryz.prog.stoodInHeld 121 = false := by kernel_rfl
  have hv := kval_same d x.v y.v w
  have e1 := Tryz.underlying9
  have e2 := Tryz.underlying3
  have e3 := Tryz.underlying42
  have HV := Lib.hid hv
  clear hv
  unfold Key.ag
  rw [run_equalIn_agg w (d + 2) 121 _ _ hS hp]
  simp only [Program.fieldsOf, Tryz.underlying121]
  clear hS hp
  go_simp
  clear HV
  simp only [bytes_eq]
  cases x with | mk f v => cases y with | mk f' v' =>
  cases v; cases v'
  simp only [Key.mk.injEq, Val.mk.injEq]
  rename_i a b c a' b' c'
  by_cases h0 : f = f' <;> by_cases h1 : a = a' <;> by_cases h2 : b = b' <;> by_cases h3 : c = c' <;> simp [h0, h1, h2, h3]
theorem key_check (e : Bool) (x : Key) (w : World) : (Instr.checkKey e 10000 121 x.ag).run Tryz.prog w = .ok () w := by
  unfold Key.ag
  kernel_rfl
theorem key_bits (x : Key) : Instr.sameBits 10000 x.ag x.ag = true := by
  have h : ∀ a : ByteArray, (a == a) = true := fun a => by cases a; exact beq_self_eq_true (α := Array UInt8) _
  unfold Key.ag
  simp [Instr.sameBits, h]
/-- What an entry says. -/
def kvs (es : List MapEntry) : List (Value × Value) := es.map fun e => (e.key, e.val)
def keyKV (S : List Key) : List (Value × Value) := S.map fun k => (k.ag, .bool true)
/-- Block b is a map: the keys S, each with true. -/
def MapK (w : World) (b : Nat) (S : List Key) : Prop := ∃ es clock, w.heap[b]? = some (.map es clock) ∧ kvs es.toList = keyKV S
theorem MapK.made (w : World) : MapK (w.alloc (.map #[] 0)) w.heap.size [] := ⟨#[], 0, heap_alloc_new _ _, rfl⟩
theorem MapK.keep {w w' : World} {b : Nat} {S : List Key} (h : MapK w b S) (hk : ∀ m c, w.heap[b]? = some (.map m c) → w'.heap[b]? = some (.map m c)) : MapK w' b S := by
  obtain ⟨es, c, h1, h2⟩ := h
  exact ⟨es, c, hk _ _ h1, h2⟩
theorem key_find (k : Key) (w : World) : ∀ (es : List MapEntry) (S : List Key) (i : Nat), kvs es = keyKV S →
    (Instr.findAsking 121 k.ag es i).run Tryz.prog w = .ok (if k ∈ S then some (i + S.findIdx (fun x => decide (k = x)), .bool true) else none) w
  | [], S, i, h => by
    cases S with
    | nil => rfl
    | cons a S => simp [kvs, keyKV] at h
  | e :: es, S, i, h => by
    cases S with
    | nil => simp [kvs, keyKV] at h
    | cons a S =>
      simp only [kvs, keyKV, List.map_cons, List.cons.injEq, Prod.mk.injEq] at h
      obtain ⟨⟨hk, hv⟩, ht⟩ := h
      have ih := key_find k w es S (i + 1) ht
      have he : (Op.equal 121 k.ag a.ag).run Tryz.prog w = .ok (decide (k = a)) w := key_same 9997 k a w
      by_cases hq : k = a
      · subst hq
        rw [decide_eq_true rfl] at he
        unfold Instr.findAsking
        rw [Sem.run_bind, hk, he, if_pos (List.mem_cons_self ..)]
        simp [Result.andThen, hv, List.findIdx_cons]
      · rw [decide_eq_false hq] at he
        have hidx : (a :: S).findIdx (fun x => decide (k = x)) = S.findIdx (fun x => decide (k = x)) + 1 := by rw [List.findIdx_cons]; simp [hq]
        have hmem : (k ∈ a :: S) = (k ∈ S) := by simp [hq]
        have harr : i + 1 + S.findIdx (fun x => decide (k = x)) = i + (S.findIdx (fun x => decide (k = x)) + 1) := by omega
        unfold Instr.findAsking
        rw [Sem.run_bind, hk, he, hidx]
        simp only [hmem]
        rw [← harr, ← ih]
        rfl
theorem key_now (k : Key) : ∀ (es : List MapEntry) (S : List Key) (d : TypeDesc), kvs es = keyKV S → Tryz.prog.underlying 121 = some d → Instr.findNow d k.ag es 0 = none ∨ (es = [] ∧ Instr.findNow d k.ag es 0 = some none)
  | [], _, _, _, _ => .inr ⟨rfl, rfl⟩
  | e :: es, S, d, _, hd => by
    rw [Tryz.underlying121] at hd
    injection hd with hd
    subst hd
    exact .inl rfl
theorem key_findKey (k : Key) (w : World) (es : List MapEntry) (S : List Key) (h : kvs es = keyKV S) :
    (Instr.findKey 121 k.ag es).run Tryz.prog w = .ok (if k ∈ S then some (S.findIdx (fun x => decide (k = x)), .bool true) else none) w := by
  unfold Instr.findKey
  rw [Sem.run_bind, run_underlying Tryz.underlying121]
  simp only [Result.andThen]
  rcases key_now k es S _ h Tryz.underlying121 with hn | ⟨rfl, hn⟩
  · rw [hn]
    have := key_find k w es S 0 h
    simpa using this
  · rw [hn]
    cases S with
    | nil => rfl
    | cons a S => simp [kvs, keyKV] at h
theorem MapK.look {w : World} {b : Nat} {S : List Key} (h : MapK w b S) (k : Key) : (Instr.lookup 90 (.map (some b)) k.ag false).run Tryz.prog w = .ok (.bool (decide (k ∈ S))) w := by
  obtain ⟨es, c, h1, h2⟩ := h
  have hz : (zeroValue 4).run Tryz.prog w = .ok (.bool false) w := by kernel_rfl
  simp only [Instr.lookup, Sem.run_bind, run_underlying Tryz.underlying90, MapKept.run_getObj_map h1, key_check, key_findKey k w es.toList S h2, Result.andThen, Sem.run_pure]
  by_cases hm : k ∈ S
  · simp [hm]
  · simp [hm, hz]
theorem set_grown (w : World) (b : Nat) (o o' : Obj) (h : w.heap[b]? = some o) : w.grownBy { w with heap := w.heap.setIfInBounds b o' } (some b) ∧ True ∧ ({ w with heap := w.heap.setIfInBounds b o' } : World).heap[b]? = some o' := by
  have hb := (Array.getElem?_eq_some_iff.1 h).1
  refine ⟨⟨rfl, rfl, rfl, by simp, fun k hk hne => ?_⟩, trivial, ?_⟩
  · simp only [Array.getElem?_setIfInBounds]
    rw [if_neg (fun e => hne (by rw [e]))]
  · simp [hb]
theorem MapK.put {w : World} {b : Nat} {S : List Key} (h : MapK w b S) (k : Key) :
    ∃ w', (Instr.mapUpdate 90 (.map (some b)) k.ag (.bool true)).run Tryz.prog w = .ok () w' ∧ MapK w' b (if k ∈ S then S else S ++ [k]) ∧ w.grownBy w' (some b) := by
  obtain ⟨es, c, h1, h2⟩ := h
  have hlen : es.toList.length = S.length := by have := congrArg List.length h2; simpa [kvs, keyKV] using this
  by_cases hm : k ∈ S
  · have hidx : S.findIdx (fun x => decide (k = x)) < S.length := List.findIdx_lt_length_of_exists ⟨k, hm, by simp⟩
    generalize hj : S.findIdx (fun x => decide (k = x)) = j at *
    have hSj : S[j]? = some k := by
      have := List.findIdx_getElem (xs := S) (p := fun x => decide (k = x)) (w := by rw [hj]; exact hidx)
      simp only [decide_eq_true_eq] at this
      rw [List.getElem?_eq_getElem hidx]
      congr 1
      rw [this]
      congr 1
      exact hj.symm
    obtain ⟨e0, he0⟩ : ∃ e0, es[j]? = some e0 := ⟨_, Array.getElem?_eq_getElem (by simpa using (by omega : j < es.toList.length))⟩
    have hek : e0.key = k.ag ∧ e0.val = .bool true := by
      have h3 := congrArg (fun l => l[j]?) h2
      simp only [kvs, keyKV, List.getElem?_map, hSj, Option.map_some] at h3
      rw [Array.getElem?_toList, he0] at h3
      simp at h3
      exact h3
    obtain ⟨g1, _, g2⟩ := set_grown w b _ (.map (es.modify j fun e => { e with key := k.ag, val := .bool true }) c) h1
    refine ⟨_, ?_, ⟨_, _, g2, ?_⟩, g1⟩
    · simp [Instr.mapUpdate, run_underlying Tryz.underlying90, MapKept.run_getObj_map h1, key_check, key_findKey k w es.toList S h2, hm, hj, he0, hek.1, Instr.keyThatStays, key_bits, MapKept.run_setObj_map _ h1, Result.andThen]
    · rw [if_pos hm, ← h2]
      apply List.ext_getElem?
      intro i
      simp only [kvs, List.getElem?_map, Array.getElem?_toList, Array.getElem?_modify]
      by_cases hi : j = i
      · subst hi
        simp [he0, hek.1, hek.2]
      · rw [if_neg hi]
  · obtain ⟨g1, _, g2⟩ := set_grown w b _ (.map (es.push ⟨k.ag, .bool true, c⟩) (c + 1)) h1
    refine ⟨_, ?_, ⟨_, _, g2, ?_⟩, g1⟩
    · simp [Instr.mapUpdate, run_underlying Tryz.underlying90, MapKept.run_getObj_map h1, key_check, key_findKey k w es.toList S h2, hm, MapKept.run_setObj_map _ h1, Result.andThen]
    · rw [if_neg hm]
      simp only [kvs, keyKV, Array.toList_push, List.map_append, List.map_cons, List.map_nil] at h2 ⊢
      rw [h2]
end Go.Proofs.YtkaolglpmajeaaaGreat

/- Contracts: schema.find, schema.Find, schema.bond, schema.Check, schema.Right. -/
namespace Go.Proofs.YtkaolglpmajeaaaGreat
open Go Go.RowKit



def bndAg (d : Bnd) : Value := .agg #[.string d.name, .string d.src, .string d.dst, .int .i64 d.mn, .int .i64 d.mx]
def bndV (_ : World) (d : Bnd) (u : Value) : Prop := u = .agg #[.string d.name, .string d.src, .string d.dst, .int .i64 d.mn, .int .i64 d.mx]
set_option maxHeartbeats 400000 in
theorem idx_bnds (g : Nat) (caps : Array Value) (eg : ∀ args w, (callFunc g args).run Tryz.prog w = .ok (.enter g args) w) (p : Bnd → Bool) (l : List (Bnd)) (v : Value) (w : World) (hv : Sl bndL w v l)
    (hp : PredB Tryz.prog g caps bndV p w) :
    Calls Tryz.prog 84 #[v, .func (.func g) #[] caps] w fun e w' => e = .returned (.int .i64 (idxI p l)) ∧ Below w.heap.size w w' := by
  obtain ⟨A, c, rfl, hlc, hcm⟩ := hv.form
  unfold maxLen at hcm
  go_enter Tryz.func84, Tryz.ntmps84
  go_wp2_with fail
  go_loopw [8] (fun i wr => ∃ k : Nat, k ≤ l.length ∧ i = .int .i64 k ∧ Below w.heap.size w wr ∧ Hid (∀ j x, j < k → l[j]? = some x → p x = false)) (fun i _ => l.length - (intOf i).toNat)
  case atStart => exact ⟨0, Nat.zero_le _, rfl, Below.refl _ _, fun j x hj => absurd hj (Nat.not_lt_zero _)⟩
  case round =>
    obtain ⟨k, hk, rfl, hb, HA⟩ := hrel
    by_cases hlt : k < l.length
    · obtain ⟨d, hd⟩ : ∃ d, l[k]? = some d := ⟨_, List.getElem?_eq_getElem hlt⟩
      obtain ⟨b, o, rfl, hok, c0, c1, c2, c3, c4⟩ := bnd_at (hv.below hb) hd
      have hcall := hp d (.agg #[.string d.name, .string d.src, .string d.dst, .int .i64 d.mn, .int .i64 d.mx]) wr hb rfl
      have HD : Hid (l[k]? = some d) := hd
      clear hd hp hv
      cases hq : p d with
      | true =>
        rw [hq] at hcall
        have HQ : Hid (p d = true) := hq
        clear hq
        go_wp2_with (go_at_fn g; refine hcall.mono ?_; rintro e w' ⟨rfl, hb2⟩)
        go_ret
        exact ⟨ret_int (idxI_hit HA.out HD.out HQ.out).symm, hb.trans (hb2.mono hb.size)⟩
      | false =>
        rw [hq] at hcall
        have HQ : Hid (p d = false) := hq
        clear hq
        go_wp2_with (go_at_fn g; refine hcall.mono ?_; rintro e w' ⟨rfl, hb2⟩)
        go_roundw
        case rel => exact ⟨k + 1, by omega, by go_num, hb.trans (hb2.mono hb.size), miss_step HA.out HD.out HQ.out⟩
        case measure => simp [intOf]; omega
    · have hkl : k = l.length := by omega
      subst hkl
      clear hp hv
      go_wp2_with fail
      go_ret
      exact ⟨ret_int (idxI_miss HA.out).symm, hb⟩
theorem bFind1_any (d : Bnd) (name : ByteArray) (u : Value) (bk : Nat) (w : World) (hu : bndV w d u) (hc : w.cell? ⟨bk, 0, none⟩ = some (.string name)) :
    Calls Tryz.prog 85 #[u, .pointer (some ⟨bk, 0, none⟩)] w fun e w' => e = .returned (.bool (decide (d.name = name))) ∧ Below w.heap.size w w' := by
  obtain rfl : u = _ := hu
  have hlt := World.block_lt_of_cell? _ _ hc
  by_cases hq : d.name = name
  · have hd : decide (d.name = name) = true := decide_eq_true hq
    rw [hd]
    have hqb : (d.name.toList == name.toList) = true := by rw [bytes_beq]; exact hd
    clear hq hd
    go_enter Tryz.func85, Tryz.ntmps85
    go_wp2_with fail
    go_ret
    exact ⟨rfl, (Below.refl _ _).alloc (Nat.le_refl _) _⟩
  · have hd : decide (d.name = name) = false := decide_eq_false hq
    rw [hd]
    have hqb : (d.name.toList == name.toList) = false := by rw [bytes_beq]; exact hd
    clear hq hd
    go_enter Tryz.func85, Tryz.ntmps85
    go_wp2_with fail
    go_ret
    exact ⟨rfl, (Below.refl _ _).alloc (Nat.le_refl _) _⟩
/-- Where a bond of a name is. -/
def bFind (l : List Bnd) (name : ByteArray) : Int := idxI (fun b => decide (b.name = name)) l
theorem bFind_any (l : List Bnd) (name : ByteArray) (v : Value) (w : World) (hv : Sl bndL w v l) :
    Calls Tryz.prog 59 #[v, .string name] w fun e w' => e = .returned (.int .i64 (bFind l name)) ∧ Below w.heap.size w w' := by
  have hb0 : Below w.heap.size w (w.alloc (.cells #[.string name] 9)) := (Below.refl _ _).alloc (Nat.le_refl _) _
  have h1 := idx_bnds 85 #[.pointer (some ⟨w.heap.size, 0, none⟩)] (by intro args w; kernel_rfl) (fun k => decide (k.name = name)) l v _ (hv.below hb0)
    (fun d u wx hx hu => bFind1_any d name u w.heap.size wx hu (cell_below hx (by rw [World.cell?_alloc_at _ _ _ _ rfl]; rfl)))
  obtain ⟨A, c, rfl, _, _⟩ := hv.form
  clear hv
  go_enter Tryz.func59, Tryz.ntmps59
  go_wp2_with fail
  refine h1.mono ?_
  rintro e w2 ⟨rfl, hb2⟩
  go_wp2_with fail
  go_ret
  exact ⟨rfl, hb0.trans (hb2.mono (by simp))⟩
theorem sFind_any (s : Scm) (name : ByteArray) (vk vb : Value) (w : World) (hv : ScmR w vk vb s) :
    Calls Tryz.prog 34 #[.agg #[vk, vb], .string name] w fun e w' => e = .returned (.int .i64 (bFind s.bonds name)) ∧ Below w.heap.size w w' := by
  have hb0 : Below w.heap.size w (w.alloc (.cells #[vk, vb] 25)) := (Below.refl _ _).alloc (Nat.le_refl _) _
  have h1 := bFind_any s.bonds name vb _ (hv.2.below hb0)
  obtain ⟨A, c, rfl, _, _⟩ := hv.1.form
  obtain ⟨A', c', rfl, _, _⟩ := hv.2.form
  clear hv
  go_enter Tryz.func34, Tryz.ntmps34
  go_wp2_with fail
  refine h1.mono ?_
  rintro e w2 ⟨rfl, hb2⟩
  go_wp2_with fail
  go_ret
  exact ⟨rfl, hb0.trans (hb2.mono (by simp))⟩
def rngB (b : Bnd) : Prop := b.mn < 0 ∨ 20 < b.mn ∨ (b.mx ≠ -1 ∧ (b.mx < b.mn ∨ 20 < b.mx))
instance (b : Bnd) : Decidable (rngB b) := by unfold rngB; infer_instance
/-- What is wrong with a bond, behind those that are right. -/
def bndE (ks : List Knd) (p : List Bnd) (b : Bnd) : Int :=
  if nameE b.name = 0 then (if 0 ≤ bFind p b.name then 7 else if kFind ks b.src < 0 ∨ kFind ks b.dst < 0 then 5 else if rngB b then 1 else 0) else nameE b.name
def bndsE (ks : List Knd) : List Bnd → List Bnd → ByteArray × Int
  | _, [] => (.empty, 0)
  | p, b :: r => if bndE ks p b = 0 then bndsE ks (p ++ [b]) r else (b.name, bndE ks p b)
/-- The fault of a schema, and with whom. -/
def scmE (s : Scm) : ByteArray × Int := if (checkE s.kinds).2 = 0 then (if 12 < s.bonds.length then (.empty, 4) else bndsE s.kinds [] s.bonds) else checkE s.kinds
theorem cell_box5 (w : World) (a b c d e : Value) (t : TypeId) : (w.alloc (.cells #[a, b, c, d, e] t)).cell? ⟨w.heap.size, 0, none⟩ = some a ∧ (w.alloc (.cells #[a, b, c, d, e] t)).cell? ⟨w.heap.size, 1, none⟩ = some b ∧
    (w.alloc (.cells #[a, b, c, d, e] t)).cell? ⟨w.heap.size, 2, none⟩ = some c ∧ (w.alloc (.cells #[a, b, c, d, e] t)).cell? ⟨w.heap.size, 3, none⟩ = some d ∧ (w.alloc (.cells #[a, b, c, d, e] t)).cell? ⟨w.heap.size, 4, none⟩ = some e :=
  ⟨by rw [World.cell?_alloc_at _ _ _ _ rfl]; rfl, by rw [World.cell?_alloc_at _ _ _ _ rfl]; rfl, by rw [World.cell?_alloc_at _ _ _ _ rfl]; rfl, by rw [World.cell?_alloc_at _ _ _ _ rfl]; rfl, by rw [World.cell?_alloc_at _ _ _ _ rfl]; rfl⟩
set_option maxRecDepth 100000 in
set_option maxHeartbeats 8000000 in
theorem bond_any (s : Scm) (i : Nat) (d : Bnd) (vk vb : Value) (w : World) (hv : ScmR w vk vb s) (hd : s.bonds[i]? = some d) :
    Calls Tryz.prog 78 #[.agg #[vk, vb], .int .i64 i] w fun e w' => e = .returned (errV (bndE s.kinds (s.bonds.take i) d)) ∧ Below w.heap.size w w' := by
  obtain ⟨Ak, ck, rfl, _, _⟩ := hv.1.form
  obtain ⟨Ab, cb, rfl, hlc, hcm⟩ := hv.2.form
  obtain ⟨b, o, rfl, hok, c0, c1, c2, c3, c4⟩ := bnd_at hv.2 hd
  have hil := (List.getElem?_eq_some_iff.1 hd).1
  have hb0 : Below w.heap.size w (w.alloc (.cells #[.slice Ak s.kinds.length ck, .slice (some ⟨b, o, none⟩) s.bonds.length cb] 25)) := (Below.refl _ _).alloc (Nat.le_refl _) _
  obtain ⟨x0, x1⟩ := cell_box2 w (.slice Ak s.kinds.length ck) (.slice (some ⟨b, o, none⟩) s.bonds.length cb) 25
  have HV0 := Lib.hid (show ScmR _ _ _ s from ⟨hv.1.below hb0, hv.2.below hb0⟩)
  have d0 := cell_below hb0 c0
  have d1 := cell_below hb0 c1
  have d2 := cell_below hb0 c2
  have d3 := cell_below hb0 c3
  have d4 := cell_below hb0 c4
  have HE : Hid (bndE s.kinds (s.bonds.take i) d = if nameE d.name = 0 then (if 0 ≤ bFind (s.bonds.take i) d.name then 7 else if kFind s.kinds d.src < 0 ∨ kFind s.kinds d.dst < 0 then 5 else if rngB d then 1 else 0) else nameE d.name) := rfl
  have hw0 := hb0.size
  have hil' : (i : Int) < (s.bonds.length : Int) := by omega
  clear hv c0 c1 c2 c3 c4 hd
  have hsz0 : (w.alloc (.cells #[.slice Ak s.kinds.length ck, .slice (some ⟨b, o, none⟩) s.bonds.length cb] 25)).heap.size = w.heap.size + 1 := by simp
  go_enter Tryz.func78, Tryz.ntmps78
  go_wp2_with fail
  generalize w.alloc (.cells #[.slice Ak s.kinds.length ck, .slice (some ⟨b, o, none⟩) s.bonds.length cb] 25) = w0 at *
  have hb1 : Below w0.heap.size w0 (w0.alloc (.cells #[.string d.name, .string d.src, .string d.dst, .int .i64 d.mn, .int .i64 d.mx] 63)) := (Below.refl _ _).alloc (Nat.le_refl _) _
  obtain ⟨z0, z1, z2, z3, z4⟩ := cell_box5 w0 (.string d.name) (.string d.src) (.string d.dst) (.int .i64 d.mn) (.int .i64 d.mx) 63
  rw [hsz0] at z0 z1 z2 z3 z4
  have x0 := cell_below hb1 x0
  have x1 := cell_below hb1 x1
  have hw1 := hb1.size
  generalize w0.alloc (.cells #[.string d.name, .string d.src, .string d.dst, .int .i64 d.mn, .int .i64 d.mx] 63) = w1 at *
  refine (name_any d.name w1 hok.1).mono ?_
  rintro e w2 ⟨rfl, hb2⟩
  have hb02 := hb1.trans (hb2.mono hw1)
  have hB2 := hb0.trans (hb02.mono hw0)
  have HV2 := Lib.hid (show ScmR w2 _ _ s from ⟨HV0.out.1.below hb02, HV0.out.2.below hb02⟩)
  have x0 := cell_below hb2 x0
  have x1 := cell_below hb2 x1
  have z0 := cell_below hb2 z0
  have z1 := cell_below hb2 z1
  have z2 := cell_below hb2 z2
  have z3 := cell_below hb2 z3
  have z4 := cell_below hb2 z4
  have hw2 := hB2.size
  clear d0 d1 d2 d3 d4 hb02 hb2 hb1
  by_cases he : nameE d.name = 0
  case neg =>
    have HF : Hid (errV (bndE s.kinds (s.bonds.take i) d) = .iface 65 (.int .i64 (nameE d.name))) := by unfold Hid; rw [HE.out, if_neg he]; exact errV_some he
    rw [errV_some he]
    clear he HE
    go_wp2_with fail
    go_ret
    exact ⟨by rw [HF.out]; rfl, hB2⟩
  have HE2 : Hid (bndE s.kinds (s.bonds.take i) d = if 0 ≤ bFind (s.bonds.take i) d.name then 7 else if kFind s.kinds d.src < 0 ∨ kFind s.kinds d.dst < 0 then 5 else if rngB d then 1 else 0) := by unfold Hid; rw [HE.out, if_pos he]
  rw [errV_zero he]
  have hic : (i : Int) ≤ (cb : Int) := by omega
  clear he HE
  go_wp2_with fail
  refine wp_mid_k 6 _ rfl rfl (by kernel_rfl) (by kernel_rfl) ?_
  simp only [List.take_succ_cons, List.take_zero, List.drop_succ_cons, List.drop_zero]
  repeat (go_big_quiet_step (fail))
  refine wpQuiet_nil ?_
  intro _ hw'
  obtain ⟨nq, hw''⟩ := hw'
  subst hw''
  intro K hK
  have hf := bFind_any (s.bonds.take i) d.name (.slice (some ⟨b, o, none⟩) i cb) (w2.drewN nq) ((Sl.take HV2.out.2 (by omega)).below (below_drewN (Below.refl _ _) nq))
  generalize bFind (s.bonds.take i) d.name = q at *
  go_wp2_with fail
  refine hf.mono ?_
  clear hf
  rintro e w3 ⟨rfl, hb3⟩
  have hB3' := (below_drewN (Below.refl w2.heap.size w2) nq).trans hb3
  have x0 := cell_below hB3' x0
  have x1 := cell_below hB3' x1
  have z0 := cell_below hB3' z0
  have z1 := cell_below hB3' z1
  have z2 := cell_below hB3' z2
  have z3 := cell_below hB3' z3
  have z4 := cell_below hB3' z4
  have HV3 := Lib.hid (show Sl kndL w3 _ s.kinds from HV2.out.1.below hB3')
  have hB3 := hB2.trans (hB3'.mono hw2)
  clear hb3 hB3' HV2 hB2
  refine hK _ _ ?_
  repeat (go_big_quiet_step (fail))
  refine wpQuiet_nil ?_
  intro _ hw'
  obtain ⟨nq2, hw''⟩ := hw'
  subst hw''
  clear hK
  by_cases hq : 0 ≤ q
  · have HF : Hid (bndE s.kinds (s.bonds.take i) d = 7) := by unfold Hid; rw [HE2.out, if_pos hq]
    clear HE2
    go_wp2_with fail
    go_ret
    exact ⟨by rw [HF.out]; rfl, below_drewN hB3 _⟩
  have hq' : q < 0 := by omega
  have HE3 : Hid (bndE s.kinds (s.bonds.take i) d = if kFind s.kinds d.src < 0 ∨ kFind s.kinds d.dst < 0 then 5 else if rngB d then 1 else 0) := by unfold Hid; rw [HE2.out, if_neg hq]
  have hB4 := below_drewN hB3 nq2
  have HV4 := Lib.hid (HV3.out.below (below_drewN (Below.refl w3.heap.size w3) nq2))
  have hk1 := kFind_any s.kinds d.src _ _ HV4.out
  clear HE2 hq HV3 hB3
  have hdw := below_drewN (Below.refl w3.heap.size w3) nq2
  have x0 := cell_below hdw x0
  have x1 := cell_below hdw x1
  have z0 := cell_below hdw z0
  have z1 := cell_below hdw z1
  have z2 := cell_below hdw z2
  have z3 := cell_below hdw z3
  have z4 := cell_below hdw z4
  clear hdw
  generalize w3.drewN nq2 = w4 at *
  generalize kFind s.kinds d.src = a at *
  go_wp2_with fail
  refine hk1.mono ?_
  clear hk1
  rintro e w5 ⟨rfl, hb5⟩
  have x0 := cell_below hb5 x0
  have x1 := cell_below hb5 x1
  have z2 := cell_below hb5 z2
  have z3 := cell_below hb5 z3
  have z4 := cell_below hb5 z4
  have hB5 := hB4.trans (hb5.mono hB4.size)
  by_cases ha : a < 0
  · have HF : Hid (bndE s.kinds (s.bonds.take i) d = 5) := by unfold Hid; rw [HE3.out, if_pos (.inl ha)]
    clear HE3
    go_wp2_with fail
    go_ret
    exact ⟨by rw [HF.out]; rfl, hB5⟩
  have ha' : 0 ≤ a := by omega
  have hk2 := kFind_any s.kinds d.dst _ _ (HV4.out.below hb5)
  generalize kFind s.kinds d.dst = c at *
  go_wp2_with fail
  refine hk2.mono ?_
  clear hk2
  rintro e w6 ⟨rfl, hb6⟩
  have z3 := cell_below hb6 z3
  have z4 := cell_below hb6 z4
  have hB6 := hB5.trans (hb6.mono hB5.size)
  clear x0 x1 z0 z1 z2 hb5 hb6 hB5 hB4 HV4
  by_cases hc : c < 0
  · have HF : Hid (bndE s.kinds (s.bonds.take i) d = 5) := by unfold Hid; rw [HE3.out, if_pos (.inr hc)]
    clear HE3
    go_wp2_with fail
    go_ret
    exact ⟨by rw [HF.out]; rfl, hB6⟩
  have hc' : 0 ≤ c := by omega
  have HE4 : Hid (bndE s.kinds (s.bonds.take i) d = if rngB d then 1 else 0) := by unfold Hid; rw [HE3.out, if_neg (by omega)]
  have HRB : Hid (rngB d ↔ (d.mn < 0 ∨ 20 < d.mn ∨ (d.mx ≠ -1 ∧ (d.mx < d.mn ∨ 20 < d.mx)))) := Iff.rfl
  clear HE3 ha hc
  generalize d.mn = mn at *
  generalize d.mx = mx at *
  by_cases hr : rngB d
  · have HF : Hid (bndE s.kinds (s.bonds.take i) d = 1) := by unfold Hid; rw [HE4.out, if_pos hr]
    have hr2 := HRB.out.1 hr
    clear HE4 HRB hr
    by_cases e1 : mn < 0
    · clear hr2
      go_wp2_with fail
      go_ret
      exact ⟨by rw [HF.out]; rfl, hB6⟩
    have e1' : 0 ≤ mn := by omega
    by_cases e2 : 20 < mn
    · clear hr2 e1
      go_wp2_with fail
      go_ret
      exact ⟨by rw [HF.out]; rfl, hB6⟩
    have e2' : mn ≤ 20 := by omega
    have e3 : (mx != -1) = true := bne_iff_ne.2 (by omega)
    have e3' : ¬ mx = -1 := by omega
    by_cases e4 : mx < mn
    · clear hr2 e1 e2
      go_wp2_with fail
      go_ret
      exact ⟨by rw [HF.out]; rfl, hB6⟩
    have e4' : mn ≤ mx := by omega
    have e5 : 20 < mx := by omega
    clear hr2 e1 e2 e4
    go_wp2_with fail
    go_ret
    exact ⟨by rw [HF.out]; rfl, hB6⟩
  · have HF : Hid (bndE s.kinds (s.bonds.take i) d = 0) := by unfold Hid; rw [HE4.out, if_neg hr]
    have hr2 : ¬ (mn < 0 ∨ 20 < mn ∨ (mx ≠ -1 ∧ (mx < mn ∨ 20 < mx))) := fun h => hr (HRB.out.2 h)
    have e1' : 0 ≤ mn := by omega
    have e2' : mn ≤ 20 := by omega
    clear HE4 HRB hr
    by_cases e3 : mx = -1
    · subst e3
      clear hr2
      go_wp2_with fail
      go_ret
      exact ⟨by rw [HF.out]; rfl, hB6⟩
    have e3' : (mx != -1) = true := bne_iff_ne.2 e3
    have e4' : mn ≤ mx := by omega
    have e5' : mx ≤ 20 := by omega
    clear hr2
    go_wp2_with fail
    go_ret
    exact ⟨by rw [HF.out]; rfl, hB6⟩
end Go.Proofs.YtkaolglpmajeaaaGreat

/- Contract: graph.Node. -/
namespace Go.Proofs.YtkaolglpmajeaaaGreat
open Go Go.RowKit

def zeroN : Nod := ⟨0, .empty, []⟩
def nodeE (g : Grf) (id : Int) : Int := if grfE g = 0 then (if fhas g.nodes id then 0 else 5) else grfE g
def nodeR (g : Grf) (id : Int) : Nod := if nodeE g id = 0 then (g.nodes[fpos g.nodes id]?).getD zeroN else zeroN
theorem nod_rec2 {n : Nod} (h : nodE n = 0) : recE n.props = 0 := by
  unfold nodE at h
  split at h
  · omega
  · split at h
    · exact h
    · rename_i h2; exact absurd h h2
/-- A node and an error. -/
def RetN (n : Nod) (err : Int) (w : World) (e : Ending) (w' : World) : Prop := ∃ u, e = .returned (.tuple #[.agg #[.int .i64 n.id, .string n.kind, u], errV err]) ∧ Sl prpL w' u n.props ∧ Below w.heap.size w w'
end Go.Proofs.YtkaolglpmajeaaaGreat

/- Plain: ends of ties of a graph; as many go out as come in, but for those that lead nowhere. No condition. -/
namespace Go.Proofs.YtkaolglpmajeaaaGreat

def endT (back : Bool) (bond : ByteArray) (id : Int) (t : Tie) : Bool := decide (t.bond = bond) && (if back then t.dst == id else t.src == id)
def endX (back : Bool) (t : Tie) : Int := if back then t.src else t.dst
/-- Ends of ties of a bond at a node, in the order of the ties. -/
def endsL (ts : List Tie) (id : Int) (bond : ByteArray) (back : Bool) : List Int := (ts.filter (endT back bond id)).map (endX back)
theorem endsL_mem {ts : List Tie} {id : Int} {bond : ByteArray} {back : Bool} {x : Int} (h : x ∈ endsL ts id bond back) : id ∈ endsL ts x bond (!back) := by
  unfold endsL at h ⊢
  obtain ⟨t, ht, rfl⟩ := List.mem_map.1 h
  obtain ⟨h1, h2⟩ := List.mem_filter.1 ht
  unfold endT at h2
  simp only [Bool.and_eq_true, decide_eq_true_eq] at h2
  obtain ⟨h3, h4⟩ := h2
  refine List.mem_map.2 ⟨t, List.mem_filter.2 ⟨h1, ?_⟩, ?_⟩
  · unfold endT endX
    cases back <;> simp [h3]
  · unfold endX
    cases back <;> simpa using h4
def idsN (l : List Nod) : List Int := l.map (·.id)
theorem ids_nodup {l : List Nod} (hc : chain nodLt l = true) {k : Nat} {n : Nod} (hn : l[k]? = some n) : n.id ∉ (idsN l).take k := by
  intro h
  obtain ⟨j, hj⟩ := List.mem_iff_getElem?.1 h
  rw [List.getElem?_take] at hj
  split at hj
  · unfold idsN at hj
    rw [List.getElem?_map] at hj
    cases hm : l[j]? with
    | none => rw [hm] at hj; cases hj
    | some m =>
      rw [hm] at hj
      have : m.id = n.id := by simpa using hj
      have := chain_lt2 hc (by assumption : j < k) hm hn
      omega
  · cases hj
theorem ids_has {l : List Nod} (hc : chain nodLt l = true) (id : Int) : fhas l id = decide (id ∈ idsN l) := by
  rw [fhas_any hc, Bool.eq_iff_iff, List.any_eq_true, decide_eq_true_eq]
  unfold idsN
  constructor
  · rintro ⟨n, h1, h2⟩
    exact List.mem_map.2 ⟨n, h1, by simpa using h2⟩
  · intro h
    obtain ⟨n, h1, h2⟩ := List.mem_map.1 h
    exact ⟨n, h1, by simpa using h2⟩
/-- Ties of a bond of which the one end is among some, the other as is asked. -/
def cntT (ts : List Tie) (bond : ByteArray) (back : Bool) (I : List Int) (f : Int → Bool) : Nat :=
  ts.countP fun t => decide (t.bond = bond) && (if back then I.contains t.dst else I.contains t.src) && f (endX back t)
theorem cntT_nil (ts : List Tie) (bond : ByteArray) (back : Bool) (f : Int → Bool) : cntT ts bond back [] f = 0 := by
  unfold cntT
  rw [List.countP_eq_zero]
  intro t _
  cases back <;> simp
theorem countP_or {α : Type} (p q r : α → Bool) (h1 : ∀ a, r a = (p a || q a)) (h2 : ∀ a, ¬ (p a = true ∧ q a = true)) : ∀ l : List α, l.countP r = l.countP p + l.countP q
  | [] => rfl
  | a :: l => by
    rw [List.countP_cons, List.countP_cons, List.countP_cons, countP_or p q r h1 h2 l, h1 a]
    have := h2 a
    cases hp : p a <;> cases hq : q a <;> simp_all <;> omega
theorem cntT_step (ts : List Tie) (bond : ByteArray) (back : Bool) (I : List Int) (id : Int) (f : Int → Bool) (hI : id ∉ I) :
    cntT ts bond back (I ++ [id]) f = cntT ts bond back I f + (endsL ts id bond back).countP f := by
  unfold cntT endsL
  rw [List.countP_map, List.countP_filter]
  refine countP_or _ _ _ (fun t => ?_) (fun t => ?_) ts
  · unfold endT
    cases back <;> simp only [List.contains_append, List.contains_cons, List.contains_nil, Bool.or_false, Function.comp_apply, if_true, if_false, Bool.false_eq_true] <;>
      cases decide (t.bond = bond) <;> simp [Bool.and_or_distrib_right, Bool.and_comm]
  · unfold endT
    cases back <;> (simp only [Function.comp_apply, if_true, if_false, Bool.false_eq_true, Bool.and_eq_true, decide_eq_true_eq, List.contains_iff_mem, beq_iff_eq]; rintro ⟨⟨⟨_, h1⟩, _⟩, _, _, h2⟩; rw [h2] at h1; exact hI h1)
theorem cntT_split (ts : List Tie) (bond : ByteArray) (back : Bool) (I : List Int) (f : Int → Bool) : cntT ts bond back I (fun _ => true) = cntT ts bond back I f + cntT ts bond back I (fun x => !f x) := by
  unfold cntT
  refine countP_or _ _ _ (fun t => ?_) (fun t => ?_) ts
  · show (decide (t.bond = bond) && (if back then I.contains t.dst else I.contains t.src) && true) = ((decide (t.bond = bond) && (if back then I.contains t.dst else I.contains t.src) && f (endX back t)) || (decide (t.bond = bond) && (if back then I.contains t.dst else I.contains t.src) && !f (endX back t)))
    generalize (decide (t.bond = bond) && (if back then I.contains t.dst else I.contains t.src)) = c
    generalize f (endX back t) = b
    cases c <;> cases b <;> rfl
  · show ¬ ((decide (t.bond = bond) && (if back then I.contains t.dst else I.contains t.src) && f (endX back t)) = true ∧ (decide (t.bond = bond) && (if back then I.contains t.dst else I.contains t.src) && !f (endX back t)) = true)
    generalize (decide (t.bond = bond) && (if back then I.contains t.dst else I.contains t.src)) = c
    generalize f (endX back t) = b
    cases c <;> cases b <;> simp
theorem cntT_turn (ts : List Tie) (bond : ByteArray) (I : List Int) : cntT ts bond false I (fun x => I.contains x) = cntT ts bond true I (fun x => I.contains x) := by
  unfold cntT
  congr 1
  funext t
  unfold endX
  cases decide (t.bond = bond) <;> simp [Bool.and_comm]
/-- As many go out as come in, but for those that lead nowhere. -/
theorem ends_law (ts : List Tie) (bond : ByteArray) (I : List Int) :
    (cntT ts bond false I (fun _ => true) : Int) - cntT ts bond true I (fun _ => true) = cntT ts bond false I (fun x => !I.contains x) - cntT ts bond true I (fun x => !I.contains x) := by
  have h1 := cntT_split ts bond false I (fun x => I.contains x)
  have h2 := cntT_split ts bond true I (fun x => I.contains x)
  have h3 := cntT_turn ts bond I
  omega
theorem take_snoc_ids {l : List Nod} {k : Nat} {n : Nod} (hn : l[k]? = some n) : (idsN l).take (k + 1) = (idsN l).take k ++ [n.id] := by
  rw [List.take_add_one]
  have : (idsN l)[k]? = some n.id := by unfold idsN; rw [List.getElem?_map, hn]; rfl
  rw [this]; rfl
theorem cntT_le (ts : List Tie) (bond : ByteArray) (back : Bool) (I : List Int) (f : Int → Bool) : cntT ts bond back I f ≤ ts.length := List.countP_le_length
end Go.Proofs.YtkaolglpmajeaaaGreat

/- Contract: slices.Sort at whole numbers, at a row of the call's own. No condition. -/
namespace Go.Proofs.YtkaolglpmajeaaaGreat
open Go Go.RowKit Go.Sort Go.Proofs

-- written by sortlay.py for the seat YtkaolglpmajeaaaGreat
def sortLay_ren : Go.Shelf.Ren := ⟨fun | 5 => 83 | 8 => 101 | 7 => 100 | 19 => 119 | 20 => 120 | 10 => 110 | 11 => 111 | 12 => 112 | 13 => 113 | 14 => 114 | 15 => 115 | 16 => 116 | 17 => 117 | 18 => 118 | 30 => 123 | 31 => 124 | 32 => 125 | 33 => 126 | 34 => 127 | 35 => 64 | 40 => 129 | n => n, fun | 23 => 123 | 25 => 3 | 3 => 3 | 32 => 142 | 22 => 123 | 0 => 0 | 44 => 186 | 46 => 188 | 4 => 4 | 36 => 179 | 35 => 178 | 41 => 103 | 5 => 5 | 9 => 9 | 53 => 189 | 57 => 193 | 63 => 196 | 64 => 197 | n => n, fun | n => n⟩
theorem sortLay : Go.Proofs.SlLaysM.n5 Tryz.prog sortLay_ren := {
  mixed := by kernel_rfl,
  f5 := ⟨Tryz.f83.name, by decide, Tryz.func83.trans (congrArg some (by kernel_rfl))⟩,
  f7 := ⟨Tryz.f100.name, by decide, Tryz.func100.trans (congrArg some (by kernel_rfl))⟩,
  f8 := Tryz.func101.trans (congrArg some (by kernel_rfl)),
  f10 := ⟨Tryz.f110.name, by decide, Tryz.func110.trans (congrArg some (by kernel_rfl))⟩,
  f11 := ⟨Tryz.f111.name, by decide, Tryz.func111.trans (congrArg some (by kernel_rfl))⟩,
  f12 := ⟨Tryz.f112.name, by decide, Tryz.func112.trans (congrArg some (by kernel_rfl))⟩,
  f13 := ⟨Tryz.f113.name, by decide, Tryz.func113.trans (congrArg some (by kernel_rfl))⟩,
  f14 := ⟨Tryz.f114.name, by decide, Tryz.func114.trans (congrArg some (by kernel_rfl))⟩,
  f15 := ⟨Tryz.f115.name, by decide, Tryz.func115.trans (congrArg some (by kernel_rfl))⟩,
  f16 := ⟨Tryz.f116.name, by decide, Tryz.func116.trans (congrArg some (by kernel_rfl))⟩,
  f17 := ⟨Tryz.f117.name, by decide, Tryz.func117.trans (congrArg some (by kernel_rfl))⟩,
  f18 := ⟨Tryz.f118.name, by decide, Tryz.func118.trans (congrArg some (by kernel_rfl))⟩,
  f19 := Tryz.func119.trans (congrArg some (by kernel_rfl)),
  f20 := Tryz.func120.trans (congrArg some (by kernel_rfl)),
  f30 := ⟨Tryz.f123.name, by decide, Tryz.func123.trans (congrArg some (by kernel_rfl))⟩,
  f31 := Tryz.func124.trans (congrArg some (by kernel_rfl)),
  f32 := Tryz.func125.trans (congrArg some (by kernel_rfl)),
  f33 := ⟨Tryz.f126.name, by decide, Tryz.func126.trans (congrArg some (by kernel_rfl))⟩,
  f34 := ⟨Tryz.f127.name, by decide, Tryz.func127.trans (congrArg some (by kernel_rfl))⟩,
  f35 := ⟨Tryz.f64.name, by decide, Tryz.func64.trans (congrArg some (by kernel_rfl))⟩,
  f40 := ⟨Tryz.f129.name, by decide, Tryz.func129.trans (congrArg some (by kernel_rfl))⟩,
  t0 := Tryz.underlying0,
  a0 := Tryz.isAgg0,
  z0 := Tryz.sizeOf0,
  v0 := Tryz.zeroValue0,
  t3 := Tryz.underlying3,
  a3 := Tryz.isAgg3,
  z3 := Tryz.sizeOf3,
  v3 := Tryz.zeroValue3,
  t4 := Tryz.underlying4,
  a4 := Tryz.isAgg4,
  z4 := Tryz.sizeOf4,
  v4 := Tryz.zeroValue4,
  t5 := Tryz.underlying5,
  a5 := Tryz.isAgg5,
  z5 := Tryz.sizeOf5,
  v5 := Tryz.zeroValue5,
  t9 := Tryz.underlying9,
  a9 := Tryz.isAgg9,
  z9 := Tryz.sizeOf9,
  v9 := Tryz.zeroValue9,
  t22 := Tryz.underlying123,
  a22 := Tryz.isAgg123,
  z22 := Tryz.sizeOf123,
  v22 := Tryz.zeroValue123,
  t23 := Tryz.underlying123,
  a23 := Tryz.isAgg123,
  z23 := Tryz.sizeOf123,
  v23 := Tryz.zeroValue123,
  t25 := Tryz.underlying3,
  a25 := Tryz.isAgg3,
  z25 := Tryz.sizeOf3,
  v25 := Tryz.zeroValue3,
  t32 := Tryz.underlying142,
  a32 := Tryz.isAgg142,
  z32 := Tryz.sizeOf142,
  v32 := Tryz.zeroValue142,
  t35 := Tryz.underlying178,
  a35 := Tryz.isAgg178,
  z35 := Tryz.sizeOf178,
  v35 := Tryz.zeroValue178,
  t36 := Tryz.underlying179,
  a36 := Tryz.isAgg179,
  z36 := Tryz.sizeOf179,
  v36 := Tryz.zeroValue179,
  t41 := Tryz.underlying103,
  a41 := Tryz.isAgg103,
  z41 := Tryz.sizeOf103,
  v41 := Tryz.zeroValue103,
  t44 := Tryz.underlying186,
  a44 := Tryz.isAgg186,
  z44 := Tryz.sizeOf186,
  v44 := Tryz.zeroValue186,
  t46 := Tryz.underlying188,
  a46 := Tryz.isAgg188,
  z46 := Tryz.sizeOf188,
  v46 := Tryz.zeroValue188,
  t53 := Tryz.underlying189,
  a53 := Tryz.isAgg189,
  z53 := Tryz.sizeOf189,
  v53 := Tryz.zeroValue189,
  t57 := Tryz.underlying193,
  a57 := Tryz.isAgg193,
  z57 := Tryz.sizeOf193,
  v57 := Tryz.zeroValue193,
  t63 := Tryz.underlying196,
  a63 := Tryz.isAgg196,
  z63 := Tryz.sizeOf196,
  v63 := Tryz.zeroValue196,
  t64 := Tryz.underlying197,
  a64 := Tryz.isAgg197,
  z64 := Tryz.sizeOf197,
  v64 := Tryz.zeroValue197 }

theorem heap_sorted_at {w : World} {g o n : Nat} {os : Array Obj} {cur : Array Value} {e : TypeId} {fr : Nat × Nat} (d : Array Int) (hb : w.heap[g]? = some (.cells cur e fr)) :
    (grow (putRow (Value.int .i64) (Sort.ahead w n) g o d) os).heap[g]? = some (.cells (putCells (Value.int .i64) o d cur) e fr) := by
  have hg : g < w.heap.size := (Array.getElem?_eq_some_iff.1 hb).1
  rw [heap_grow_old _ _ (by simpa using hg)]
  simp [putRow, mapBlock, Sort.ahead, Array.getElem?_modify, hb, onCells]
theorem grownBy_sorted_at {w : World} {g o n : Nat} {os : Array Obj} (d : Array Int) : w.grownBy (grow (putRow (Value.int .i64) (Sort.ahead w n) g o d) os) (some g) := by
  refine ⟨rfl, rfl, rfl, by simp, fun k hk hne => ?_⟩
  rw [heap_grow_old _ _ (by simpa using hk)]
  have : g ≠ k := fun e => hne (by rw [e])
  simp [putRow, mapBlock, Sort.ahead, Array.getElem?_modify, this]
theorem putCells_at (o : Nat) (cur : Array Value) (ts : List Int) (h : o + ts.length ≤ cur.size) : ((putCells (Value.int .i64) o ts.toArray cur).toList.drop o).take ts.length = ts.map (Value.int .i64) := by
  apply List.ext_getElem?
  intro j
  by_cases hj : j < ts.length
  · rw [List.getElem?_take_of_lt hj, List.getElem?_drop, Array.getElem?_toList]
    simp [putCells, hj, show o + j < cur.size by omega]
  · rw [List.getElem?_take_eq_none (by omega), List.getElem?_eq_none (by simp; omega)]
/-- Sorted, in place. -/
def sortI (l : List Int) : List Int := l.mergeSort fun x y => decide (x ≤ y)
theorem sortI_perm (l : List Int) : (sortI l).Perm l := List.mergeSort_perm _ _
theorem sortI_len (l : List Int) : (sortI l).length = l.length := (sortI_perm l).length_eq
theorem sortInts_any (l : List Int) (v : Value) (B : Nat) (w : World) (h : Own w B 3 1 v l.length (l.map (Value.int .i64))) (hl : l.length < 4611686018427387904) :
    Calls Tryz.prog 83 #[v] w fun e w' => e = .returned (.tuple #[]) ∧ Own w' B 3 1 v (sortI l).length ((sortI l).map (Value.int .i64)) ∧ w.grownBy w' v.ownBlock := by
  have hlen := sortI_len l
  have hx := h
  rcases h.2 with ⟨rfl, h0⟩ | ⟨g, o, cap, cur, rfl, hb, hg, h1, h2, h3, h4⟩
  · obtain rfl : l = [] := List.length_eq_zero_iff.1 h0
    have hc := AnyM.slices_Sort_int_none sortLay none 0 w
    change Calls Tryz.prog 83 #[.slice none 0 0] w _ at hc
    refine hc.mono ?_
    rintro e w' ⟨rfl, rfl⟩
    exact ⟨rfl, by simpa [sortI] using hx, grownBy_refl _ _⟩
  · have hH : Holds (Value.int .i64) w g o l.toArray := by
      intro j hj
      have hj' : j < l.length := by simpa using hj
      refine ⟨?_, hx.frozen rfl _⟩
      have := hx.cell rfl (j := j) (u := .int .i64 l[j]) (by simp [hj'])
      rw [this]
      simp [hj']
    have hc := AnyM.slices_Sort_int sortLay g o cap l w hH (Array.getElem?_eq_some_iff.1 hg).1 hl
    change Calls Tryz.prog 83 #[.slice (some ⟨g, o, none⟩) l.length cap] w _ at hc
    refine hc.mono ?_
    rintro e w' ⟨rfl, n, os, rfl⟩
    refine ⟨rfl, ⟨by simp, .inr ⟨g, o, cap, _, by rw [hlen], hb, heap_sorted_at _ hg, by omega, h2, ?_, ?_⟩⟩, grownBy_sorted_at _⟩
    · have : (putCells (Value.int .i64) o (sortI l).toArray cur).size = cur.size := by simp [putCells]
      show o + cap * 1 ≤ (putCells (Value.int .i64) o (sortI l).toArray cur).size
      omega
    · rw [Nat.mul_one]
      exact putCells_at o cur (sortI l) (by omega)
end Go.Proofs.YtkaolglpmajeaaaGreat

/- Contract: graph.Ends. -/
namespace Go.Proofs.YtkaolglpmajeaaaGreat
open Go Go.RowKit

/-- Ends of ties, in order. -/
def endsS (g : Grf) (id : Int) (bond : ByteArray) (back : Bool) : List Int := sortI (endsL g.ties id bond back)
theorem endsL_len (ts : List Tie) (id : Int) (bond : ByteArray) (back : Bool) : (endsL ts id bond back).length ≤ ts.length := by
  unfold endsL; rw [List.length_map]; exact List.length_filter_le _ _
theorem endsL_take {ts : List Tie} {k : Nat} {t : Tie} (ht : ts[k]? = some t) (id : Int) (bond : ByteArray) (back : Bool) :
    endsL (ts.take (k + 1)) id bond back = endsL (ts.take k) id bond back ++ (if endT back bond id t then [endX back t] else []) := by
  unfold endsL
  rw [List.take_add_one, ht, List.filter_append, List.map_append]
  congr 1
  show ((([t] : List Tie).filter (endT back bond id)).map (endX back)) = _
  rw [List.filter_cons]
  split <;> rfl
theorem endX_i64 {t : Tie} (h : t.ok) (back : Bool) : I64 (endX back t) := by
  unfold endX
  cases back
  · exact h.2.2
  · exact h.2.1
theorem eint_info : (Tryz.prog.info? 3).map (fun i => (i.zero, i.size, i.bytes)) = some (some (.int .i64 0), 1, 8) := by kernel_rfl
set_option maxRecDepth 100000 in
set_option maxHeartbeats 8000000 in
theorem ends_any (g : Grf) (id : Int) (bond : ByteArray) (back : Bool) (vn vt : Value) (w : World) (hG : GrfR w vn vt g) (hl : g.ties.length ≤ 1000) :
    Calls Tryz.prog 58 #[.agg #[vn, vt], .int .i64 id, .string bond, .bool back] w fun e w' => ∃ u, e = .returned u ∧ Own w' w.heap.size 3 1 u (endsS g id bond back).length ((endsS g id bond back).map (Value.int .i64)) ∧ (∀ x ∈ endsS g id bond back, I64 x) ∧ Below w.heap.size w w' := by
  obtain ⟨i0, ei, ez, ez1, ez2⟩ := info_parts eint_info
  obtain ⟨An, cn, rfl, _, _⟩ := hG.1.form
  obtain ⟨At, ct, rfl, _, _⟩ := hG.2.form
  have hb0 : Below w.heap.size w (w.alloc (.cells #[.slice An g.nodes.length cn, .slice At g.ties.length ct] 29)) := (Below.refl _ _).alloc (Nat.le_refl _) _
  obtain ⟨x0, x1⟩ := cell_box2 w (.slice An g.nodes.length cn) (.slice At g.ties.length ct) 29
  generalize hW0 : w.alloc (.cells #[.slice An g.nodes.length cn, .slice At g.ties.length ct] 29) = W0 at *
  have HG := Lib.hid (hG.below hb0)
  have hw0 := hb0.size
  have HE : Hid (endsS g id bond back = sortI (endsL g.ties id bond back)) := rfl
  clear hG
  cases back with
  | true =>
    go_enter Tryz.func58, Tryz.ntmps58
    go_wp2_with fail
    clear hW0
    go_loopw [9, 15] (fun v i wr => W0.heap.size ≤ wr.heap.size ∧ ∃ k : Nat, k ≤ g.ties.length ∧ i = .int .i64 k ∧ Below W0.heap.size W0 wr ∧ Own wr W0.heap.size 3 1 v (endsL (g.ties.take k) id bond true).length ((endsL (g.ties.take k) id bond true).map (Value.int .i64))) (fun _ i _ => g.ties.length - (intOf i).toNat)
    case atStart => exact ⟨Nat.le_refl _, 0, Nat.zero_le _, rfl, Below.refl _ _, Own.nil _ _ _ _⟩
    case round =>
      -- true: back; t.dst, t.src: what stands in the box
      obtain ⟨hsz, k, hk, rfl, hbr, hown⟩ := hrel
      have y1 := cell_below hbr x1
      have hBr := hb0.trans (hbr.mono hw0)
      obtain ⟨acc, hacc⟩ : ∃ acc, endsL (g.ties.take k) id bond true = acc := ⟨_, rfl⟩
      have hal : acc.length ≤ k := by
        rw [← hacc]
        exact Nat.le_trans (endsL_len _ _ _ _) (by rw [List.length_take]; omega)
      by_cases hlt : k < g.ties.length
      · obtain ⟨t, ht⟩ : ∃ t, g.ties[k]? = some t := ⟨_, List.getElem?_eq_getElem hlt⟩
        have hlt' : (k : Int) < (g.ties.length : Int) := by omega
        obtain ⟨b, o, rfl, htok, z0, z1, z2⟩ := tie_at (HG.out.below hbr).2 ht
        have HS : Hid (endsL (g.ties.take (k + 1)) id bond true = acc ++ if decide (t.bond = bond) && (t.dst == id) then [t.src] else []) := by
          have := endsL_take ht id bond true
          rw [hacc] at this
          exact this
        have HX : Hid (I64 (t.src)) := endX_i64 htok true
        have hbx : Below wr.heap.size wr (wr.alloc (.cells #[.string t.bond, .int .i64 (t.dst), .int .i64 (t.src)] 46)) := (Below.refl _ _).alloc (Nat.le_refl _) _
        obtain ⟨b0, b1, b2⟩ := cell_box3 wr (.string t.bond) (.int .i64 (t.dst)) (.int .i64 (t.src)) 46
        rw [hacc] at hown
        have hn1 : W0.heap.size ≤ (wr.alloc (.cells #[.string t.bond, .int .i64 (t.dst), .int .i64 (t.src)] 46)).heap.size := by simp; omega
        have HN1 := Lib.hid hn1
        clear ht hacc hn1
        go_upto_region 7 with fail
        generalize wr.alloc (.cells #[.string t.bond, .int .i64 (t.dst), .int .i64 (t.src)] 46) = W1 at *
        have hB1 := hbr.trans (hbx.mono hsz)
        have ho1 := hown.below hbx
        by_cases hq : t.bond = bond
        · have hqb : (t.bond.toList == bond.toList) = true := by rw [hq]; simp
          have hqd : decide (t.bond.toList = bond.toList) = true := by rw [hq]; simp
          have hqe : t.bond.toList = bond.toList := by rw [hq]
          have hqf : decide (t.bond = bond) = true := decide_eq_true hq
          by_cases hp : t.dst = id
          · have HS2 : Hid (endsL (g.ties.take (k + 1)) id bond true = acc ++ [t.src]) := by
              unfold Hid
              rw [HS.out, hqf, hp]
              simp
            have hp' : decide (t.dst = id) = true := decide_eq_true hp
            have hp'' : (t.dst == id) = true := by rw [hp]; simp
            clear hq hqf HS z0 z1 z2
            obtain ⟨Ap, cp, rfl, _, _⟩ := hown.form
            have ho2 := ho1.alloc (.cells #[.int .i64 (t.src)] 3)
            go_wp2_with (at_builtin; refine wpList_append_q _ rfl (.tmp 36) (.tmp 39) _ rfl W0.heap.size 3 i0 (.int .i64 0) 1 8 Tryz.underlying123 ei ez ez1 ez2 rfl (by decide) (.slice Ap acc.length cp) acc.length (acc.map (Value.int .i64)) rfl ho2 (some ⟨W1.heap.size, 0, none⟩) 1 1 [.int .i64 (t.src)] rfl rfl (fun _ => ⟨_, rfl, cell_one_new W1 (.int .i64 (t.src)) 3⟩) (by simp [Value.oneCell']) (by unfold maxLen; omega) (by omega) (by have := HN1.out; simp; omega) ?_; intro v7 w7 hown7 hg7 hat7)
            have hb7 : Below W0.heap.size W0 w7 := (hB1.alloc HN1.out _).grown hg7 (by have := HN1.out; simp; omega) (fun kk hkk => (ho1.lt kk hkk).1)
            have ho7 : Own w7 W0.heap.size 3 1 v7 (acc ++ [t.src]).length ((acc ++ [t.src]).map (Value.int .i64)) := by simpa using hown7
            have hs7 := hb7.size
            clear hg7 hat7 hown7
            go_roundw
            case rel => exact ⟨hs7, k + 1, by omega, by go_num, hb7, by rw [HS2.out]; exact ho7⟩
            case measure => simp [intOf]; omega
          · have HS2 : Hid (endsL (g.ties.take (k + 1)) id bond true = acc) := by
              unfold Hid
              rw [HS.out, hqf]
              simp [hp]
            have hp' : decide (t.dst = id) = false := decide_eq_false hp
            have hp'' : (t.dst == id) = false := by simp [hp]
            clear hq hqf HS z0 z1 z2
            have hs7 := hB1.size
            go_wp2_with fail
            go_roundw
            case rel => exact ⟨hs7, k + 1, by omega, by go_num, hB1, by rw [HS2.out]; exact ho1⟩
            case measure => simp [intOf]; omega
        · have hqb : (t.bond.toList == bond.toList) = false := by rw [bytes_beq]; exact decide_eq_false hq
          have hqc : ¬ t.bond.toList = bond.toList := by rw [bytes_eq]; exact hq
          have HS2 : Hid (endsL (g.ties.take (k + 1)) id bond true = acc) := by
            unfold Hid
            rw [HS.out, decide_eq_false hq]
            simp
          clear hq HS z0 z1 z2
          have hs7 := hB1.size
          go_wp2_with fail
          go_roundw
          case rel => exact ⟨hs7, k + 1, by omega, by go_num, hB1, by rw [HS2.out]; exact ho1⟩
          case measure => simp [intOf]; omega
      · obtain rfl : k = g.ties.length := by omega
        rw [List.take_length] at hacc
        have HAL : Hid (∀ x ∈ acc, I64 x) := fun x hx => by
          rw [← hacc] at hx
          unfold endsL at hx
          obtain ⟨t, ht, rfl⟩ := List.mem_map.1 hx
          obtain ⟨i, hi⟩ := List.mem_iff_getElem?.1 (List.mem_filter.1 ht).1
          obtain ⟨b, o, hv, htok, _⟩ := tie_at HG.out.2 hi
          exact endX_i64 htok _
        have HE2 : Hid (endsS g id bond true = sortI acc) := by unfold Hid; rw [HE.out, hacc]
        rw [List.take_length, hacc] at hown
        have hst := sortInts_any acc _ _ _ hown (by omega)
        obtain ⟨Ap, cp, rfl, _, _⟩ := hown.form
        clear hacc
        go_wp2_with fail
        refine hst.mono ?_
        clear hst
        rintro e w5 ⟨rfl, ho5, hg5⟩
        have hb5 : Below W0.heap.size W0 w5 := hbr.grown hg5 (by omega) (fun kk hkk => (hown.lt kk hkk).1)
        clear hown hg5
        go_wp2_with fail
        go_ret
        refine ⟨_, rfl, ?_, ?_, hb0.trans (hb5.mono hw0)⟩
        · rw [HE2.out]
          rw [sortI_len] at ho5 ⊢
          exact ho5.mono hw0
        · rw [HE2.out]
          exact fun x hx => HAL.out x ((sortI_perm acc).mem_iff.1 hx)
  | false =>
    go_enter Tryz.func58, Tryz.ntmps58
    go_wp2_with fail
    clear hW0
    go_loopw [9, 15] (fun v i wr => W0.heap.size ≤ wr.heap.size ∧ ∃ k : Nat, k ≤ g.ties.length ∧ i = .int .i64 k ∧ Below W0.heap.size W0 wr ∧ Own wr W0.heap.size 3 1 v (endsL (g.ties.take k) id bond false).length ((endsL (g.ties.take k) id bond false).map (Value.int .i64))) (fun _ i _ => g.ties.length - (intOf i).toNat)
    case atStart => exact ⟨Nat.le_refl _, 0, Nat.zero_le _, rfl, Below.refl _ _, Own.nil _ _ _ _⟩
    case round =>
      -- false: back; t.src, t.dst: what stands in the box
      obtain ⟨hsz, k, hk, rfl, hbr, hown⟩ := hrel
      have y1 := cell_below hbr x1
      have hBr := hb0.trans (hbr.mono hw0)
      obtain ⟨acc, hacc⟩ : ∃ acc, endsL (g.ties.take k) id bond false = acc := ⟨_, rfl⟩
      have hal : acc.length ≤ k := by
        rw [← hacc]
        exact Nat.le_trans (endsL_len _ _ _ _) (by rw [List.length_take]; omega)
      by_cases hlt : k < g.ties.length
      · obtain ⟨t, ht⟩ : ∃ t, g.ties[k]? = some t := ⟨_, List.getElem?_eq_getElem hlt⟩
        have hlt' : (k : Int) < (g.ties.length : Int) := by omega
        obtain ⟨b, o, rfl, htok, z0, z1, z2⟩ := tie_at (HG.out.below hbr).2 ht
        have HS : Hid (endsL (g.ties.take (k + 1)) id bond false = acc ++ if decide (t.bond = bond) && (t.src == id) then [t.dst] else []) := by
          have := endsL_take ht id bond false
          rw [hacc] at this
          exact this
        have HX : Hid (I64 (t.dst)) := endX_i64 htok false
        have hbx : Below wr.heap.size wr (wr.alloc (.cells #[.string t.bond, .int .i64 (t.src), .int .i64 (t.dst)] 46)) := (Below.refl _ _).alloc (Nat.le_refl _) _
        obtain ⟨b0, b1, b2⟩ := cell_box3 wr (.string t.bond) (.int .i64 (t.src)) (.int .i64 (t.dst)) 46
        rw [hacc] at hown
        have hn1 : W0.heap.size ≤ (wr.alloc (.cells #[.string t.bond, .int .i64 (t.src), .int .i64 (t.dst)] 46)).heap.size := by simp; omega
        have HN1 := Lib.hid hn1
        clear ht hacc hn1
        go_upto_region 7 with fail
        generalize wr.alloc (.cells #[.string t.bond, .int .i64 (t.src), .int .i64 (t.dst)] 46) = W1 at *
        have hB1 := hbr.trans (hbx.mono hsz)
        have ho1 := hown.below hbx
        by_cases hq : t.bond = bond
        · have hqb : (t.bond.toList == bond.toList) = true := by rw [hq]; simp
          have hqd : decide (t.bond.toList = bond.toList) = true := by rw [hq]; simp
          have hqe : t.bond.toList = bond.toList := by rw [hq]
          have hqf : decide (t.bond = bond) = true := decide_eq_true hq
          by_cases hp : t.src = id
          · have HS2 : Hid (endsL (g.ties.take (k + 1)) id bond false = acc ++ [t.dst]) := by
              unfold Hid
              rw [HS.out, hqf, hp]
              simp
            have hp' : decide (t.src = id) = true := decide_eq_true hp
            have hp'' : (t.src == id) = true := by rw [hp]; simp
            clear hq hqf HS z0 z1 z2
            obtain ⟨Ap, cp, rfl, _, _⟩ := hown.form
            have ho2 := ho1.alloc (.cells #[.int .i64 (t.dst)] 3)
            go_wp2_with (at_builtin; refine wpList_append_q _ rfl (.tmp 36) (.tmp 39) _ rfl W0.heap.size 3 i0 (.int .i64 0) 1 8 Tryz.underlying123 ei ez ez1 ez2 rfl (by decide) (.slice Ap acc.length cp) acc.length (acc.map (Value.int .i64)) rfl ho2 (some ⟨W1.heap.size, 0, none⟩) 1 1 [.int .i64 (t.dst)] rfl rfl (fun _ => ⟨_, rfl, cell_one_new W1 (.int .i64 (t.dst)) 3⟩) (by simp [Value.oneCell']) (by unfold maxLen; omega) (by omega) (by have := HN1.out; simp; omega) ?_; intro v7 w7 hown7 hg7 hat7)
            have hb7 : Below W0.heap.size W0 w7 := (hB1.alloc HN1.out _).grown hg7 (by have := HN1.out; simp; omega) (fun kk hkk => (ho1.lt kk hkk).1)
            have ho7 : Own w7 W0.heap.size 3 1 v7 (acc ++ [t.dst]).length ((acc ++ [t.dst]).map (Value.int .i64)) := by simpa using hown7
            have hs7 := hb7.size
            clear hg7 hat7 hown7
            go_roundw
            case rel => exact ⟨hs7, k + 1, by omega, by go_num, hb7, by rw [HS2.out]; exact ho7⟩
            case measure => simp [intOf]; omega
          · have HS2 : Hid (endsL (g.ties.take (k + 1)) id bond false = acc) := by
              unfold Hid
              rw [HS.out, hqf]
              simp [hp]
            have hp' : decide (t.src = id) = false := decide_eq_false hp
            have hp'' : (t.src == id) = false := by simp [hp]
            clear hq hqf HS z0 z1 z2
            have hs7 := hB1.size
            go_wp2_with fail
            go_roundw
            case rel => exact ⟨hs7, k + 1, by omega, by go_num, hB1, by rw [HS2.out]; exact ho1⟩
            case measure => simp [intOf]; omega
        · have hqb : (t.bond.toList == bond.toList) = false := by rw [bytes_beq]; exact decide_eq_false hq
          have hqc : ¬ t.bond.toList = bond.toList := by rw [bytes_eq]; exact hq
          have HS2 : Hid (endsL (g.ties.take (k + 1)) id bond false = acc) := by
            unfold Hid
            rw [HS.out, decide_eq_false hq]
            simp
          clear hq HS z0 z1 z2
          have hs7 := hB1.size
          go_wp2_with fail
          go_roundw
          case rel => exact ⟨hs7, k + 1, by omega, by go_num, hB1, by rw [HS2.out]; exact ho1⟩
          case measure => simp [intOf]; omega
      · obtain rfl : k = g.ties.length := by omega
        rw [List.take_length] at hacc
        have HAL : Hid (∀ x ∈ acc, I64 x) := fun x hx => by
          rw [← hacc] at hx
          unfold endsL at hx
          obtain ⟨t, ht, rfl⟩ := List.mem_map.1 hx
          obtain ⟨i, hi⟩ := List.mem_iff_getElem?.1 (List.mem_filter.1 ht).1
          obtain ⟨b, o, hv, htok, _⟩ := tie_at HG.out.2 hi
          exact endX_i64 htok _
        have HE2 : Hid (endsS g id bond false = sortI acc) := by unfold Hid; rw [HE.out, hacc]
        rw [List.take_length, hacc] at hown
        have hst := sortInts_any acc _ _ _ hown (by omega)
        obtain ⟨Ap, cp, rfl, _, _⟩ := hown.form
        clear hacc
        go_wp2_with fail
        refine hst.mono ?_
        clear hst
        rintro e w5 ⟨rfl, ho5, hg5⟩
        have hb5 : Below W0.heap.size W0 w5 := hbr.grown hg5 (by omega) (fun kk hkk => (hown.lt kk hkk).1)
        clear hown hg5
        go_wp2_with fail
        go_ret
        refine ⟨_, rfl, ?_, ?_, hb0.trans (hb5.mono hw0)⟩
        · rw [HE2.out]
          rw [sortI_len] at ho5 ⊢
          exact ho5.mono hw0
        · rw [HE2.out]
          exact fun x hx => HAL.out x ((sortI_perm acc).mem_iff.1 hx)
end Go.Proofs.YtkaolglpmajeaaaGreat
