/- Parts: OpenF, OwnO, FarP, DoA. -/
import Derived.Test.YtfjnkidblalckaaMg11
import Derived.Test.YtfjnkidblalckaaMg15
import Derived.Test.YtfjnkidblalckaaMg04
import Derived.Test.YtfjnkidblalckaaMg06
import Derived.Test.YtfjnkidblalckaaMg10
/- Plain: ops as an argument. -/
namespace Go.Proofs.Ytfjnkidblalckaa
open Go Go.RowKit Go.Deep Go.ChangeShapes Go.WideShapes Go.Joins

def oprL : Lay Opr where
  sz := 11
  cells w o cs := ∃ vr, cs = (oprCells o vr).toList ∧ OprR w vr o
  len h := by obtain ⟨v, rfl, _⟩ := h; rfl
  below hb h := by obtain ⟨v, rfl, h1⟩ := h; exact ⟨v, rfl, h1.below hb⟩
set_option maxRecDepth 100000 in
theorem o_opr : Opens Try.prog oprL 42 := by
  intro H enc w base spare held fuel cs x hx hb
  obtain ⟨hl, hf⟩ := field_at Try.underlying42 hx hb
  rw [show Try.prog.cellsOf 42 = 11 from by kernel_rfl] at hl
  match cs, hl with
  | [c0, c1, c2, c3, c4, c5, c6, c7, c8, c9, c10], _ =>
    obtain ⟨a0, e0, h0⟩ := hf (L := intL) 0 _ 1 rfl (by kernel_rfl) oInt
    have e0 : [c0] = [.int .i64 a0] := e0
    injection e0 with e0 _
    subst e0
    obtain ⟨a1, vr, e1, k0, k1, k2⟩ := hf (L := nodL) 1 _ 3 rfl (by kernel_rfl) o_nod
    have e1 : [c1, c2, c3] = [.int .i64 a1.id, .string a1.kind, vr] := e1
    injection e1 with e1 e2
    injection e2 with e2 e3
    injection e3 with e3 _
    subst e1; subst e2; subst e3
    obtain ⟨a2, e4, h4⟩ := hf (L := prpL) 2 _ 4 rfl (by kernel_rfl) o_prp
    have e4 : [c4, c5, c6, c7] = [.string a2.name, .int .i64 a2.v.ty, .int .i64 a2.v.n, .string a2.v.s] := e4
    injection e4 with e4 e5
    injection e5 with e5 e6
    injection e6 with e6 e7
    injection e7 with e7 _
    subst e4; subst e5; subst e6; subst e7
    obtain ⟨a3, e8, h8⟩ := hf (L := tieL) 3 _ 3 rfl (by kernel_rfl) o_tie
    have e8 : [c8, c9, c10] = [.string a3.bond, .int .i64 a3.src, .int .i64 a3.dst] := e8
    injection e8 with e8 e9
    injection e9 with e9 e10
    injection e10 with e10 _
    subst e8; subst e9; subst e10
    exact ⟨⟨a0, a1, a2, a3⟩, c3, rfl, ⟨k2, k1, k0, h4, h8⟩⟩
theorem o_oprs : Opens Try.prog (slL oprL) 26 := Opens.slice Try.underlying26 (by kernel_rfl) (by decide) o_opr
theorem opr_at {w : World} {A : Option Addr} {k n c : Nat} {l : List Opr} (h : Sl oprL w (.slice A n c) l) {d : Opr} (hk : l[k]? = some d) :
    ∃ b o vr, A = some ⟨b, o, none⟩ ∧ OprR w vr d ∧ ∀ j u, (oprCells d vr).toList[j]? = some u → w.cell? ⟨b, o + k * 11 + j, none⟩ = some u := by
  obtain ⟨b, o, hA, hall⟩ := h.all (len_pos hk)
  obtain ⟨cs, ⟨vr, rfl, hr⟩, hx⟩ := hall k d hk
  exact ⟨b, o, vr, hA, hr, fun j u hj => by have h := hx j u hj; rw [← Nat.add_assoc] at h; exact h⟩
end Go.Proofs.Ytfjnkidblalckaa

/- Plain: rows of ops that the call owns, each op's record its own. No condition. -/
namespace Go.Proofs.Ytfjnkidblalckaa
open Go Go.RowKit

/-- Ops of which each one's record is the call's own. -/
def OwnOps (w : World) (B : Nat) : List Opr → List Value → Prop
  | [], xs => xs = []
  | d :: l, xs => ∃ u ys, xs = (oprCells d u).toList ++ ys ∧ I64 d.node.id ∧ Sm d.node.kind ∧ d.prop.ok ∧ d.tie.ok ∧ OwnP w B u d.node.props ∧ OwnOps w B l ys
theorem OwnOps.same {w w' : World} {B : Nat} (hs : Same 38 w w') : ∀ {l : List Opr} {xs : List Value}, OwnOps w B l xs → OwnOps w' B l xs
  | [], _, h => h
  | _ :: _, _, h => by
    obtain ⟨u, ys, rfl, h1, h2, h3, h4, h5, h6⟩ := h
    exact ⟨u, ys, rfl, h1, h2, h3, h4, ⟨h5.1.same hs, h5.2⟩, h6.same hs⟩
theorem OwnOps.below {w w' : World} {B : Nat} (hb : Below w.heap.size w w') {l : List Opr} {xs : List Value} (h : OwnOps w B l xs) : OwnOps w' B l xs := h.same (.below hb)
theorem OwnOps.append {w : World} {B : Nat} : ∀ {l m : List Opr} {xs ys : List Value}, OwnOps w B l xs → OwnOps w B m ys → OwnOps w B (l ++ m) (xs ++ ys)
  | [], _, xs, _, h, k => by rw [show xs = [] from h]; simpa using k
  | _ :: _, _, _, _, h, k => by
    obtain ⟨u, zs, rfl, h1, h2, h3, h4, h5, h6⟩ := h
    exact ⟨u, zs ++ _, by simp, h1, h2, h3, h4, h5, h6.append k⟩
theorem OwnOps.one {w : World} {B : Nat} {d : Opr} {u : Value} (h1 : I64 d.node.id) (h2 : Sm d.node.kind) (h3 : d.prop.ok) (h4 : d.tie.ok) (h5 : OwnP w B u d.node.props) : OwnOps w B [d] (oprCells d u).toList :=
  ⟨u, [], by simp, h1, h2, h3, h4, h5, rfl⟩
theorem OwnOps.mono {w : World} {B B' : Nat} (hB : B' ≤ B) : ∀ {l : List Opr} {xs : List Value}, OwnOps w B l xs → OwnOps w B' l xs
  | [], _, h => h
  | _ :: _, _, h => by
    obtain ⟨u, ys, rfl, h1, h2, h3, h4, h5, h6⟩ := h
    exact ⟨u, ys, rfl, h1, h2, h3, h4, ⟨h5.1.mono hB, h5.2⟩, h6.mono hB⟩
theorem OwnOps.row {w : World} {B : Nat} : ∀ {l : List Opr} {xs : List Value}, OwnOps w B l xs → Row oprL w l xs
  | [], _, h => h
  | _ :: _, _, h => by
    obtain ⟨u, ys, rfl, h1, h2, h3, h4, h5, h6⟩ := h
    exact ⟨_, ys, rfl, ⟨u, rfl, h5.1.prps h5.2, h2, h1, h3, h4⟩, h6.row⟩
theorem Own.oprs {w : World} {B B' : Nat} {e : TypeId} {v : Value} {l : List Opr} {xs : List Value} (h : Own w B e 11 v l.length xs) (hn : OwnOps w B' l xs) : Sl oprL w v l := Own.row (L := oprL) h hn.row
theorem OwnP.none (w : World) (B : Nat) : OwnP w B (.slice none 0 0) [] := ⟨Own.nil _ _ _ _, fun p hp => by simp at hp⟩
def opr0 : Value := .agg #[.int .i64 0, .int .i64 0, .string .empty, .slice none 0 0, .string .empty, .int .i64 0, .int .i64 0, .string .empty, .string .empty, .int .i64 0, .int .i64 0]
theorem opr_info : (Try.prog.info? 42).map (fun i => (i.zero, i.size, i.bytes)) = some (some opr0, 11, 136) := by kernel_rfl
/-- A row of ops that the call owns. -/
structure OpsW (B : Nat) (w : World) (v : Value) (l : List Opr) (xs : List Value) : Prop where
  o : Own w B 42 11 v l.length xs
  r : OwnOps w B l xs
  b : B ≤ w.heap.size
theorem OpsW.nil {B : Nat} {w : World} (h : B ≤ w.heap.size) : OpsW B w (.slice none 0 0) [] [] := ⟨Own.nil _ _ _ _, rfl, h⟩
theorem OpsW.below {B : Nat} {w w' : World} {v : Value} {l : List Opr} {xs : List Value} (h : OpsW B w v l xs) (hb : Below w.heap.size w w') : OpsW B w' v l xs := ⟨h.o.below hb, h.r.below hb, Nat.le_trans h.b hb.size⟩
theorem OpsW.sl {B : Nat} {w : World} {v : Value} {l : List Opr} {xs : List Value} (h : OpsW B w v l xs) : Sl oprL w v l := h.o.oprs h.r
/-- More ops behind it. -/
theorem OpsW.push {B : Nat} {wx w7 : World} {v v7 : Value} {l m : List Opr} {xs ys : List Value} {n : Nat} (hn : l.length = n) (hO : Own wx B 42 11 v n xs) (hR : OwnOps wx B l xs) (hb : B ≤ wx.heap.size) (hM : OwnOps wx B m ys)
    (ho : Own w7 B 42 11 v7 (n + m.length) (xs ++ ys)) (hg : wx.grownBy w7 v.ownBlock) : OpsW B w7 v7 (l ++ m) (xs ++ ys) ∧ Below B wx w7 ∧ Same 38 wx w7 := by
  subst hn
  have hs : Same 38 wx w7 := Same.grown hO (by decide) hg
  refine ⟨⟨by rw [List.length_append]; exact ho, (hR.append hM).same hs, Nat.le_trans hb hg.size⟩, (Below.refl B wx).grown hg hb (fun k e => (hO.lt k e).1), hs⟩
theorem OwnOps.one_cell {w : World} {B : Nat} : ∀ {l : List Opr} {xs : List Value}, OwnOps w B l xs → ∀ u ∈ xs, u.oneCell' = true
  | [], xs, h, u, hu => by rw [show xs = [] from h] at hu; simp at hu
  | _ :: _, _, h, u, hu => by
    obtain ⟨v, ys, rfl, h1, h2, h3, h4, h5, h6⟩ := h
    rcases List.mem_append.1 hu with hu | hu
    · obtain ⟨A, c, rfl, _, _⟩ := h5.1.form
      simp [oprCells] at hu
      rcases hu with rfl | rfl | rfl | rfl | rfl | rfl | rfl | rfl | rfl | rfl | rfl <;> rfl
    · exact h6.one_cell u hu
theorem OpsW.cells {B : Nat} {w : World} {A : Option Addr} {n c : Nat} {l : List Opr} {xs : List Value} (h : OpsW B w (.slice A n c) l xs) (hl : 0 < l.length) : ∃ a, A = some a ∧ ∀ j u, xs[j]? = some u → w.cell? (a.add j) = some u := by
  obtain ⟨g, o, c', hv, _, _⟩ := h.o.addr hl
  injection hv with hA hn hc
  subst hA
  refine ⟨_, rfl, fun j u hj => ?_⟩
  rw [addr_add]
  subst hn; subst hc
  exact h.o.cell rfl hj
theorem OpsW.put {B : Nat} {w w' : World} {v : Value} {l : List Opr} {xs : List Value} (h : OpsW B w v l xs) (hs : ∀ T, Same T w w') (hz : w.heap.size ≤ w'.heap.size) : OpsW B w' v l xs := ⟨h.o.same (hs _), h.r.same (hs _), Nat.le_trans h.b hz⟩
theorem i64_zero : I64 0 := by unfold I64; omega
theorem sm_empty : Sm .empty := by show (0 : Nat) ≤ 1048576; omega
theorem prp0_ok : (⟨.empty, ⟨0, 0, .empty⟩⟩ : Prp).ok := ⟨sm_empty, i64_zero, i64_zero, sm_empty⟩
theorem tie0_ok : (⟨.empty, 0, 0⟩ : Tie).ok := ⟨sm_empty, i64_zero, i64_zero⟩
end Go.Proofs.Ytfjnkidblalckaa

/- Plain: the search by breadth of package stat, as functions on lists; what stays true from step to step. -/
namespace Go.Proofs.Ytfjnkidblalckaa

def farEnd (nodes : List Nod) (id d : Int) (e : Int × Int) (st : List Int × List Nat) : List Int × List Nat :=
  if e.1 = id ∧ fhas nodes e.2 = true ∧ st.1.getD (fpos nodes e.2) 0 < 0 then (st.1.set (fpos nodes e.2) (d + 1), st.2 ++ [fpos nodes e.2]) else st
def tieEnds (t : Tie) : List (Int × Int) := [(t.src, t.dst), (t.dst, t.src)]
def farTie (nodes : List Nod) (id d : Int) (st : List Int × List Nat) (t : Tie) : List Int × List Nat := (tieEnds t).foldl (fun st e => farEnd nodes id d e st) st
def farTies (nodes : List Nod) (id d : Int) (ts : List Tie) (st : List Int × List Nat) : List Int × List Nat := ts.foldl (farTie nodes id d) st
def idAt (nodes : List Nod) (r : Nat) : Int := match nodes[r]? with | some n => n.id | none => 0
def farRun (g : Grf) : Nat → List Int × List Nat → List Int
  | 0, st => st.1
  | f + 1, st => match st.2 with
    | [] => st.1
    | r :: _ => farRun g f ((farTies g.nodes (idAt g.nodes r) (st.1.getD r 0) g.ties st).1, (farTies g.nodes (idAt g.nodes r) (st.1.getD r 0) g.ties st).2.tail)
def farI (g : Grf) (src : Nat) : List Int := farRun g g.nodes.length ((List.replicate g.nodes.length (-1)).set src 0, [src])

def negs (l : List Int) : Nat := l.countP (fun v => decide (v < 0))
theorem negs_set : ∀ {l : List Int} {k : Nat} {v : Int}, k < l.length → l.getD k 0 < 0 → 0 ≤ v → negs (l.set k v) + 1 = negs l
  | a :: r, 0, v, _, h2, h3 => by
    simp only [List.getD_cons_zero] at h2
    simp [negs, h2, Int.not_lt.2 h3]
  | a :: r, k + 1, v, h1, h2, h3 => by
    have ih := negs_set (l := r) (k := k) (v := v) (by simpa using h1) (by simpa using h2) h3
    simp only [negs, List.set_cons_succ, List.countP_cons] at ih ⊢
    omega
theorem getD_set_other {l : List Int} {j k : Nat} {v : Int} (h : k ≠ j) : (l.set k v).getD j 0 = l.getD j 0 := by
  simp [List.getD, h]
theorem getD_set_self {l : List Int} {k : Nat} {v : Int} (h : k < l.length) : (l.set k v).getD k 0 = v := by
  simp [List.getD, h]

structure FInv (n gk r0 : Nat) (d : Int) (st : List Int × List Nat) : Prop where
  len : st.1.length = n
  hd : ∃ rest, st.2 = r0 :: rest
  mem : ∀ r ∈ st.2, r < n ∧ 0 ≤ st.1.getD r 0
  val : st.1.getD r0 0 = d
  pos : 0 ≤ d
  low : d + gk ≤ n
  top : ∀ v ∈ st.1, -1 ≤ v ∧ v + gk ≤ n + 1
  meas : st.2.length + negs st.1 ≤ gk
theorem FInv.push {n gk r0 : Nat} {d : Int} {st : List Int × List Nat} (h : FInv n gk r0 d st) {k : Nat} (hk : k < n) (hv : st.1.getD k 0 < 0) : FInv n gk r0 d (st.1.set k (d + 1), st.2 ++ [k]) := by
  have hne : k ≠ r0 := by rintro rfl; have := h.val; have := h.pos; omega
  have hkl : k < st.1.length := by rw [h.len]; exact hk
  obtain ⟨rest, hr⟩ := h.hd
  refine ⟨by simp [h.len], ⟨rest ++ [k], by simp [hr]⟩, ?_, ?_, h.pos, h.low, ?_, ?_⟩
  · intro r hr
    simp only [List.mem_append, List.mem_singleton] at hr
    rcases hr with hr | rfl
    · obtain ⟨h1, h2⟩ := h.mem r hr
      refine ⟨h1, ?_⟩
      rw [getD_set_other (by rintro rfl; omega)]
      exact h2
    · refine ⟨hk, ?_⟩
      rw [getD_set_self hkl]
      have := h.pos; omega
  · show (st.1.set k (d + 1)).getD r0 0 = d
    rw [getD_set_other hne]; exact h.val
  · intro v hv
    rcases List.mem_or_eq_of_mem_set hv with h1 | rfl
    · exact h.top v h1
    · have := h.pos; have := h.low; omega
  · have h1 := negs_set (l := st.1) (k := k) (v := d + 1) hkl hv (by have := h.pos; omega)
    have h2 := h.meas
    simp only [List.length_append, List.length_singleton]
    omega

/-- At the head of the outer loop. -/
structure OInv (n gk : Nat) (st : List Int × List Nat) : Prop where
  len : st.1.length = n
  mem : ∀ r ∈ st.2, r < n ∧ 0 ≤ st.1.getD r 0
  top : ∀ v ∈ st.1, -1 ≤ v ∧ v + gk ≤ n
  meas : st.2.length + negs st.1 ≤ gk
theorem mem_getD {l : List Int} {k : Nat} (h : k < l.length) : l.getD k 0 ∈ l := by
  simp only [List.getD, List.getElem?_eq_getElem h, Option.getD_some]
  exact List.getElem_mem h
theorem OInv.enter {n gk r0 : Nat} {st : List Int × List Nat} {rest : List Nat} (h : OInv n gk st) (hr : st.2 = r0 :: rest) : FInv n gk r0 (st.1.getD r0 0) st := by
  obtain ⟨h1, h2⟩ := h.mem r0 (by simp [hr])
  have h3 := (h.top _ (mem_getD (l := st.1) (k := r0) (by rw [h.len]; exact h1))).2
  exact ⟨h.len, ⟨rest, hr⟩, h.mem, rfl, h2, h3, fun v hv => ⟨(h.top v hv).1, by have := (h.top v hv).2; omega⟩, h.meas⟩
theorem FInv.leave {n gk r0 : Nat} {d : Int} {st : List Int × List Nat} (h : FInv n gk r0 d st) : OInv n (gk - 1) (st.1, st.2.tail) := by
  obtain ⟨rest, hr⟩ := h.hd
  have hm := h.meas
  rw [hr] at hm
  simp only [List.length_cons] at hm
  refine ⟨h.len, fun r hr' => h.mem r (List.mem_of_mem_tail hr'), fun v hv => ⟨(h.top v hv).1, by have := (h.top v hv).2; omega⟩, ?_⟩
  simp only [hr, List.tail_cons]
  omega
theorem negs_replicate (n : Nat) : negs (List.replicate n (-1)) = n := by simp [negs, List.countP_replicate]
theorem OInv.start {n src : Nat} (h : src < n) : OInv n n ((List.replicate n (-1)).set src 0, [src]) := by
  have hl : src < (List.replicate n (-1 : Int)).length := by simpa using h
  have hg : (List.replicate n (-1 : Int)).getD src 0 = -1 := by simp [List.getD, h]
  refine ⟨by simp, ?_, ?_, ?_⟩
  · intro r hr
    simp only [List.mem_singleton] at hr
    subst hr
    refine ⟨h, ?_⟩
    rw [getD_set_self hl]
    omega
  · intro v hv
    rcases List.mem_or_eq_of_mem_set hv with h1 | rfl
    · have := List.eq_of_mem_replicate h1
      omega
    · omega
  · have h1 := negs_set (l := List.replicate n (-1)) (k := src) (v := 0) hl (by rw [hg]; omega) (by omega)
    rw [negs_replicate] at h1
    simp only [List.length_singleton]
    omega
theorem fhas_lt {l : List Nod} {id : Int} (h : fhas l id = true) : fpos l id < l.length := by
  unfold fhas eqAt at h
  split at h
  · rename_i d hd
    exact (List.getElem?_eq_some_iff.1 hd).1
  · cases h
theorem map_getD {l : List Int} {k : Nat} (h : k < l.length) : (l.map (Value.int .i64))[k]? = some (.int .i64 (l.getD k 0)) := by
  simp [List.getD, h]
theorem farEnd_no {nodes : List Nod} {id d : Int} {e : Int × Int} {st : List Int × List Nat} (h : ¬ (e.1 = id ∧ fhas nodes e.2 = true ∧ st.1.getD (fpos nodes e.2) 0 < 0)) : farEnd nodes id d e st = st := by
  unfold farEnd; rw [if_neg h]
theorem farEnd_yes {nodes : List Nod} {id d : Int} {e : Int × Int} {st : List Int × List Nat} (h : e.1 = id ∧ fhas nodes e.2 = true ∧ st.1.getD (fpos nodes e.2) 0 < 0) :
    farEnd nodes id d e st = (st.1.set (fpos nodes e.2) (d + 1), st.2 ++ [fpos nodes e.2]) := by
  unfold farEnd; rw [if_pos h]
theorem fold_drop {α β : Type} {f : β → α → β} {l : List α} {k : Nat} {e : α} {x s : β} (h : x = (l.drop k).foldl f s) (he : l[k]? = some e) : x = (l.drop (k + 1)).foldl f (f s e) := by
  rw [h, drop_cons he]; rfl
end Go.Proofs.Ytfjnkidblalckaa

/- Contracts: slices.Contains at ties, delta.kept. No condition but that the graph's nodes are in order. -/
namespace Go.Proofs.Ytfjnkidblalckaa
open Go Go.RowKit


theorem tie_eql (x y : Tie) (w : World) : (binOp .eql 40 (.agg #[.string x.bond, .int .i64 x.src, .int .i64 x.dst]) (.agg #[.string y.bond, .int .i64 y.src, .int .i64 y.dst])).run Try.prog w = .ok (.bool (decide (x = y))) w := by
  rw [run_eql_struct, show (10000 : Nat) = 9998 + 2 from rfl, tie_same]; rfl
set_option maxHeartbeats 1000000 in
theorem indexTie_any (l : List Tie) (t : Tie) (v : Value) (w : World) (hv : Sl tieL w v l) :
    Calls Try.prog 40 #[v, .agg #[.string t.bond, .int .i64 t.src, .int .i64 t.dst]] w fun e w' => e = .returned (.int .i64 (idxI (fun y => decide (t = y)) l)) ∧ Below w.heap.size w w' := by
  obtain ⟨A, c, rfl, hlc, hcm⟩ := hv.form
  unfold maxLen at hcm
  have hb0 : Below w.heap.size w (w.alloc (.cells #[.string t.bond, .int .i64 t.src, .int .i64 t.dst] 40)) := (Below.refl _ _).alloc (Nat.le_refl _) _
  obtain ⟨z0, z1, z2⟩ := cell_box3 w (.string t.bond) (.int .i64 t.src) (.int .i64 t.dst) 40
  have HV := Lib.hid (hv.below hb0)
  clear hv
  go_enter Try.func40, Try.ntmps40
  go_wp2_with fail
  generalize w.alloc (.cells #[.string t.bond, .int .i64 t.src, .int .i64 t.dst] 40) = W0 at *
  go_loopw [8] (fun i wr => ∃ k : Nat, k ≤ l.length ∧ i = .int .i64 k ∧ Below W0.heap.size W0 wr ∧ Hid (∀ j y, j < k → l[j]? = some y → decide (t = y) = false)) (fun i _ => l.length - (intOf i).toNat)
  case atStart => exact ⟨0, Nat.zero_le _, rfl, Below.refl _ _, fun j x hj => absurd hj (Nat.not_lt_zero _)⟩
  case round =>
    obtain ⟨k, hk, rfl, hb, HA⟩ := hrel
    have z0 := cell_below hb z0
    have z1 := cell_below hb z1
    have z2 := cell_below hb z2
    have hbX := hb0.trans (hb.mono hb0.size)
    by_cases hlt : k < l.length
    · obtain ⟨d, hd⟩ : ∃ d, l[k]? = some d := ⟨_, List.getElem?_eq_getElem hlt⟩
      have hlt' : (k : Int) < (l.length : Int) := by omega
      obtain ⟨b, o, rfl, _, x0, x1, x2⟩ := tie_at (HV.out.below hb) hd
      have HD : Hid (l[k]? = some d) := hd
      have heq := tie_eql t d
      have hgd := tie_guard
      have hMH : Hid (decide (t = d) = true → idxI (fun y => decide (t = y)) l = k) := fun h => idxI_hit (p := fun y => decide (t = y)) HA.out HD.out h
      have hMS : Hid (decide (t = d) = false → ∀ j y, j < k + 1 → l[j]? = some y → decide (t = y) = false) := fun h => miss_step (p := fun y => decide (t = y)) HA.out HD.out h
      clear hd
      generalize decide (t = d) = q at *
      cases q with
      | true =>
        have HE := Lib.hid (hMH.out rfl)
        go_wp2_with fail
        go_quiet (fail)
        go_wp2_with fail
        go_ret
        exact ⟨by rw [HE.out]; rfl, below_drewN hbX _⟩
      | false =>
        have HS := Lib.hid (hMS.out rfl)
        go_wp2_with fail
        go_quiet (fail)
        go_wp2_with fail
        go_roundw
        case rel => exact ⟨k + 1, by omega, by go_num, below_drewN hb _, HS⟩
        case measure => simp [intOf]; omega
    · have hkl : k = l.length := by omega
      subst hkl
      have HE : Hid (idxI (fun y => decide (t = y)) l = -1) := idxI_miss HA.out
      go_wp2_with fail
      go_ret
      exact ⟨by rw [HE.out]; rfl, hbX⟩
theorem any_mem {l : List Tie} {t : Tie} : (l.any fun y => decide (t = y)) = decide (t ∈ l) := by
  by_cases h : t ∈ l
  · rw [decide_eq_true h]; exact List.any_eq_true.2 ⟨t, h, by simp⟩
  · rw [decide_eq_false h]
    cases hq : (l.any fun y => decide (t = y)) with
    | false => rfl
    | true =>
      obtain ⟨x, hx, e⟩ := List.any_eq_true.1 hq
      exact absurd (by rw [of_decide_eq_true e]; exact hx) h
theorem containsTie_any (l : List Tie) (t : Tie) (v : Value) (w : World) (hv : Sl tieL w v l) :
    Calls Try.prog 20 #[v, .agg #[.string t.bond, .int .i64 t.src, .int .i64 t.dst]] w fun e w' => e = .returned (.bool (decide (t ∈ l))) ∧ Below w.heap.size w w' := by
  have hb0 : Below w.heap.size w (w.alloc (.cells #[.string t.bond, .int .i64 t.src, .int .i64 t.dst] 40)) := (Below.refl _ _).alloc (Nat.le_refl _) _
  obtain ⟨z0, z1, z2⟩ := cell_box3 w (.string t.bond) (.int .i64 t.src) (.int .i64 t.dst) 40
  have h1 := indexTie_any l t v _ (hv.below hb0)
  have h2 := (idxI_any (fun y => decide (t = y)) l).trans any_mem
  have H2 := Lib.hid h2
  clear h2 hv
  go_enter Try.func20, Try.ntmps20
  go_wp2_with fail
  refine h1.mono ?_
  clear h1
  rintro e w' ⟨rfl, hb⟩
  go_wp2_with fail
  go_ret
  exact ⟨ret_bool H2.out, hb0.trans (hb.mono hb0.size)⟩

/-- The node that is kept, or none. -/
def keptD (g : Grf) (n : Nod) : Nod := match keptN g n with | some m => m | none => ⟨0, .empty, []⟩
theorem keptN_parts (g : Grf) (n : Nod) : (fhas g.nodes n.id = false → keptN g n = none) ∧ (∀ m, g.nodes[fpos g.nodes n.id]? = some m → fhas g.nodes n.id = true → keptN g n = if m.kind = n.kind then some m else none) := by
  unfold keptN
  refine ⟨fun h => ?_, fun m hm h => ?_⟩
  · cases hq : g.nodes[fpos g.nodes n.id]? with
    | none => rfl
    | some x => simp [h]
  · rw [hm]; simp [h]
def KeptRet (g : Grf) (n : Nod) (w : World) (e : Ending) (w' : World) : Prop :=
  ∃ u, e = .returned (.tuple #[.agg #[.int .i64 (keptD g n).id, .string (keptD g n).kind, u], .bool (keptN g n).isSome]) ∧ Sl prpL w' u (keptD g n).props ∧ Below w.heap.size w w'
set_option maxRecDepth 100000 in
set_option maxHeartbeats 4000000 in
theorem kept_any (g : Grf) (n : Nod) (vn vt u : Value) (w : World) (hg : GrfR w vn vt g) (hu : Sl prpL w u n.props) (hch : chain nodLt g.nodes = true) (hl : g.nodes.length ≤ 60) :
    Calls Try.prog 21 #[.agg #[vn, vt], .agg #[.int .i64 n.id, .string n.kind, u]] w (KeptRet g n w) := by
  obtain ⟨A1, c1, rfl, _, _⟩ := hg.1.form
  obtain ⟨A2, c2, rfl, _, _⟩ := hg.2.form
  obtain ⟨A3, c3, rfl, _, _⟩ := hu.form
  obtain ⟨W0, hW0⟩ : ∃ W0, W0 = ((w.alloc (.cells #[.slice A1 g.nodes.length c1, .slice A2 g.ties.length c2] 25)).alloc (.cells #[.int .i64 n.id, .string n.kind, .slice A3 n.props.length c3] 30)).alloc (.cells #[.int .i64 0, .string ⟨#[]⟩, .slice none 0 0] 30) := ⟨_, rfl⟩
  have hb0 : Below w.heap.size w W0 := by rw [hW0]; exact (((Below.refl _ _).alloc (Nat.le_refl _) _).alloc (by simp) _).alloc (by simp; omega) _
  have g0 : W0.heap[w.heap.size]? = some (.cells #[.slice A1 g.nodes.length c1, .slice A2 g.ties.length c2] 25 (0, 0)) := by
    rw [hW0, Below.heap_alloc _ _ _ (by simp; omega), Below.heap_alloc _ _ _ (by simp)]; exact heap_alloc_new _ _
  have g1 : W0.heap[w.heap.size + 1]? = some (.cells #[.int .i64 n.id, .string n.kind, .slice A3 n.props.length c3] 30 (0, 0)) := by
    have := heap_alloc_new (w.alloc (.cells #[.slice A1 g.nodes.length c1, .slice A2 g.ties.length c2] 25)) (.cells #[.int .i64 n.id, .string n.kind, .slice A3 n.props.length c3] 30); rw [hW0, Below.heap_alloc _ _ _ (by simp)]; simpa using this
  have g2 : W0.heap[w.heap.size + 1 + 1]? = some (.cells #[.int .i64 0, .string ⟨#[]⟩, .slice none 0 0] 30 (0, 0)) := by
    have := heap_alloc_new ((w.alloc (.cells #[.slice A1 g.nodes.length c1, .slice A2 g.ties.length c2] 25)).alloc (.cells #[.int .i64 n.id, .string n.kind, .slice A3 n.props.length c3] 30)) (.cells #[.int .i64 0, .string ⟨#[]⟩, .slice none 0 0] 30); rw [hW0]; simpa using this
  have hW0' := hW0.symm
  have hw0 := hb0.size
  have G0 := Lib.hid g0
  have G1 := Lib.hid g1
  have G2 := Lib.hid g2
  have x0 := block_cell g0 0
  have x1 := block_cell g0 1
  have y0 := block_cell g1 0
  have HGW := Lib.hid hg
  have hx := find_any g _ _ W0 (hg.below hb0) n.id hch (by omega)
  obtain ⟨k1, k2⟩ := keptN_parts g n
  have HK1 := Lib.hid k1
  have HK2 := Lib.hid k2
  have HD : Hid (keptD g n = match keptN g n with | some m => m | none => ⟨0, .empty, []⟩) := rfl
  have HFL : Hid (fhas g.nodes n.id = true → fpos g.nodes n.id < g.nodes.length) := fhas_lt
  unfold KeptRet
  generalize keptD g n = kd at *
  generalize keptN g n = kn at *
  generalize fhas g.nodes n.id = f at *
  generalize fpos g.nodes n.id = p at *
  clear hg hu g0 g1 g2 hW0 hch k1 k2
  go_enter Try.func21, Try.ntmps21
  go_wp2_with fail
  clear hW0'
  refine hx.mono ?_
  clear hx x0 x1 y0
  rintro e w1 ⟨rfl, hb1⟩
  have hB1 := hb0.trans (hb1.mono hw0)
  have m0 := (hb1.block _ (Array.getElem?_eq_some_iff.1 G0.out).1).trans G0.out
  have m1 := (hb1.block _ (Array.getElem?_eq_some_iff.1 G1.out).1).trans G1.out
  have m2 := (hb1.block _ (Array.getElem?_eq_some_iff.1 G2.out).1).trans G2.out
  have M2 := Lib.hid m2
  have x0 := block_cell m0 0
  have y1 := block_cell m1 1
  clear G0 G1 G2 m0 m1
  have a0 := block_cell m2 0
  have a1 := block_cell m2 1
  have a2 := block_cell m2 2
  have f0 := block_free m2 0
  have f1 := block_free m2 1
  have f2 := block_free m2 2
  clear m2
  cases f with
  | false =>
    have hkn := HK1.out rfl
    have HE : Hid (kd = ⟨0, ⟨#[]⟩, []⟩ ∧ kn.isSome = false) := by
      have hd := HD.out
      rw [hkn] at hd
      exact ⟨hd, by rw [hkn]; rfl⟩
    clear hkn HD HK1 HK2 HFL
    go_wp2_with fail
    go_quiet (fail)
    go_wp2_with fail
    have m2' : (w1.drewN nq).heap[w.heap.size + 1 + 1]? = some (.cells #[.int .i64 0, .string ⟨#[]⟩, .slice none 0 0] 30 (0, 0)) := M2.out
    have s3 := setCell_block (setCell_block (setCell_block m2' 0 (.int .i64 0)) 1 (.string ⟨#[]⟩)) 2 (.slice none 0 0)
    have hbX := (((below_drewN hB1 nq).setCell (p := ⟨w.heap.size + 1 + 1, 0, none⟩) (by show w.heap.size ≤ w.heap.size + 1 + 1; omega) (.int .i64 0)).setCell (p := ⟨w.heap.size + 1 + 1, 1, none⟩) (by show w.heap.size ≤ w.heap.size + 1 + 1; omega) (.string ⟨#[]⟩)).setCell (p := ⟨w.heap.size + 1 + 1, 2, none⟩) (by show w.heap.size ≤ w.heap.size + 1 + 1; omega) (.slice none 0 0)
    have k2 := block_cell s3 0
    have k3 := block_cell s3 1
    have k4 := block_cell s3 2
    refine bodyPost_ret (v := .tuple #[.agg #[.int .i64 0, .string ⟨#[]⟩, .slice none 0 0], .bool false]) (by simp [results, Try.results21, go_sem, k2, k3, k4]) rfl ?_
    · exact ⟨_, by rw [HE.out.1, HE.out.2], by rw [HE.out.1]; exact Sl.nil 0 (Nat.zero_le _) none, hbX⟩
  | true =>
    have hp := HFL.out rfl
    have hp' : (p : Int) < (g.nodes.length : Int) := by omega
    obtain ⟨m, hm⟩ : ∃ d, g.nodes[p]? = some d := ⟨_, List.getElem?_eq_getElem hp⟩
    have hkn := HK2.out m hm rfl
    obtain ⟨gb, oo, rfl, um, _, _, hum, q0, q1, q2⟩ := nod_at HGW.out.1 hm
    have q0 := cell_below hB1 q0
    have q1 := cell_below hB1 q1
    have q2 := cell_below hB1 q2
    obtain ⟨Am, cm, rfl, _, _⟩ := hum.form
    have hkb : (m.kind.toList == n.kind.toList) = decide (m.kind = n.kind) := bytes_beq _ _
    have HUM := Lib.hid hum
    clear hm hum HFL HK1 HK2
    by_cases hq : m.kind = n.kind
    · have HE : Hid (kd = m ∧ kn.isSome = true) := by
        have hd := HD.out
        rw [hkn, if_pos hq] at hd
        exact ⟨hd, by rw [hkn, if_pos hq]; rfl⟩
      rw [decide_eq_true hq] at hkb
      have hkc : m.kind.toList = n.kind.toList := by rw [hq]
      clear hkn HD hq
      go_wp2_with fail
      go_quiet (fail)
      go_wp2_with fail
      have m2' : (w1.drewN nq).heap[w.heap.size + 1 + 1]? = some (.cells #[.int .i64 0, .string ⟨#[]⟩, .slice none 0 0] 30 (0, 0)) := M2.out
      have s3 := setCell_block (setCell_block (setCell_block m2' 0 (.int .i64 m.id)) 1 (.string m.kind)) 2 (.slice Am m.props.length cm)
      have hbX := (((below_drewN hB1 nq).setCell (p := ⟨w.heap.size + 1 + 1, 0, none⟩) (by show w.heap.size ≤ w.heap.size + 1 + 1; omega) (.int .i64 m.id)).setCell (p := ⟨w.heap.size + 1 + 1, 1, none⟩) (by show w.heap.size ≤ w.heap.size + 1 + 1; omega) (.string m.kind)).setCell (p := ⟨w.heap.size + 1 + 1, 2, none⟩) (by show w.heap.size ≤ w.heap.size + 1 + 1; omega) (.slice Am m.props.length cm)
      have k2 := block_cell s3 0
      have k3 := block_cell s3 1
      have k4 := block_cell s3 2
      refine bodyPost_ret (v := .tuple #[.agg #[.int .i64 m.id, .string m.kind, .slice Am m.props.length cm], .bool true]) (by simp [results, Try.results21, go_sem, k2, k3, k4]) rfl ?_
      · exact ⟨_, by rw [HE.out.1, HE.out.2], by rw [HE.out.1]; exact HUM.out.below hbX, hbX⟩
    · have HE : Hid (kd = ⟨0, ⟨#[]⟩, []⟩ ∧ kn.isSome = false) := by
        have hd := HD.out
        rw [hkn, if_neg hq] at hd
        exact ⟨hd, by rw [hkn, if_neg hq]; rfl⟩
      rw [decide_eq_false hq] at hkb
      have hkc : ¬ m.kind.toList = n.kind.toList := by rw [bytes_eq]; exact hq
      clear hkn HD hq
      go_wp2_with fail
      go_quiet (fail)
      go_wp2_with fail
      have m2' : (w1.drewN nq).heap[w.heap.size + 1 + 1]? = some (.cells #[.int .i64 0, .string ⟨#[]⟩, .slice none 0 0] 30 (0, 0)) := M2.out
      have s3 := setCell_block (setCell_block (setCell_block m2' 0 (.int .i64 0)) 1 (.string ⟨#[]⟩)) 2 (.slice none 0 0)
      have hbX := (((below_drewN hB1 nq).setCell (p := ⟨w.heap.size + 1 + 1, 0, none⟩) (by show w.heap.size ≤ w.heap.size + 1 + 1; omega) (.int .i64 0)).setCell (p := ⟨w.heap.size + 1 + 1, 1, none⟩) (by show w.heap.size ≤ w.heap.size + 1 + 1; omega) (.string ⟨#[]⟩)).setCell (p := ⟨w.heap.size + 1 + 1, 2, none⟩) (by show w.heap.size ≤ w.heap.size + 1 + 1; omega) (.slice none 0 0)
      have k2 := block_cell s3 0
      have k3 := block_cell s3 1
      have k4 := block_cell s3 2
      refine bodyPost_ret (v := .tuple #[.agg #[.int .i64 0, .string ⟨#[]⟩, .slice none 0 0], .bool false]) (by simp [results, Try.results21, go_sem, k2, k3, k4]) rfl ?_
      · exact ⟨_, by rw [HE.out.1, HE.out.2], by rw [HE.out.1]; exact Sl.nil 0 (Nat.zero_le _) none, hbX⟩
end Go.Proofs.Ytfjnkidblalckaa
