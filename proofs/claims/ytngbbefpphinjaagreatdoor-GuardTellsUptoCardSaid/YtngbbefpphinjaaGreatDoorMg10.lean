/- Parts: OpenB, OpenC, OpenF, EmptyP, OpR, Chk0, Mi, KinB. -/
import Derived.Test.YtngbbefpphinjaaGreatDoorMg09
import Derived.ChangeMaps5
import Derived.Test.YtngbbefpphinjaaGreatDoorMg06
import Derived.Test.YtngbbefpphinjaaGreatDoorMg03
import Derived.Test.YtngbbefpphinjaaGreatDoorMg01
import Derived.Test.YtngbbefpphinjaaGreatDoorMg02
import Derived.RangeFuncNested
import Derived.RangeFuncBound
import Derived.RangeFuncCalls
import Derived.RangeFuncLeaves
import Derived.RangeFuncBox
import Derived.RangeFuncWrites
import Derived.Shelf.Abstract
import Derived.OwnWalkIn
import Derived.TacticsInMore
import Derived.LoopNIn
import Derived.LoopIn
/- Plain: the program's structs, read as data, lie as the layouts say (this program's numbers of types). -/
namespace Go.Proofs.YtngbbefpphinjaaGreatDoor
open Go Go.RowKit Go.Deep Go.ChangeShapes Go.WideShapes
theorem oInt : Opens Tryz.prog intL 3 := opens_int Tryz.underlying3
theorem oStr : Opens Tryz.prog strL 9 := opens_str Tryz.underlying9
theorem oBool : Opens Tryz.prog boolL 4 := opens_bool Tryz.underlying4
theorem o_val : Opens Tryz.prog valL 31 := by
 intro H enc w base spare held fuel cs x hx hb
 obtain ⟨hl, hf⟩ := field_at Tryz.underlying31 hx hb
 rw [show Tryz.prog.cellsOf 31 = 3 from by kernel_rfl] at hl
 match cs, hl with
 | [c0, c1, c2], _ =>
  obtain ⟨a0, e0, h0⟩ := hf (L := intL) 0 _ 1 rfl (by kernel_rfl) oInt
  have e0 : [c0] = [.int .i64 a0] := e0
  injection e0 with e0 _
  subst e0
  obtain ⟨a1, e1, h1⟩ := hf (L := intL) 1 _ 1 rfl (by kernel_rfl) oInt
  have e1 : [c1] = [.int .i64 a1] := e1
  injection e1 with e1 _
  subst e1
  obtain ⟨a2, e2, h2⟩ := hf (L := strL) 2 _ 1 rfl (by kernel_rfl) oStr
  have e2 : [c2] = [.string a2] := e2
  injection e2 with e2 _
  subst e2
  exact ⟨⟨a0, a1, a2⟩, rfl, h0, h1, h2⟩
theorem o_prp : Opens Tryz.prog prpL 33 := by
 intro H enc w base spare held fuel cs x hx hb
 obtain ⟨hl, hf⟩ := field_at Tryz.underlying33 hx hb
 rw [show Tryz.prog.cellsOf 33 = 4 from by kernel_rfl] at hl
 match cs, hl with
 | [c0, c1, c2, c3], _ =>
  obtain ⟨a0, e0, h0⟩ := hf (L := strL) 0 _ 1 rfl (by kernel_rfl) oStr
  have e0 : [c0] = [.string a0] := e0
  injection e0 with e0 _
  subst e0
  obtain ⟨v, e1, h1⟩ := hf (L := valL) 1 _ 3 rfl (by kernel_rfl) o_val
  have e1 : [c1, c2, c3] = [.int .i64 v.ty, .int .i64 v.n, .string v.s] := e1
  injection e1 with e1 e2
  injection e2 with e2 e3
  injection e3 with e3 _
  subst e1; subst e2; subst e3
  exact ⟨⟨a0, v⟩, rfl, h0, h1⟩
theorem o_fld : Opens Tryz.prog fldL 84 := by
 intro H enc w base spare held fuel cs x hx hb
 obtain ⟨hl, hf⟩ := field_at Tryz.underlying84 hx hb
 rw [show Tryz.prog.cellsOf 84 = 4 from by kernel_rfl] at hl
 match cs, hl with
 | [c0, c1, c2, c3], _ =>
  obtain ⟨a0, e0, h0⟩ := hf (L := strL) 0 _ 1 rfl (by kernel_rfl) oStr
  have e0 : [c0] = [.string a0] := e0
  injection e0 with e0 _
  subst e0
  obtain ⟨a1, e1, h1⟩ := hf (L := intL) 1 _ 1 rfl (by kernel_rfl) oInt
  have e1 : [c1] = [.int .i64 a1] := e1
  injection e1 with e1 _
  subst e1
  obtain ⟨a2, e2, h2⟩ := hf (L := boolL) 2 _ 1 rfl (by kernel_rfl) oBool
  have e2 : [c2] = [.bool a2] := e2
  injection e2 with e2 _
  subst e2
  obtain ⟨a3, e3, h3⟩ := hf (L := boolL) 3 _ 1 rfl (by kernel_rfl) oBool
  have e3 : [c3] = [.bool a3] := e3
  injection e3 with e3 _
  subst e3
  exact ⟨⟨a0, a1, a2, a3⟩, rfl, h0, h1⟩
theorem o_bnd : Opens Tryz.prog bndL 82 := by
 intro H enc w base spare held fuel cs x hx hb
 obtain ⟨hl, hf⟩ := field_at Tryz.underlying82 hx hb
 rw [show Tryz.prog.cellsOf 82 = 5 from by kernel_rfl] at hl
 match cs, hl with
 | [c0, c1, c2, c3, c4], _ =>
  obtain ⟨a0, e0, h0⟩ := hf (L := strL) 0 _ 1 rfl (by kernel_rfl) oStr
  have e0 : [c0] = [.string a0] := e0
  injection e0 with e0 _
  subst e0
  obtain ⟨a1, e1, h1⟩ := hf (L := strL) 1 _ 1 rfl (by kernel_rfl) oStr
  have e1 : [c1] = [.string a1] := e1
  injection e1 with e1 _
  subst e1
  obtain ⟨a2, e2, h2⟩ := hf (L := strL) 2 _ 1 rfl (by kernel_rfl) oStr
  have e2 : [c2] = [.string a2] := e2
  injection e2 with e2 _
  subst e2
  obtain ⟨a3, e3, h3⟩ := hf (L := intL) 3 _ 1 rfl (by kernel_rfl) oInt
  have e3 : [c3] = [.int .i64 a3] := e3
  injection e3 with e3 _
  subst e3
  obtain ⟨a4, e4, h4⟩ := hf (L := intL) 4 _ 1 rfl (by kernel_rfl) oInt
  have e4 : [c4] = [.int .i64 a4] := e4
  injection e4 with e4 _
  subst e4
  exact ⟨⟨a0, a1, a2, a3, a4⟩, rfl, h0, h1, h2, h3, h4⟩
theorem o_tie : Opens Tryz.prog tieL 35 := by
 intro H enc w base spare held fuel cs x hx hb
 obtain ⟨hl, hf⟩ := field_at Tryz.underlying35 hx hb
 rw [show Tryz.prog.cellsOf 35 = 3 from by kernel_rfl] at hl
 match cs, hl with
 | [c0, c1, c2], _ =>
  obtain ⟨a0, e0, h0⟩ := hf (L := strL) 0 _ 1 rfl (by kernel_rfl) oStr
  have e0 : [c0] = [.string a0] := e0
  injection e0 with e0 _
  subst e0
  obtain ⟨a1, e1, h1⟩ := hf (L := intL) 1 _ 1 rfl (by kernel_rfl) oInt
  have e1 : [c1] = [.int .i64 a1] := e1
  injection e1 with e1 _
  subst e1
  obtain ⟨a2, e2, h2⟩ := hf (L := intL) 2 _ 1 rfl (by kernel_rfl) oInt
  have e2 : [c2] = [.int .i64 a2] := e2
  injection e2 with e2 _
  subst e2
  exact ⟨⟨a0, a1, a2⟩, rfl, h0, h1, h2⟩
theorem o_rec : Opens Tryz.prog (slL prpL) 27 := Opens.slice Tryz.underlying27 (by kernel_rfl) (by decide) o_prp
theorem o_strs : Opens Tryz.prog (slL strL) 77 := Opens.slice Tryz.underlying77 (by kernel_rfl) (by decide) oStr
theorem o_flds : Opens Tryz.prog (slL fldL) 78 := Opens.slice Tryz.underlying78 (by kernel_rfl) (by decide) o_fld
theorem o_bnds : Opens Tryz.prog (slL bndL) 59 := Opens.slice Tryz.underlying59 (by kernel_rfl) (by decide) o_bnd
theorem o_ties : Opens Tryz.prog (slL tieL) 23 := Opens.slice Tryz.underlying23 (by kernel_rfl) (by decide) o_tie
theorem o_nod : Opens Tryz.prog nodL 29 := by
 intro H enc w base spare held fuel cs x hx hb
 obtain ⟨hl, hf⟩ := field_at Tryz.underlying29 hx hb
 rw [show Tryz.prog.cellsOf 29 = 3 from by kernel_rfl] at hl
 match cs, hl with
 | [c0, c1, c2], _ =>
  obtain ⟨a0, e0, h0⟩ := hf (L := intL) 0 _ 1 rfl (by kernel_rfl) oInt
  have e0 : [c0] = [.int .i64 a0] := e0
  injection e0 with e0 _
  subst e0
  obtain ⟨a1, e1, h1⟩ := hf (L := strL) 1 _ 1 rfl (by kernel_rfl) oStr
  have e1 : [c1] = [.string a1] := e1
  injection e1 with e1 _
  subst e1
  obtain ⟨a2, v2, e2, h2⟩ := hf (L := slL prpL) 2 _ 1 rfl (by kernel_rfl) o_rec
  have e2 : [c2] = [v2] := e2
  injection e2 with e2 _
  subst e2
  exact ⟨⟨a0, a1, a2⟩, c2, rfl, h0, h1, h2⟩
theorem o_nods : Opens Tryz.prog (slL nodL) 22 := Opens.slice Tryz.underlying22 (by kernel_rfl) (by decide) o_nod
theorem o_knd : Opens Tryz.prog kndL 80 := by
 intro H enc w base spare held fuel cs x hx hb
 obtain ⟨hl, hf⟩ := field_at Tryz.underlying80 hx hb
 rw [show Tryz.prog.cellsOf 80 = 3 from by kernel_rfl] at hl
 match cs, hl with
 | [c0, c1, c2], _ =>
  obtain ⟨a0, e0, h0⟩ := hf (L := strL) 0 _ 1 rfl (by kernel_rfl) oStr
  have e0 : [c0] = [.string a0] := e0
  injection e0 with e0 _
  subst e0
  obtain ⟨a1, v1, e1, h1⟩ := hf (L := slL strL) 1 _ 1 rfl (by kernel_rfl) o_strs
  have e1 : [c1] = [v1] := e1
  injection e1 with e1 _
  subst e1
  obtain ⟨a2, v2, e2, h2⟩ := hf (L := slL fldL) 2 _ 1 rfl (by kernel_rfl) o_flds
  have e2 : [c2] = [v2] := e2
  injection e2 with e2 _
  subst e2
  exact ⟨⟨a0, a1, a2⟩, c1, c2, rfl, h0, h1, h2⟩
theorem o_knds : Opens Tryz.prog (slL kndL) 58 := Opens.slice Tryz.underlying58 (by kernel_rfl) (by decide) o_knd
/-! ### Arguments -/
theorem arg_one {D : Type} {L : Lay D} {t : TypeId} {H : Type} {enc : TypeId × Value -> H} {w : World} {base : Nat} {spare : Nat -> Bool} {held : Bool} {v : Value} {d : DataW H} {p : List MemPlace}
 (ho : Opens Tryz.prog L t) (h : DataW.Trod enc Tryz.prog w base spare held t v d p) (hb : Rows.uptoBulk d <= 1048576) : ∃ x, L.cells w x v.cells.toList := by
 obtain ⟨fuel, hf⟩ := h
 exact ho H enc w base spare held fuel _ _ hf hb
set_option maxRecDepth 100000 in
theorem arg_two {D E : Type} {L : Lay D} {M : Lay E} {t : TypeId} {f0 f1 : Field} {H : Type} {enc : TypeId × Value -> H} {w : World} {base b0 : Nat} {r : Reach} {spare : Nat -> Bool} {held : Bool} {v : Value} {d : DataW H} {p : List MemPlace}
 (hs : Tryz.prog.underlying t = some (.struct #[f0, f1])) (hone : oneCellFields Tryz.prog #[f0, f1] = true) (hC : Tryz.prog.cellsOf t = 2) (h0 : Opens Tryz.prog (slL L) f0.type) (h1 : Opens Tryz.prog (slL M) f1.type)
 (hv : Value.okWide Tryz.prog w r b0 t v) (h : DataW.Trod enc Tryz.prog w base spare held t v d p) (hb : Rows.uptoBulk d <= 1048576) : ∃ v0 v1 l m, v = .agg #[v0, v1] /\ Sl L w v0 l /\ Sl M w v1 m := by
 obtain ⟨v0, v1, y0, y1, n, rfl, rfl, rfl, g0, g1⟩ := Joins.open_agg2 hs hone hC hv h
 simp only [Rows.uptoBulk, Rows.uptoBulkAll] at hb
 obtain ⟨l, v0', e0, k0⟩ := h0 H enc w base spare held n _ _ g0 (by omega)
 obtain ⟨m, v1', e1, k1⟩ := h1 H enc w base spare held n _ _ g1 (by omega)
 injection e0 with e0 _
 injection e1 with e1 _
 subst e0; subst e1
 exact ⟨v0, v1, l, m, rfl, k0, k1⟩
set_option maxRecDepth 100000 in
theorem arg_graph {H : Type} {enc : TypeId × Value -> H} {w : World} {base b0 : Nat} {r : Reach} {spare : Nat -> Bool} {held : Bool} {v : Value} {d : DataW H} {p : List MemPlace}
 (hv : Value.okWide Tryz.prog w r b0 25 v) (h : DataW.Trod enc Tryz.prog w base spare held 25 v d p) (hb : Rows.uptoBulk d <= 1048576) : ∃ v0 v1 g, v = .agg #[v0, v1] /\ GrfR w v0 v1 g := by
 obtain ⟨v0, v1, l, m, rfl, h0, h1⟩ := arg_two Tryz.underlying25 (by kernel_rfl) (by kernel_rfl) o_nods o_ties hv h hb
 exact ⟨v0, v1, ⟨l, m⟩, rfl, h0, h1⟩
set_option maxRecDepth 100000 in
theorem arg_schema {H : Type} {enc : TypeId × Value -> H} {w : World} {base b0 : Nat} {r : Reach} {spare : Nat -> Bool} {held : Bool} {v : Value} {d : DataW H} {p : List MemPlace}
 (hv : Value.okWide Tryz.prog w r b0 61 v) (h : DataW.Trod enc Tryz.prog w base spare held 61 v d p) (hb : Rows.uptoBulk d <= 1048576) : ∃ v0 v1 g, v = .agg #[v0, v1] /\ ScmR w v0 v1 g := by
 obtain ⟨v0, v1, l, m, rfl, h0, h1⟩ := arg_two Tryz.underlying61 (by kernel_rfl) (by kernel_rfl) o_knds o_bnds hv h hb
 exact ⟨v0, v1, ⟨l, m⟩, rfl, h0, h1⟩
set_option maxRecDepth 100000 in
theorem arg_sl {D : Type} {L : Lay D} {t e : TypeId} {H : Type} {enc : TypeId × Value -> H} {w : World} {base b0 : Nat} {r : Reach} {spare : Nat -> Bool} {held : Bool} {v : Value} {d : DataW H} {p : List MemPlace}
 (ht : Tryz.prog.underlying t = some (.slice e)) (ho : Opens Tryz.prog (slL L) t) (hv : Value.okWide Tryz.prog w r b0 t v) (h : DataW.Trod enc Tryz.prog w base spare held t v d p) (hb : Rows.uptoBulk d <= 1048576) : ∃ l, Sl L w v l := by
 obtain ⟨l, v', e1, h1⟩ := arg_one ho h hb
 obtain ⟨a, n, c, rfl⟩ := okWide_slice ht hv
 simp only [Value.cells, List.cons.injEq, and_true] at e1
 subst e1
 exact ⟨l, h1⟩
open Go Go.RowKit Go.Deep Go.ChangeShapes Go.WideShapes Go.Joins
def oprL : Lay Opr where
 sz := 11
 cells w o cs := ∃ vr, cs = (oprCells o vr).toList /\ OprR w vr o
 len h := by obtain ⟨v, rfl, _⟩ := h; rfl
 below hb h := by obtain ⟨v, rfl, h1⟩ := h; exact ⟨v, rfl, h1.below hb⟩
set_option maxRecDepth 100000 in
theorem o_opr : Opens Tryz.prog oprL 37 := by
 intro H enc w base spare held fuel cs x hx hb
 obtain ⟨hl, hf⟩ := field_at Tryz.underlying37 hx hb
 rw [show Tryz.prog.cellsOf 37 = 11 from by kernel_rfl] at hl
 match cs, hl with
 | [c0, c1, c2, c3, c4, c5, c6, c7, c8, c9, c10], _ =>
  obtain ⟨a0, e0, h0⟩ := hf (L := intL) 0 _ 1 rfl (by kernel_rfl) oInt
  have e0 : [c0] = [.int .i64 a0] := e0
  injection e0 with e0 _
  subst e0
  obtain ⟨a1, vr, e1, k0, k1, k2⟩ := hf (L := nodL) 1 _ 3 rfl (by kernel_rfl) o_nod
  have e1 : [c1, c2, c3] = [.int .i64 a1.id, .string a1.kind, vr] := e1
  injection e1 with e1 e2
  injection e2 with e2 e3
  injection e3 with e3 _
  subst e1; subst e2; subst e3
  obtain ⟨a2, e4, h4⟩ := hf (L := prpL) 2 _ 4 rfl (by kernel_rfl) o_prp
  have e4 : [c4, c5, c6, c7] = [.string a2.name, .int .i64 a2.v.ty, .int .i64 a2.v.n, .string a2.v.s] := e4
  injection e4 with e4 e5
  injection e5 with e5 e6
  injection e6 with e6 e7
  injection e7 with e7 _
  subst e4; subst e5; subst e6; subst e7
  obtain ⟨a3, e8, h8⟩ := hf (L := tieL) 3 _ 3 rfl (by kernel_rfl) o_tie
  have e8 : [c8, c9, c10] = [.string a3.bond, .int .i64 a3.src, .int .i64 a3.dst] := e8
  injection e8 with e8 e9
  injection e9 with e9 e10
  injection e10 with e10 _
  subst e8; subst e9; subst e10
  exact ⟨⟨a0, a1, a2, a3⟩, c3, rfl, ⟨k2, k1, k0, h4, h8⟩⟩
theorem o_oprs : Opens Tryz.prog (slL oprL) 38 := Opens.slice Tryz.underlying38 (by kernel_rfl) (by decide) o_opr
theorem opr_at {w : World} {A : Option Addr} {k n c : Nat} {l : List Opr} (h : Sl oprL w (.slice A n c) l) {d : Opr} (hk : l[k]? = some d) :
 ∃ b o vr, A = some ⟨b, o, none⟩ /\ OprR w vr d /\ ∀ j u, (oprCells d vr).toList[j]? = some u -> w.cell? ⟨b, o + k * 11 + j, none⟩ = some u := by
 obtain ⟨b, o, hA, hall⟩ := h.all (len_pos hk)
 obtain ⟨cs, ⟨vr, rfl, hr⟩, hx⟩ := hall k d hk
 exact ⟨b, o, vr, hA, hr, fun j u hj => by have h := hx j u hj; rw [<- Nat.add_assoc] at h; exact h⟩
theorem chain_lt2 {l : List Nod} (hc : chain nodLt l = true) : ∀ {i j : Nat} {a b : Nod}, i < j -> l[i]? = some a -> l[j]? = some b -> a.id < b.id := by
 intro i j
 induction j with
 | zero => intro a b h; omega
 | succ j ih =>
  intro a b h ha hb
  have hj : j < l.length := by have := (List.getElem?_eq_some_iff.1 hb).1; omega
  have h1 := chain_iff.1 hc j l[j] b (List.getElem?_eq_getElem hj) hb
  simp only [nodLt, decide_eq_true_eq] at h1
  rcases Nat.lt_or_ge i j with h2 | h2
  ·have := ih (b := l[j]) h2 ha (List.getElem?_eq_getElem hj); omega
  obtain rfl : i = j := by omega
  have := ha.symm.trans (List.getElem?_eq_getElem hj)
  cases this
  exact h1
theorem fhas_any {l : List Nod} (hc : chain nodLt l = true) (id : Int) : fhas l id = l.any fun n => n.id == id := by
 cases hq : fhas l id with
 | true =>
  obtain ⟨n, hn⟩ := fhas_some' hq
  have h0 : nodC id n = 0 := by
   unfold fhas eqAt at hq
   rw [hn] at hq
   simpa using hq
  have := (cmpI_zero (a := n.id) (b := id)).1 h0
  exact (List.any_eq_true.2 ⟨n, List.mem_of_getElem? hn, by simp [this]⟩).symm
 | false =>
  symm
  rw [List.any_eq_false]
  intro n hn
  obtain ⟨i, hi⟩ := List.mem_iff_getElem?.1 hn
  simp only [beq_iff_eq]
  intro he
  have h0 : nodC id n = 0 := cmpI_zero.2 he
  rcases Nat.lt_trichotomy i (fpos l id) with h | h | h
  ·have := low_lt (c := nodC id) h hi; omega
  ·subst h
   unfold fhas eqAt at hq
   rw [hi] at hq
   simp [h0] at hq
  have hlt : fpos l id < l.length := by have := (List.getElem?_eq_some_iff.1 hi).1; omega
  obtain ⟨m, hm⟩ : ∃ m, l[fpos l id]? = some m := ⟨_, List.getElem?_eq_getElem hlt⟩
  have h1 := low_ge (c := nodC id) hc (nodC_mono id) (Nat.le_refl _) hm
  have h2 : ¬ nodC id m = 0 := by
   unfold fhas eqAt at hq
   rw [hm] at hq
   simpa using hq
  have h3 := chain_lt2 hc h hm hi
  unfold nodC at h0 h1 h2
  have a1 := (cmpI_zero (a := n.id) (b := id)).1 h0
  have a2 := @cmpI_neg m.id id
  have a3 := @cmpI_zero m.id id
  have a4 : ¬ m.id < id := fun h => by have := a2.2 h; omega
  have a5 : ¬ m.id = id := fun h => h2 (a3.2 h)
  omega
open Go
theorem chain_pw {D : Type} {R : D -> D -> Bool} (tr : ∀ a b c, R a b = true -> R b c = true -> R a c = true) : ∀ {l : List D}, chain R l = true ↔ l.Pairwise fun a b => R a b = true
 | [] => by simp [chain]
 | [a] => by simp [chain]
 | a :: b :: r => by
  have ih := chain_pw tr (l := b :: r)
  rw [chain, Bool.and_eq_true, ih]
  constructor
  ·rintro ⟨h1, h2⟩
   refine List.pairwise_cons.2 ⟨fun x hx => ?_, h2⟩
   rcases List.mem_cons.1 hx with rfl | hx
   ·exact h1
   exact tr a b x h1 ((List.pairwise_cons.1 h2).1 x hx)
  intro h
  obtain ⟨h1, h2⟩ := List.pairwise_cons.1 h
  exact ⟨h1 b (by simp), h2⟩
theorem pw_insert {D : Type} {R : D -> D -> Prop} {l : List D} {i : Nat} {x : D} (h : l.Pairwise R) (h1 : ∀ d ∈ l.take i, R d x) (h2 : ∀ d ∈ l.drop i, R x d) : (l.take i ++ x :: l.drop i).Pairwise R := by
 rw [List.pairwise_append]
 refine ⟨h.sublist (List.take_sublist _ _), List.pairwise_cons.2 ⟨h2, h.sublist (List.drop_sublist _ _)⟩, fun a ha b hb => ?_⟩
 rcases List.mem_cons.1 hb with rfl | hb
 ·exact h1 a ha
 rw [<- List.take_append_drop i l, List.pairwise_append] at h
 exact h.2.2 a ha b hb
theorem pw_delete {D : Type} {R : D -> D -> Prop} {l : List D} (h : l.Pairwise R) (i : Nat) : (l.take i ++ l.drop (i + 1)).Pairwise R := by
 rw [<- List.eraseIdx_eq_take_drop_succ]
 exact h.sublist (List.eraseIdx_sublist _ _)
theorem mem_delete {D : Type} {l : List D} {i : Nat} {x : D} (h : x ∈ l.take i ++ l.drop (i + 1)) : x ∈ l := by
 rcases List.mem_append.1 h with h | h
 ·exact List.mem_of_mem_take h
 exact List.mem_of_mem_drop h
theorem len_delete {D : Type} (l : List D) (i : Nat) : (l.take i ++ l.drop (i + 1)).length <= l.length := by simp; omega
theorem mem_insert {D : Type} {l : List D} {i : Nat} {x y : D} (h : y ∈ l.take i ++ x :: l.drop i) : y = x \/ y ∈ l := by
 rcases List.mem_append.1 h with h | h
 ·exact .inr (List.mem_of_mem_take h)
 rcases List.mem_cons.1 h with h | h
 ·exact .inl h
 exact .inr (List.mem_of_mem_drop h)
theorem low_parts {D : Type} {R : D -> D -> Bool} {c : D -> Int} {l : List D} (hc : chain R l = true) (mono : ∀ a b, R a b = true -> 0 <= c a -> 0 <= c b) (hno : eqAt c l (lowI c l) = false)
 (hz : ∀ a b, R a b = true -> c b = 0 -> c a < 0) : (∀ d ∈ l.take (lowI c l), c d < 0) /\ ∀ d ∈ l.drop (lowI c l), 0 < c d := by
 constructor
 ·intro d hd
  obtain ⟨i, hi⟩ := List.mem_iff_getElem?.1 hd
  rw [List.getElem?_take] at hi
  split at hi
  ·rename_i h; exact low_lt h hi
  cases hi
 intro d hd
 obtain ⟨i, hi⟩ := List.mem_iff_getElem?.1 hd
 rw [List.getElem?_drop] at hi
 have h0 := low_ge (c := c) hc mono (by omega) hi
 by_cases h1 : 0 < c d
 ·exact h1
 have hd0 : c d = 0 := by omega
 rcases Nat.eq_zero_or_pos i with rfl | hp
 ·unfold eqAt at hno
  rw [Nat.add_zero] at hi
  rw [hi] at hno
  simp [hd0] at hno
 have hil := (List.getElem?_eq_some_iff.1 hi).1
 have hm : l[lowI c l]? = some (l[lowI c l]'(by omega)) := List.getElem?_eq_getElem _
 have h2 := low_ge (c := c) hc mono (Nat.le_refl _) hm
 have h3 : 0 < c (l[lowI c l]'(by omega)) := by
  unfold eqAt at hno
  rw [hm] at hno
  have : ¬ c (l[lowI c l]'(by omega)) = 0 := by simpa using hno
  omega
 have key : ∀ (k : Nat) e, l[lowI c l + k]? = some e -> 0 < c e := by
  intro k
  induction k with
  | zero => intro e he; rw [Nat.add_zero, hm] at he; injection he with he; subst he; exact h3
  | succ k ih =>
   intro e he
   have hl := (List.getElem?_eq_some_iff.1 he).1
   have hp' : l[lowI c l + k]? = some (l[lowI c l + k]'(by omega)) := List.getElem?_eq_getElem _
   have h4 := ih _ hp'
   have h5 := chain_iff.1 hc (lowI c l + k) _ e hp' (by rw [<- he]; rfl)
   have h6 := mono _ _ h5 (by omega)
   by_cases h7 : c e = 0
   ·have := hz _ _ h5 h7; omega
   omega
 exact key i d hi
theorem cmpI_pos {a b : Int} : 0 < cmpI a b ↔ b < a := by unfold cmpI; split <;> (try split) <;> omega
theorem nodLt_tr : ∀ a b c, nodLt a b = true -> nodLt b c = true -> nodLt a c = true := by
 intro a b c h k
 unfold nodLt at *
 simp only [decide_eq_true_eq] at *
 omega
theorem tieLt_tr : ∀ a b c, tieLt a b = true -> tieLt b c = true -> tieLt a c = true := by
 intro a b c h k
 unfold tieLt at *
 simp only [decide_eq_true_eq] at *
 exact tieO_trans h k
theorem prpLt_iff {a b : Prp} : prpLt a b = true ↔ cmpS a.name b.name < 0 := by
 unfold prpLt; rw [ltS_cmp]; simp
theorem prpLt_tr : ∀ a b c, prpLt a b = true -> prpLt b c = true -> prpLt a c = true := by
 intro a b c h k
 rw [prpLt_iff] at *
 exact cmpS_trans h k
theorem tieO_pos {a b : Tie} (h : 0 < tieO a b) : tieO b a < 0 := by
 rw [tieO_neg]
 have h0 := @cmpS_zero a.bond b.bond
 have ha := cmpS_anti a.bond b.bond
 have h1 := @cmpI_pos a.src b.src
 have h2 := @cmpI_zero a.src b.src
 have h3 := @cmpI_pos a.dst b.dst
 unfold tieO orI at h
 by_cases e1 : cmpS a.bond b.bond = 0
 ·rw [if_pos e1] at h
  unfold orI at h
  by_cases e2 : cmpI a.src b.src = 0
  ·rw [if_pos e2] at h
   unfold orI orI at h
   by_cases e3 : cmpI a.dst b.dst = 0
   ·rw [if_pos e3] at h; omega
   rw [if_neg e3] at h
   exact .inr ⟨(h0.1 e1).symm, .inr ⟨(h2.1 e2).symm, h3.1 h⟩⟩
  rw [if_neg e2] at h
  exact .inr ⟨(h0.1 e1).symm, .inl (h1.1 h)⟩
 rw [if_neg e1] at h
 exact .inl (by omega)
/-! ### What makes a graph right -/
def clashN (p : Option Nod) (n : Nod) : Bool := match p with | some q => decide (n.id <= q.id) | none => false
def clashT (p : Option Tie) (t : Tie) : Bool := match p with | some q => decide (0 <= tieO q t) | none => false
theorem nodsE_mk : ∀ {l : List Nod} {p : Option Nod}, (∀ n ∈ l, idB n.id = true /\ nodE n = 0) -> chain nodLt l = true -> (∀ a b, p = some a -> l.head? = some b -> nodLt a b = true) -> nodsE p l = 0
 | [], p, _, _, _ => by cases p <;> rfl
 | n :: r, p, h, hc, hp => by
  obtain ⟨h1, h2⟩ := h n (by simp)
  have e : nodsE p (n :: r) = if idB n.id = false then 1 else if clashN p n then 7 else if nodE n = 0 then nodsE (some n) r else nodE n := by cases p <;> rfl
  have hno : clashN p n = false := by
   clear e
   cases p with
   | none => rfl
   | some q =>
    have := hp q n rfl rfl
    unfold nodLt at this
    have := of_decide_eq_true this
    exact decide_eq_false (by omega)
  rw [e, if_neg (by simp [h1]), hno, if_neg (by simp), if_pos h2]
  refine nodsE_mk (fun m hm => h m (by simp [hm])) ?_ (fun a b ha hb => ?_)
  ·cases r with
   | nil => rfl
   | cons b r => simp only [chain, Bool.and_eq_true] at hc; exact hc.2
  cases ha
  cases r with
  | nil => cases hb
  | cons b' r => simp at hb; subst hb; simp only [chain, Bool.and_eq_true] at hc; exact hc.1
theorem tiesE_mk : ∀ {l : List Tie} {p : Option Tie}, (∀ t ∈ l, tieE t = 0) -> chain tieLt l = true -> (∀ a b, p = some a -> l.head? = some b -> tieLt a b = true) -> tiesE p l = 0
 | [], p, _, _, _ => by cases p <;> rfl
 | t :: r, p, h, hc, hp => by
  have h1 := h t (by simp)
  have e : tiesE p (t :: r) = if tieE t = 0 then (if clashT p t then 7 else tiesE (some t) r) else tieE t := by cases p <;> rfl
  have hno : clashT p t = false := by
   clear e
   cases p with
   | none => rfl
   | some q =>
    have := hp q t rfl rfl
    unfold tieLt at this
    have := of_decide_eq_true this
    exact decide_eq_false (by omega)
  rw [e, if_pos h1, hno, if_neg (by simp)]
  refine tiesE_mk (fun m hm => h m (by simp [hm])) ?_ (fun a b ha hb => ?_)
  ·cases r with
   | nil => rfl
   | cons b r => simp only [chain, Bool.and_eq_true] at hc; exact hc.2
  cases ha
  cases r with
  | nil => cases hb
  | cons b' r => simp at hb; subst hb; simp only [chain, Bool.and_eq_true] at hc; exact hc.1
theorem grf_mk {g : Grf} (h1 : g.nodes.length <= 60) (h2 : g.ties.length <= 120) (h3 : chain nodLt g.nodes = true) (h4 : ∀ n ∈ g.nodes, idB n.id = true /\ nodE n = 0) (h5 : chain tieLt g.ties = true) (h6 : ∀ t ∈ g.ties, tieE t = 0) : grfE g = 0 := by
 unfold grfE
 rw [if_neg (by omega), nodsE_mk (p := none) h4 h3 (fun a b ha => by cases ha), if_pos rfl, tiesE_mk (p := none) h6 h5 (fun a b ha => by cases ha)]
theorem firstE_mk {D : Type} {f : D -> Int} : ∀ {l : List D}, (∀ d ∈ l, f d = 0) -> firstE f l = 0
 | [], _ => rfl
 | d :: r, h => by rw [firstE, if_pos (h d (by simp))]; exact firstE_mk fun x hx => h x (by simp [hx])
theorem rec_mk {r : List Prp} (h1 : r.length <= 8) (h2 : ∀ p ∈ r, prpE p = 0) (h3 : chain prpLt r = true) : recE r = 0 := by
 have h3 : chain (fun a b : Prp => ltS a.name b.name) r = true := h3
 unfold recE
 rw [if_neg (by omega), if_pos (firstE_mk h2), h3]; rfl
theorem nodE_put {n : Nod} {r : List Prp} (h : nodE n = 0) (hr : recE r = 0) : nodE ⟨n.id, n.kind, r⟩ = 0 := by
 unfold nodE at h ⊢
 by_cases h1 : idB n.id = false
 ·rw [if_pos h1] at h; cases h
 rw [if_neg h1] at h ⊢
 by_cases h2 : nameE n.kind = 0
 ·rw [if_pos h2]; exact hr
 rw [if_neg h2] at h; exact absurd h h2
/-! ### Records -/
theorem prp_hz (nm : ByteArray) : ∀ a b, prpLt a b = true -> prpC nm b = 0 -> prpC nm a < 0 := by
 intro a b h k
 rw [prpLt_iff] at h
 unfold prpC at *
 rw [<- cmpS_zero.1 k]
 exact h
theorem set_right {r : List Prp} {p : Prp} (h : setE r p = 0) : recE (setR r p) = 0 := by
 have h0 := h
 unfold setE at h
 by_cases e1 : recE r = 0
 ·rw [if_pos e1] at h
  by_cases e2 : prpE p = 0
  ·rw [if_pos e2] at h
   obtain ⟨a1, a2, a3⟩ := rec_ok e1
   unfold setR
   rw [if_pos h0]
   unfold putP
   cases hh : rhas r p.name with
   | true =>
    rw [if_pos rfl]
    obtain ⟨q, hq⟩ := rhas_some hh
    have hqn : q.name = p.name := by
     unfold rhas eqAt at hh
     rw [hq] at hh
     have : prpC p.name q = 0 := by simpa using hh
     exact cmpS_zero.1 this
    refine rec_mk (by simpa using a1) (fun x hx => ?_) ?_
    ·rcases List.mem_or_eq_of_mem_set hx with hx | rfl
     ·exact a2 x hx
     exact e2
    ·rw [chain_iff]
     intro i a b ha hb
     have key : ∀ (j : Nat) (c : Prp), (r.set (rpos r p.name) p)[j]? = some c -> ∃ c', r[j]? = some c' /\ c'.name = c.name := by
      intro j c hc
      rw [List.getElem?_set] at hc
      split at hc
      ·rename_i hj
       subst hj
       split at hc
       ·injection hc with hc; subst hc; exact ⟨q, hq, hqn⟩
       cases hc
      exact ⟨c, hc, rfl⟩
     obtain ⟨a', ha', na⟩ := key i a ha
     obtain ⟨b', hb', nb⟩ := key (i + 1) b hb
     have := chain_iff.1 a3 i a' b' ha' hb'
     rw [prpLt_iff] at this ⊢
     rw [<- na, <- nb]; exact this
   | false =>
    rw [hh] at h
    simp only [Bool.false_eq_true, if_false] at h
    have hl : ¬ 8 <= r.length := fun hl => by rw [if_pos hl] at h; cases h
    rw [if_neg (by simp)]
    obtain ⟨b1, b2⟩ := low_parts (c := prpC p.name) a3 (prpC_mono p.name) hh (prp_hz p.name)
    refine rec_mk (by simp; have := lowI_le (prpC p.name) r; unfold rpos; omega) (fun x hx => ?_) ((chain_pw prpLt_tr).2 (pw_insert ((chain_pw prpLt_tr).1 a3) (fun d hd => ?_) (fun d hd => ?_)))
    ·rcases mem_insert hx with rfl | hx
     ·exact e2
     exact a2 x hx
    ·rw [prpLt_iff]; exact b1 d hd
    rw [prpLt_iff, cmpS_anti]; have := b2 d hd; unfold prpC at this; omega
  rw [if_neg e2] at h; exact absurd h e2
 rw [if_neg e1] at h; exact absurd h e1
theorem unset_right {r : List Prp} {nm : ByteArray} (h : unsetE r nm = 0) : recE (unsetR r nm) = 0 := by
 have h0 := h
 unfold unsetE at h
 by_cases e1 : recE r = 0
 ·obtain ⟨a1, a2, a3⟩ := rec_ok e1
  unfold unsetR
  rw [if_pos h0]
  exact rec_mk (Nat.le_trans (len_delete _ _) a1) (fun x hx => a2 x (mem_delete hx)) ((chain_pw prpLt_tr).2 (pw_delete ((chain_pw prpLt_tr).1 a3) _))
 rw [if_neg e1] at h; exact absurd h e1
theorem put_right {g : Grf} (h : grfE g = 0) {id : Int} {r : List Prp} (hh : fhas g.nodes id = true) (hr : recE r = 0) : grfE ⟨putRec g.nodes (fpos g.nodes id) r, g.ties⟩ = 0 := by
 obtain ⟨h1, h2, h3, h4⟩ := grf_ok h
 obtain ⟨h5, h6⟩ := grf_ties h
 obtain ⟨n, hn⟩ := fhas_some' hh
 unfold putRec
 rw [hn]
 refine grf_mk (by simpa using h1) h2 ?_ (fun m hm => ?_) h5 h6
 ·rw [chain_iff]
  intro i a b ha hb
  have key : ∀ (j : Nat) (c : Nod), (g.nodes.set (fpos g.nodes id) ⟨n.id, n.kind, r⟩)[j]? = some c -> ∃ c', g.nodes[j]? = some c' /\ c'.id = c.id := by
   intro j c hc
   rw [List.getElem?_set] at hc
   split at hc
   ·rename_i hj
    subst hj
    split at hc
    ·injection hc with hc; subst hc; exact ⟨n, hn, rfl⟩
    cases hc
   exact ⟨c, hc, rfl⟩
  obtain ⟨a', ha', na⟩ := key i a ha
  obtain ⟨b', hb', nb⟩ := key (i + 1) b hb
  have := chain_iff.1 h3 i a' b' ha' hb'
  unfold nodLt at this ⊢
  rw [<- na, <- nb]; exact this
 rcases List.mem_or_eq_of_mem_set hm with hm | rfl
 ·exact h4 m hm
 obtain ⟨k1, k2⟩ := h4 n (List.mem_of_getElem? hn)
 exact ⟨k1, nodE_put k2 hr⟩
theorem op_right {g : Grf} {o : Opr} (h : grfE g = 0) (ho : opE g o = 0) : grfE (opG g o) = 0 := by
 obtain ⟨h1, h2, h3, h4⟩ := grf_ok h
 obtain ⟨h5, h6⟩ := grf_ties h
 unfold opE at ho
 unfold opG
 by_cases w1 : o.what = 1
 ·rw [if_pos w1] at ho ⊢
  unfold bornE at ho
  by_cases e1 : nodE o.node = 0
  ·rw [if_pos e1] at ho
   cases hh : fhas g.nodes o.node.id with
   | true => rw [hh] at ho; simp at ho
   | false =>
    rw [hh] at ho
    simp only [Bool.false_eq_true, if_false] at ho
    have hl : ¬ 60 <= g.nodes.length := fun hl => by rw [if_pos hl] at ho; cases ho
    obtain ⟨b1, b2⟩ := low_parts (c := nodC o.node.id) h3 (nodC_mono o.node.id) hh (fun a b hab hb => by
     unfold nodLt at hab; unfold nodC at *
     have := of_decide_eq_true hab
     exact cmpI_neg.2 (by rw [<- cmpI_zero.1 hb]; exact this))
    have hid : idB o.node.id = true := by
     unfold nodE at e1
     cases hb : idB o.node.id with
     | true => rfl
     | false => rw [hb] at e1; simp at e1
    unfold bornG
    refine grf_mk (by simp; have := lowI_le (nodC o.node.id) g.nodes; unfold fpos; omega) h2 ((chain_pw nodLt_tr).2 (pw_insert ((chain_pw nodLt_tr).1 h3) (fun d hd => ?_) (fun d hd => ?_))) (fun m hm => ?_) h5 h6
    ·unfold nodLt; exact decide_eq_true (cmpI_neg.1 (b1 d hd))
    ·unfold nodLt; exact decide_eq_true (cmpI_pos.1 (b2 d hd))
    rcases mem_insert hm with rfl | hm
    ·exact ⟨hid, e1⟩
    exact h4 m hm
  rw [if_neg e1] at ho; exact absurd ho e1
 rw [if_neg w1] at ho ⊢
 by_cases w2 : o.what = 2
 ·rw [if_pos w2]
  unfold goneG
  exact grf_mk (Nat.le_trans (len_delete _ _) h1) (Nat.le_trans (List.length_filter_le _ _) h2) ((chain_pw nodLt_tr).2 (pw_delete ((chain_pw nodLt_tr).1 h3) _)) (fun m hm => h4 m (mem_delete hm))
   ((chain_pw tieLt_tr).2 (((chain_pw tieLt_tr).1 h5).filter _)) (fun t ht => h6 t (List.mem_filter.1 ht).1)
 rw [if_neg w2] at ho ⊢
 by_cases w3 : o.what = 3
 ·rw [if_pos w3] at ho ⊢
  cases hh : fhas g.nodes o.node.id with
  | false => rw [hh] at ho; simp at ho
  | true =>
   rw [hh, if_pos rfl] at ho
   exact put_right h hh (set_right ho)
 rw [if_neg w3] at ho ⊢
 by_cases w4 : o.what = 4
 ·rw [if_pos w4] at ho ⊢
  cases hh : fhas g.nodes o.node.id with
  | false => rw [hh] at ho; simp at ho
  | true =>
   rw [hh, if_pos rfl] at ho
   exact put_right h hh (unset_right ho)
 rw [if_neg w4] at ho ⊢
 by_cases w5 : o.what = 5
 ·rw [if_pos w5] at ho ⊢
  by_cases e1 : tieE o.tie = 0
  ·rw [if_pos e1] at ho
   cases hh : thas g.ties o.tie with
   | true => rw [hh] at ho; simp at ho
   | false =>
    rw [hh] at ho
    simp only [Bool.false_eq_true, if_false] at ho
    have hl : ¬ 120 <= g.ties.length := fun hl => by rw [if_pos hl] at ho; cases ho
    obtain ⟨b1, b2⟩ := low_parts (c := tieC o.tie) h5 (tieC_mono o.tie) hh (fun a b hab hb => by
     unfold tieLt at hab; unfold tieC at *
     rw [<- tieO_zero.1 hb]; exact of_decide_eq_true hab)
    refine grf_mk h1 (by simp; have := lowI_le (tieC o.tie) g.ties; unfold tpos; omega) h3 h4 ((chain_pw tieLt_tr).2 (pw_insert ((chain_pw tieLt_tr).1 h5) (fun d hd => ?_) (fun d hd => ?_))) (fun t ht => ?_)
    ·unfold tieLt; exact decide_eq_true (b1 d hd)
    ·unfold tieLt; exact decide_eq_true (tieO_pos (b2 d hd))
    rcases mem_insert ht with rfl | ht
    ·exact e1
    exact h6 t ht
  rw [if_neg e1] at ho; exact absurd ho e1
 rw [if_neg w5] at ho ⊢
 by_cases w6 : o.what = 6
 ·rw [if_pos w6]
  exact grf_mk h1 (Nat.le_trans (len_delete _ _) h2) h3 h4 ((chain_pw tieLt_tr).2 (pw_delete ((chain_pw tieLt_tr).1 h5) _)) (fun t ht => h6 t (mem_delete ht))
 rw [if_neg w6] at ho; cases ho
def allG (g : Grf) : List Opr -> Grf
 | [] => g
 | o :: r => if opE g o = 0 then allG (opG g o) r else ⟨[], []⟩
def allE (g : Grf) : List Opr -> Int
 | [] => 0
 | o :: r => if opE g o = 0 then allE (opG g o) r else opE g o
theorem all_right : ∀ {l : List Opr} {g : Grf}, grfE g = 0 -> allE g l = 0 -> grfE (allG g l) = 0
 | [], _, h, _ => h
 | o :: r, g, h, he => by
  unfold allE at he
  unfold allG
  by_cases h0 : opE g o = 0
  ·rw [if_pos h0] at he ⊢
   exact all_right (op_right h h0) he
  rw [if_neg h0] at he; exact absurd he h0
open Go Go.RowKit
structure Flt where
 what : Int
 node : Int
 name : ByteArray
def Flt.enc (d : Flt) : List Value := [.int .i64 d.what, .int .i64 d.node, .string d.name]
def Flt.ok (d : Flt) : Prop := I64 d.what /\ I64 d.node /\ Sm d.name
theorem Flt.enc_len (d : Flt) : d.enc.length = 3 := rfl
def fltL : Lay Flt := flatL 3 Flt.ok Flt.enc Flt.enc_len
theorem flt_info : (Tryz.prog.info? 137).map (fun i => (i.zero, i.size, i.bytes)) = some (some (.agg #[.int .i64 0, .int .i64 0, .string .empty]), 3, 32) := by kernel_rfl
theorem Own.is_cells {w : World} {B : Nat} {e : TypeId} {sz n k : Nat} {v : Value} {xs : List Value} (ho : Own w B e sz v n xs) (h : v.ownBlock = some k) : ∃ c fr, w.heap[k]? = some (.cells c e fr) := by
 rcases ho.2 with ⟨rfl, _⟩ | ⟨g, o, cap, cur, rfl, _, hg2, _⟩
 ·simp [Value.ownBlock] at h
 simp [Value.ownBlock] at h
 subst h
 exact ⟨_, _, hg2⟩
structure Ck (B : Nat) (w : World) (bc : Nat) (vk vb vn vt mv out : Value) (fs : List Flt) : Prop where
 q : w.heap[bc]? = some (.cells #[vk, vb, vn, vt, out, mv] 201 (0, 0))
 l : B <= bc
 o : Own w B 137 3 out fs.length (fs.flatMap Flt.enc)
 k : ∀ x ∈ fs, x.ok
theorem Ck.below {B : Nat} {w w' : World} {bc : Nat} {vk vb vn vt mv out : Value} {fs : List Flt} (h : Ck B w bc vk vb vn vt mv out fs) (hb : Below w.heap.size w w') : Ck B w' bc vk vb vn vt mv out fs :=
 ⟨(hb.block _ (geB h.q)).trans h.q, h.l, h.o.below hb, h.k⟩
structure Told1 (B : Nat) (w w' : World) (bc : Nat) (vk vb vn vt mv : Value) (fs : List Flt) : Prop where
 c : ∃ out, Ck B w' bc vk vb vn vt mv out fs
 b : Below B w w'
 s : ∀ T, 137 ≠ T -> 201 ≠ T -> Same T w w'
 m : ∀ (k : Nat) m c, w.heap[k]? = some (.map m c) -> w'.heap[k]? = some (.map m c)
 z : w.heap.size <= w'.heap.size
theorem Told1.trans {B : Nat} {w w1 w2 : World} {bc : Nat} {vk vb vn vt mv : Value} {fs gs : List Flt} (h : Told1 B w w1 bc vk vb vn vt mv fs) (k : Told1 B w1 w2 bc vk vb vn vt mv gs) : Told1 B w w2 bc vk vb vn vt mv gs :=
 ⟨k.c, h.b.trans k.b, fun T h1 h2 => (h.s T h1 h2).trans (k.s T h1 h2), fun i m c hm => k.m i m c (h.m i m c hm), Nat.le_trans h.z k.z⟩
theorem Told1.first {B : Nat} {w w1 w2 : World} {bc : Nat} {vk vb vn vt mv : Value} {gs : List Flt} (hb : Below w.heap.size w w1) (hB : B <= w.heap.size) (k : Told1 B w1 w2 bc vk vb vn vt mv gs) : Told1 B w w2 bc vk vb vn vt mv gs :=
 ⟨k.c, (hb.mono hB).trans k.b, fun T h1 h2 => (Same.below hb).trans (k.s T h1 h2), fun i m c hm => k.m i m c ((hb.block _ (geB hm)).trans hm), Nat.le_trans hb.size k.z⟩
theorem Told1.last {B : Nat} {w w1 w2 : World} {bc : Nat} {vk vb vn vt mv : Value} {gs : List Flt} (k : Told1 B w w1 bc vk vb vn vt mv gs) (hB : B <= w1.heap.size) (hb : Below w1.heap.size w1 w2) : Told1 B w w2 bc vk vb vn vt mv gs := by
 obtain ⟨out, hc⟩ := k.c
 exact ⟨⟨out, hc.below hb⟩, k.b.trans (hb.mono hB), fun T h1 h2 => (k.s T h1 h2).trans (Same.below hb), fun i m c hm => (hb.block _ (Array.getElem?_eq_some_iff.1 (k.m i m c hm)).1).trans (k.m i m c hm), Nat.le_trans k.z hb.size⟩
set_option maxRecDepth 100000 in
set_option maxHeartbeats 4000000 in
theorem tell_any (B bc : Nat) (vk vb vn vt mv out : Value) (fs : List Flt) (d : Flt) (w : World) (hB : B <= w.heap.size) (hC : Ck B w bc vk vb vn vt mv out fs) (hd : d.ok) (hl : fs.length <= 100000) :
 Calls Tryz.prog 118 #[.pointer (some ⟨bc, 0, none⟩), .int .i64 d.what, .int .i64 d.node, .string d.name] w fun e w' => e = .returned (.tuple #[]) /\ Told1 B w w' bc vk vb vn vt mv (fs ++ [d]) := by
 obtain ⟨A, c, rfl, _, _⟩ := hC.o.form
 obtain ⟨i0, ei, ez, ez1, ez2⟩ := info_parts flt_info
 have x4 := block_cell hC.q 4
 have f4 := block_free hC.q 4
 have HC := Lib.hid hC
 have HD := Lib.hid hd
 have HN : Hid (∀ j u, d.enc[j]? = some u -> (w.alloc (.cells #[.int .i64 d.what, .int .i64 d.node, .string d.name] 137)).cell? ⟨w.heap.size, j, none⟩ = some u) := fun j u hj => by
  rw [World.cell?_alloc_at _ _ _ _ rfl]; simpa [Flt.enc] using hj
 clear hC hd
 have HO : Hid (Own (w.alloc (.cells #[.int .i64 d.what, .int .i64 d.node, .string d.name] 137)) B 137 3 (.slice A fs.length c) fs.length (fs.flatMap Flt.enc)) := HC.out.o.alloc _
 have HSB : Hid (B <= (w.alloc (.cells #[.int .i64 d.what, .int .i64 d.node, .string d.name] 137)).heap.size) := by unfold Hid; simp; omega
 have HQ : Hid ((w.alloc (.cells #[.int .i64 d.what, .int .i64 d.node, .string d.name] 137)).heap[bc]? = some (.cells #[vk, vb, vn, vt, .slice A fs.length c, mv] 201 (0, 0))) := by
  unfold Hid; rw [Below.heap_alloc _ _ _ (geB HC.out.q)]; exact HC.out.q
 go_enter Tryz.func118, Tryz.ntmps118
 go_wp2_with (at_builtin; refine wpList_append_q _ rfl (.tmp 12) (.tmp 17) _ rfl B 137 i0 (.agg #[.int .i64 0, .int .i64 0, .string .empty]) 3 32 Tryz.underlying64 ei ez ez1 ez2 rfl (by decide) (.slice A fs.length c) fs.length (fs.flatMap Flt.enc) rfl HO.out (some ⟨w.heap.size, 0, none⟩) 1 1 d.enc rfl rfl (fun _ => ⟨_, rfl, fun j u hj => by rw [addr_add, Nat.zero_add]; exact HN.out j u hj⟩) (fun u hu => by simp [Flt.enc] at hu; rcases hu with rfl | rfl | rfl <;> rfl) (by unfold maxLen; omega) (by omega) HSB.out ?_; intro v7 w7 hown7 hg7 hat7; obtain ⟨A7, c7, rfl, _, _⟩ := hown7.form; have hq7 := grown_block hg7 HQ.out (HO.out.ne_block HQ.out (by decide)); have e0 := block_cell hq7 4; have e1 := block_free hq7 4)
 go_end0
 refine ⟨rfl, ⟨⟨.slice A7 (fs.length + 1) c7, ?_, HC.out.l, ?_, fun x hx => ?_⟩, ?_, fun T h1 h2 => ?_, fun k m cl hm => ?_, ?_⟩⟩
 ·exact setCell_block hq7 4 _
 ·have h := hown7.same (Same.setCell (T := 137) (p := ⟨bc, 4, none⟩) hq7 (by decide) (.slice A7 (fs.length + 1) c7))
  rw [flat_snoc] at h
  simpa using h
 ·rcases List.mem_append.1 hx with h | h
  ·exact HC.out.k x h
  simp at h; subst h; exact HD.out
 ·exact (((Below.refl B w).alloc hB _).grown hg7 HSB.out (fun k e => (HO.out.lt k e).1)).setCell (p := ⟨bc, 4, none⟩) HC.out.l _
 ·exact ((Same.alloc w _).trans (Same.grown HO.out h1 hg7)).trans (Same.setCell (p := ⟨bc, 4, none⟩) hq7 h2 _)
 ·have hk := (geB hm)
  have h1 : (w.alloc (.cells #[.int .i64 d.what, .int .i64 d.node, .string d.name] 137)).heap[k]? = some (.map m cl) := by rw [Below.heap_alloc _ _ _ hk]; exact hm
  have h2 := grown_block hg7 h1 (fun e => by
   obtain ⟨c, fr, h⟩ := HO.out.is_cells e.symm
   rw [h1] at h; cases h)
  rw [Below.heap_setCell _ _ _ _ (by
   intro e
   have e : k = bc := e
   rw [e, hq7] at h2; cases h2)]
  exact h2
 have h1 := hg7.size
 simp [World.setCell] at h1 ⊢
 omega
open Go.Maps (Keyed)
theorem plainElem_int_inv {H : Type} {P : Program} {e : TypeId} (he : P.underlying e = some (.int .i64)) {v : Value} {z : DataW H × List MemPlace} (h : plainElem P e v = some z) : ∃ n, v = .int .i64 n /\ z = (.lit (.int .i64 n), []) := by
 unfold plainElem at h
 rw [he] at h
 cases v <;> simp at h
 obtain ⟨⟨rfl, _⟩, rfl⟩ := h
 exact ⟨_, rfl, rfl⟩
def FunIs (D : DataW Unit) (F : ByteArray -> Int) : Prop := Maps.IsMap D /\ ∀ s : ByteArray, s.size <= maxLen -> D.atKey (.string s.data.toList) (.lit (.int .i64 0)) = .lit (.int .i64 (F s))
theorem FunIs.empty : FunIs (.map []) (fun _ => 0) := ⟨⟨[], rfl⟩, fun _ _ => rfl⟩
theorem FunIs.put {D : DataW Unit} {F : ByteArray -> Int} (h : FunIs D F) {x : ByteArray} (n : Int) (hk : WideAt.IsKeyLit (.string x.data.toList)) : FunIs (D.put (.string x.data.toList) (.lit (.int .i64 n))) (fun s => if x = s then n else F s) := by
 refine ⟨h.1.put _ _, fun s hs => ?_⟩
 by_cases e : x = s
 ·subst e
  rw [Maps.atKey_put_same h.1 hk]
  simp
 rw [Maps.atKey_put_other (lit_ne (fun e' => e e'.symm)), h.2 s hs]
 simp [e]
def MapI (w : World) (b n : Nat) (F : ByteArray -> Int) : Prop :=
 ∃ D : DataW Unit, w.ownsMap Tryz.prog 9 (plainElem Tryz.prog 3) b n D /\ FunIs D F
theorem zeroInt (w : World) : (zeroValue 3).run Tryz.prog w = .ok (.int .i64 0) w := by kernel_rfl
theorem MapI.made (w : World) : MapI (w.alloc (.map #[] 0)) w.heap.size 0 (fun _ => 0) := ⟨_, World.ownsMap_made w _ _ _, FunIs.empty⟩
theorem MapI.lt {w : World} {b n : Nat} {F : ByteArray -> Int} (h : MapI w b n F) : b < w.heap.size := by
 obtain ⟨D, h1, _⟩ := h
 exact h1.lt
set_option maxRecDepth 100000 in
theorem MapI.look {w : World} {b n : Nat} {F : ByteArray -> Int} (h : MapI w b n F) {s : ByteArray} (hs : s.size <= maxLen) :
 (Instr.lookup 325 (.map (some b)) (.string s) false).run Tryz.prog w = .ok (.int .i64 (F s)) w := by
 obtain ⟨D, h1, h2⟩ := h
 obtain ⟨v, ps, hrun, hv⟩ := h1.lookup setLaw Tryz.underlying325 (zeroInt w) (plainElem_int Tryz.underlying3 (by decide)) (WideMaps.keyOf_string_mk Tryz.underlying9 hs)
 obtain ⟨x, rfl, hx⟩ := plainElem_int_inv Tryz.underlying3 hv
 rw [h2.2 s hs] at hx
 injection hx with hx _
 injection hx with hx
 injection hx with _ hx
 rw [hrun, hx]
set_option maxRecDepth 100000 in
theorem MapI.put {w : World} {b n : Nat} {F : ByteArray -> Int} (h : MapI w b n F) (hn : n < maxLen) {s : ByteArray} (hs : s.size <= maxLen) {v : Int} (hv : I64 v) :
 ∃ w', (Instr.mapUpdate 325 (.map (some b)) (.string s) (.int .i64 v)).run Tryz.prog w = .ok () w' /\ MapI w' b (n + 1) (fun t => if s = t then v else F t) /\ w.grownBy w' (some b) := by
 obtain ⟨D, h1, h2⟩ := h
 have hkey := WideMaps.keyOf_string_mk Tryz.underlying9 hs
 have hwf : (Lit.int .i64 v).wf = true := by
  obtain ⟨h1, h2⟩ := hv
  have e1 : IntKind.min .i64 = -9223372036854775808 := by decide
  have e2 : IntKind.max .i64 = 9223372036854775807 := by decide
  simp only [Lit.wf, Bool.and_eq_true, decide_eq_true_eq, e1, e2]
  exact ⟨h1, h2⟩
 obtain ⟨w', hrun, hm, hg⟩ := h1.update setLaw Tryz.underlying325 hn hkey (plainElem_int (H := Unit) Tryz.underlying3 hwf)
 exact ⟨w', hrun, ⟨_, hm, h2.put v trivial⟩, hg⟩
open Go Go.RowKit Go.Shelf
attribute [local go_sem] Oper.semAt_some
structure KndAt (w : World) (b o : Nat) (l : List Knd) (f : Fin l.length -> Value × Value) : Prop where
 at_ : ∀ i : Fin l.length, w.cell? ⟨b, o + i.1 * 3, none⟩ = some (.string (l[i.1]).name) /\ w.cell? ⟨b, o + i.1 * 3 + 1, none⟩ = some (f i).1 /\ w.cell? ⟨b, o + i.1 * 3 + 2, none⟩ = some (f i).2 /\
   Sm (l[i.1]).name /\ Sl strL w (f i).1 (l[i.1]).ofs /\ Sl fldL w (f i).2 (l[i.1]).fields
theorem kndAt_of {w : World} {A : Option Addr} {n c : Nat} {l : List Knd} (h : Sl kndL w (.slice A n c) l) (h0 : 0 < l.length) : ∃ b o f, A = some ⟨b, o, none⟩ /\ KndAt w b o l f := by
 obtain ⟨b, o, hA, hall⟩ := knd_all h h0
 have : ∀ i : Fin l.length, ∃ p : Value × Value, w.cell? ⟨b, o + i.1 * 3, none⟩ = some (.string (l[i.1]).name) /\ w.cell? ⟨b, o + i.1 * 3 + 1, none⟩ = some p.1 /\ w.cell? ⟨b, o + i.1 * 3 + 2, none⟩ = some p.2 /\
  Sm (l[i.1]).name /\ Sl strL w p.1 (l[i.1]).ofs /\ Sl fldL w p.2 (l[i.1]).fields := fun i => by
  obtain ⟨u, x, h1, h2, h3, c0, c1, c2⟩ := hall i.1 _ (List.getElem?_eq_getElem i.2)
  exact ⟨(u, x), c0, c1, c2, h1, h2, h3⟩
 exact ⟨b, o, fun i => Classical.choose (this i), hA, ⟨fun i => Classical.choose_spec (this i)⟩⟩
theorem KndAt.below {w w' : World} {b o : Nat} {l : List Knd} {f : Fin l.length -> Value × Value} (hb : Below w.heap.size w w') (h : KndAt w b o l f) : KndAt w' b o l f :=
 ⟨fun i => let ⟨c0, c1, c2, h1, h2, h3⟩ := h.at_ i; ⟨cell_below hb c0, cell_below hb c1, cell_below hb c2, h1, h2.below hb, h3.below hb⟩⟩
def kndEnc (l : List Knd) (f : Fin l.length -> Value × Value) (i : Fin l.length) : Array Value := #[.int .i64 (i.1 : Int), .agg #[.string (l[i.1]).name, (f i).1, (f i).2]]
def downL (n : Nat) : List (Fin n) := (List.finRange n).reverse
theorem downL_length (n : Nat) : (downL n).length = n := by simp [downL]
theorem downL_get (n m k : Nat) (h : m + 1 + k = n) : (downL n)[k]? = some ⟨m, by omega⟩ := by
 unfold downL
 rw [List.getElem?_reverse (by simp; omega)]
 simp only [List.length_finRange]
 rw [List.getElem?_eq_getElem (by simp; omega)]
 congr 1
 apply Fin.ext
 simp
 omega
theorem take_step {α : Type} {l : List α} {k : Nat} {x : α} (h : l[k]? = some x) : l.take (k + 1) = l.take k ++ [x] := by
 rw [List.take_add_one, h]; rfl
def KeepsBox (n Bs : Nat) (W W' : World) : Prop := Below n W W' /\ W'.cell? ⟨Bs, 0, none⟩ = W.cell? ⟨Bs, 0, none⟩
theorem keepsBox_t {n Bs : Nat} {X Y Z : World} (h : KeepsBox n Bs X Y) (k : KeepsBox n Bs Y Z) : KeepsBox n Bs X Z := ⟨h.1.trans k.1, k.2.trans h.2⟩
theorem keepsBox_b {n Bs : Nat} {w : World} (hn : n <= w.heap.size) (hB : Bs < w.heap.size) (W : World) (l : Nat) (o o' : Obj) (hl : w.heap.size <= l) (h : W.heap[l]? = some o) (h1 : o.isCells = false) (h2 : o.isWalk = false) : KeepsBox n Bs W (W.putObj l o') := by
 refine ⟨belowK_b hn W l o o' hl h h1 h2, ?_⟩
 have hb : Below (Bs + 1) W (W.putObj l o') := belowK_b (w := w) (by omega) W l o o' hl h h1 h2
 exact hb.cell (p := ⟨Bs, 0, none⟩) (by simp)
set_option maxRecDepth 100000 in
set_option maxHeartbeats 2000000 in
theorem backward1_in (F : Fence) (n : Nat) (hF : F.fn 224) (hro : F.round = none) (hn : 1 <= n) (lr Bs c : Nat) (w0 : World) (A : Option Addr) (l : List Knd) (f : Fin l.length -> Value × Value)
 (hl : Sl kndL w0 (.slice A l.length c) l) (hf : 0 < l.length -> ∃ b o, A = some ⟨b, o, none⟩ /\ KndAt w0 b o l f) (J Jx : List (Fin l.length) -> World -> Prop)
 (hY : ∀ pre x W, J pre W -> pre.length < l.length -> YieldAt F (n - 1) Tryz.prog lr (kndEnc l f x) W fun e W' =>
   (e = .returned (.bool true) /\ J (pre ++ [x]) W' /\ KeepsBox w0.heap.size Bs W W') \/ (e = .returned (.bool false) /\ Jx (pre ++ [x]) W'))
 (W : World) (hW : Below w0.heap.size w0 W) (hBs : W.cell? ⟨Bs, 0, none⟩ = some (.slice A l.length c)) (h0 : J [] W) :
 CallsIn F n Tryz.prog 224 #[.func (.yield lr) #[] #[], .pointer (some ⟨Bs, 0, none⟩)] W fun e W' => (∃ v, e = .returned v) /\
  ((∃ ys, ys = downL l.length /\ J ys W') \/ (∃ pre, pre <+: downL l.length /\ Jx pre W')) := by
 obtain ⟨_, _, _, _, hc2⟩ := hl.form
 have hlm : (l.length : Int) <= 9223372036854775807 := by unfold maxLen at hc2; omega
 refine callsIn_of_wp Tryz.func224 rfl hF ?_ hro
 simp only [Tryz.ntmps224, List.size_toArray, List.length_cons, List.length_nil, Nat.reduceAdd, Nat.reduceSub, Array.replicate_succ, Array.replicate_zero, List.push_toArray, List.append_toArray, List.nil_append, List.cons_append]
 gi_wp2
 gi_loopw [3] (fun i wr => ∃ (z : Int) (m k : Nat), i = .int .i64 z /\ m + k = l.length /\ z = (m : Int) - 1 /\ J ((downL l.length).take k) wr /\ Below w0.heap.size w0 wr /\ wr.cell? ⟨Bs, 0, none⟩ = some (.slice A l.length c)) (fun i _ => (intOf i + 1).toNat)
 case atStart => exact ⟨_, l.length, 0, by go_num, by omega, rfl, h0, hW, hBs⟩
 obtain ⟨z, m, k, rfl, hmk, hz, hJs, hnx, hbox⟩ := hrel
 cases m with
 | zero =>
  obtain rfl : k = l.length := by omega
  have hz0 : z < 0 := by omega
  have hz1 : decide (0 <= z) = false := decide_eq_false (by omega)
  clear hz
  gi_wp2
  go_end0
  exact ⟨⟨_, rfl⟩, .inl ⟨_, rfl, by rw [List.take_of_length_le (by simp [downL_length])] at hJs; exact hJs⟩⟩
 | succ m =>
  obtain rfl : z = (m : Int) := by omega
  have hm0 : (0 : Int) <= (m : Int) := by omega
  have hm1 : decide ((0 : Int) <= (m : Int)) = true := decide_eq_true hm0
  have hml : m < l.length := by omega
  have hml' : (m : Int) < (l.length : Int) := by omega
  have hg := downL_get l.length m k (by omega)
  obtain ⟨b, o, rfl, hK⟩ := hf (by omega)
  obtain ⟨c0, c1, c2, _, _, _⟩ := (hK.below hnx).at_ ⟨m, hml⟩
  dsimp only at c0 c1 c2
  obtain ⟨fn, tmps, assign, body, hy, hR⟩ := hY _ ⟨m, hml⟩ wr hJs (by simp [downL_length]; omega)
  simp only [kndEnc] at hy
  generalize (l[m]'hml).name = d0 at c0 hy
  generalize (f ⟨m, hml⟩).1 = d1 at c1 hy
  generalize (f ⟨m, hml⟩).2 = d2 at c2 hy
  have HG := Lib.hid hg
  clear hg hz hK hf hY hW h0
  gi_wp2
  refine hR.mono ?_
  rintro e W3 (⟨rfl, hJ3, hk3⟩ | ⟨rfl, hJx3⟩)
  ·gi_wp2
   go_roundw
   case rel => exact ⟨(m : Int) - 1, m, k + 1, by go_num, by omega, rfl, by rw [take_step HG.out]; exact hJ3, hnx.trans hk3.1, hk3.2.trans hbox⟩
   case measure => simp [intOf]
  gi_wp2
  refine bodyPost_ret (results_none rfl _ _ _) rfl ?_
  exact ⟨⟨_, rfl⟩, .inr ⟨_, by rw [<- take_step HG.out]; exact List.take_prefix _ _, hJx3⟩⟩
set_option maxHeartbeats 1000000 in
theorem backward_in (F : Fence) (n : Nat) (hF : F.fn 189) (hro : F.round = none) (v : Value) (A : Option Addr) (len c : Nat) (hv : v = .slice A len c) (w : World) :
 CallsIn F n Tryz.prog 189 #[v] w fun e w' => e = .returned (.func (.func 224) #[] #[.pointer (some ⟨w.heap.size, 0, none⟩)]) /\ w' = w.alloc (.cells #[v] 58) := by
 subst hv
 refine callsIn_of_wp Tryz.func189 rfl hF ?_ hro
 simp only [Tryz.ntmps189, List.size_toArray, List.length_cons, List.length_nil, Nat.reduceAdd, Nat.reduceSub, Array.replicate_succ, Array.replicate_zero, List.push_toArray, List.append_toArray, List.nil_append, List.cons_append]
 gi_wp2
 go_ret
 exact ⟨rfl, rfl⟩
theorem backward_stops (F : Fence) (n : Nat) (hF : F.fn 224) (hro : F.round = none) (hn : 1 <= n) (Bs c : Nat) (w0 W0 : World) (A : Option Addr) (l : List Knd) (f : Fin l.length -> Value × Value)
 (hl : Sl kndL w0 (.slice A l.length c) l) (hf : 0 < l.length -> ∃ b o, A = some ⟨b, o, none⟩ /\ KndAt w0 b o l f) (hW0 : Below w0.heap.size w0 W0) (hBs : W0.cell? ⟨Bs, 0, none⟩ = some (.slice A l.length c)) :
 SeqStopsK F n Tryz.prog 224 #[.pointer (some ⟨Bs, 0, none⟩)] (kndEnc l f) (KeepsBox w0.heap.size Bs) (fun ys => ys = downL l.length) (fun pre => pre <+: downL l.length) l.length W0 := fun lr J Jx W hW _ _ hY h0 =>
 backward1_in F n hF hro hn lr Bs c w0 A l f hl hf J Jx hY W (hW0.trans (hW.mono hW0.size)) (cell_below hW hBs) h0
end Go.Proofs.YtngbbefpphinjaaGreatDoor
