/- Parts: KinC, KinD, KinE, KinF, KinG. -/
import Derived.Test.YtngbbefpphinjaaGreatDoorMg10
import Derived.Test.YtngbbefpphinjaaGreatDoorMg03
import Derived.Test.YtngbbefpphinjaaGreatDoorMg05
/- Contract: kind.KinOf: who comes of whom. -/
namespace Go.Proofs.YtngbbefpphinjaaGreatDoor
open Go Go.RowKit Go.Shelf
attribute [local go_sem] Oper.semAt_some
def kinFold (l : List Knd) (name : ByteArray) (pre : List (Fin l.length)) : ByteArray -> Bool := pre.foldl (fun S i => kinStep S l[i.1]) (fun s => decide (name = s))
theorem kinFold_snoc (l : List Knd) (name : ByteArray) (pre : List (Fin l.length)) (i : Fin l.length) : kinFold l name (pre ++ [i]) = kinStep (kinFold l name pre) l[i.1] := by simp [kinFold]
theorem kinFold_all (l : List Knd) (name : ByteArray) : kinFold l name (downL l.length) = kinSet l name := by
 unfold kinFold kinSet downL
 rw [List.foldl_reverse]
 have : ∀ (m : List Knd) (g : Fin m.length -> Fin m.length), (List.finRange m.length).map (fun i : Fin m.length => m[i.1]) = m := fun m _ => by
  apply List.ext_getElem
  ·simp
  intro i h1 h2; simp
 have h2 := this l id
 conv => rhs; rw [<- h2]
 rw [List.foldr_map]
theorem cell_grown {w w' : World} {row : Option Nat} (hg : w.grownBy w' row) {b o : Nat} {v : Value} (h : w.cell? ⟨b, o, none⟩ = some v) (hne : some b ≠ row) : w'.cell? ⟨b, o, none⟩ = some v := by
 have hlt := World.block_lt_of_cell? _ _ h
 have := hg.block b hlt hne
 unfold World.cell? at h ⊢
 dsimp only at h ⊢
 rw [this]; exact h
theorem grown_drewN (W : World) (n : Nat) (row : Option Nat) : W.grownBy (W.drewN n) row := ⟨rfl, rfl, rfl, Nat.le_refl _, fun _ _ _ => rfl⟩
theorem wpListIn_append_q {F : Fence} {n0 : Nat} {P : Program} (w : World) {ops : Array Oper} {rest : List Oper} {o : Oper} {a : Act} {Q : Exit -> Act -> World -> Prop} (hgd : o.guard = none) (s x : Operand) (t : TypeId)
 (ho : o.op = .call { callee := .builtin .append, args := #[s, x], argTypes := #[t, t] })
 (B : Nat) (e : TypeId) (i : TypeInfo) (z : Value) (size bytes : Nat) (ht : P.underlying t = some (.slice e)) (hi : P.info? e = some i) (hz : i.zero = some z)
 (hsize : i.size = size) (hby : i.bytes = bytes) (hzs : z.cells.size = size) (hsz : 0 < size)
 (v : Value) (n : Nat) (xs : List Value) (hs : a.eval s = v) (hown : Own w B e size v n xs)
 (A : Option Addr) (m c : Nat) (news : List Value) (hx : a.eval x = .slice A m c) (hl : news.length = m * size) (hA : 0 < m -> ∃ a, A = some a /\ ∀ j u, news[j]? = some u -> w.cell? (a.add j) = some u) (h1 : ∀ u ∈ news, u.oneCell' = true)
 (h63 : n + m <= maxLen) (hbytes : (n + m) * bytes <= 140737488355328) (hbase : B <= w.heap.size)
 (h : ∀ v' w', Own w' B e size v' (n + m) (xs ++ news) -> w.grownBy w' v.ownBlock -> (v'.ownBlock = v.ownBlock \/ v'.ownBlock = some w.heap.size) -> wpListIn F n0 P ops Q rest (a.put o.dst v') w') : wpListIn F n0 P ops Q (o :: rest) a w := by
 refine wpListIn_plain hgd fun K hK' => ?_
 obtain ⟨v', w', hr, h2, h3, h4⟩ := run_append_q (P := P) w B t o.type e i z size bytes ht hi hz hsize hby hzs hsz v n xs hown A m c news hl hA h1 h63 hbytes hbase
 unfold Oper.wpIn
 refine ⟨?_, ?_⟩
 ·simp [Oper.about, ho, resolve, Target.leads, Sem.run_pure]
 rw [Oper.semAt_plain F _ _ (by rw [ho]; intro c hc'; cases hc')]
 simp [execOp, ho, resolve, invoke, builtin, hs, hx, hr, Result.andThen]
 exact hK' _ _ (h v' w' h2 h3 h4)
theorem Own.strs {w : World} {B : Nat} {e : TypeId} {v : Value} {l : List ByteArray} (hl : ∀ x ∈ l, Sm x) (h : Own w B e 1 v l.length (l.map Value.string)) : Sl strL w v l := by
 obtain ⟨A, c, rfl, h1, h2⟩ := h.form
 refine ⟨A, c, rfl, h1, h2, fun i d hi => ?_⟩
 obtain ⟨g, o, c', hv, _, _⟩ := h.addr (len_pos hi)
 injection hv with hA _ hc
 subst hA; subst hc
 refine ⟨g, o, _, rfl, ⟨rfl, hl d (List.mem_of_getElem? hi)⟩, fun j u hj => ?_⟩
 match j, hj with
 | 0, hj =>
  simp at hj
  subst hj
  have := h.cell rfl (j := i) (u := .string d) (by rw [List.getElem?_map, hi]; rfl)
  simpa [strL, flatL] using this
theorem MapS.of_block {w w' : World} {b n : Nat} {S : ByteArray -> Bool} (h : MapS w b n S) (hb : w'.heap[b]? = w.heap[b]?) : MapS w' b n S := by
 obtain ⟨D, ⟨es, clock, h1, h2⟩, h3⟩ := h
 exact ⟨D, ⟨es, clock, hb.trans h1, h2⟩, h3⟩
theorem str_info : (Tryz.prog.info? 9).map (fun i => (i.zero, i.size, i.bytes)) = some (some (.string .empty), 1, 16) := by kernel_rfl
structure KinI (p q : Nat) (sv : Value) (W : World) (N : Nat) (S : ByteArray -> Bool) : Prop where
 c0 : W.cell? ⟨p, 0, none⟩ = some sv
 c1 : W.cell? ⟨q, 0, none⟩ = some (.map (some (p + 1)))
 c2 : W.cell? ⟨q + 1, 0, none⟩ = some sv
 m : MapS W (p + 1) N S
theorem KinI.drewN {p q N : Nat} {sv : Value} {W : World} {S : ByteArray -> Bool} (h : KinI p q sv W N S) (n : Nat) : KinI p q sv (W.drewN n) N S := ⟨h.c0, h.c1, h.c2, h.m⟩
theorem KinI.put {p q N : Nat} {sv : Value} {W : World} {S : ByteArray -> Bool} (h : KinI p q sv W N S) (hq : p + 1 < q) (hN : N < maxLen) {s : ByteArray} (hs : s.size <= maxLen) :
 ∃ W', (Instr.mapUpdate 281 (.map (some (p + 1))) (.string s) (.bool true)).run Tryz.prog W = .ok () W' /\ KinI p q sv W' (N + 1) (fun t => S t || decide (s = t)) /\ W.grownBy W' (some (p + 1)) := by
 obtain ⟨W', hr, hm, hg⟩ := h.m.put hN hs
 exact ⟨W', hr, ⟨cell_grown hg h.c0 (by simp), cell_grown hg h.c1 (by simp; omega), cell_grown hg h.c2 (by simp; omega), hm⟩, hg⟩
theorem KinI.keepsBox {p q N M : Nat} {sv : Value} {W W' : World} {S T : ByteArray -> Bool} (h : KinI p q sv W N S) (k : KinI p q sv W' M T) (hb : Below p W W') : KeepsBox p (q + 1) W W' := ⟨hb, k.c2.trans h.c2.symm⟩
set_option maxRecDepth 100000 in
set_option maxHeartbeats 8000000 in
theorem kinOf_any (l : List Knd) (name : ByteArray) (v : Value) (w : World) (hv : Sl kndL w v l) (hnm : Sm name) (hll : l.length <= 64) (hofs : ∀ k ∈ l, k.ofs.length <= 64) :
 Calls Tryz.prog 134 #[v, .string name] w fun e w' => ∃ u, e = .returned u /\ Sl strL w' u (kinL l name) /\ Below w.heap.size w w' := by
 have hv0 := hv
 obtain ⟨A, c, rfl, hc1, hc2⟩ := hv.form
 obtain ⟨f, hf⟩ : ∃ f : Fin l.length -> Value × Value, 0 < l.length -> ∃ b o, A = some ⟨b, o, none⟩ /\ KndAt w b o l f := by
  by_cases h0 : 0 < l.length
  ·obtain ⟨b, o, f, h1, h2⟩ := kndAt_of hv h0
   exact ⟨f, fun _ => ⟨b, o, h1, h2⟩⟩
  exact ⟨fun i => absurd i.2 (by omega), fun h => absurd h h0⟩
 obtain ⟨w1, hput, hM1, hg1⟩ := (MapS.made (w.alloc (.cells #[.slice A l.length c] 58))).put (by unfold maxLen; omega) (s := name) (by unfold Sm at hnm; unfold maxLen; omega)
 simp only [World.size_alloc] at hput hM1 hg1
 have hM : MapS w1 (w.heap.size + 1) 1 (fun s => decide (name = s)) := by simpa using hM1
 have hB1 : Below w.heap.size w w1 := (((Below.refl _ _).alloc (Nat.le_refl _) _).alloc (by simp) _).grown hg1 (by simp; omega) (fun k e => by cases e; omega)
 have hs1 : w.heap.size + 1 < w1.heap.size := hM.lt
 have hs0 : w.heap.size < w1.heap.size := by omega
 have hc0 : w1.cell? ⟨w.heap.size, 0, none⟩ = some (.slice A l.length c) := by
  have h0 : ((w.alloc (.cells #[.slice A l.length c] 58)).alloc (.map #[] 0)).cell? ⟨w.heap.size, 0, none⟩ = some (.slice A l.length c) := by
   rw [((Below.refl (w.heap.size + 1) (w.alloc (.cells #[.slice A l.length c] 58))).alloc (by simp) (.map #[] 0)).cell (by simp), World.cell?_alloc_at _ _ _ _ rfl]
   rfl
  exact cell_grown hg1 h0 (by simp)
 have hmm := @run_makeMap Tryz.prog
 clear hM1 hg1
 refine (callsIn_wide (n := 5)).1 ?_
 refine callsIn_of_wp_marks Tryz.func134 rfl trivial ?_ rfl
 simp only [Tryz.ntmps134, List.size_toArray, List.length_cons, List.length_nil, Nat.reduceAdd, Nat.reduceSub, Array.replicate_succ, Array.replicate_zero, List.push_toArray, List.append_toArray, List.nil_append, List.cons_append]
 gi_wp2_with (refine ⟨trivial, ?_⟩; gi_at_call 189; refine (backward_in _ _ trivial rfl _ _ _ _ rfl _).mono ?_; rintro e w' ⟨rfl, rfl⟩)
 have hB2 : Below w.heap.size w ((w1.alloc (.cells #[.map (some (w.heap.size + 1))] 281)).alloc (.cells #[.slice A l.length c] 58)) := (hB1.alloc hB1.size _).alloc (by have := hB1.size; simp; omega) _
 have d0 : ((w1.alloc (.cells #[.map (some (w.heap.size + 1))] 281)).alloc (.cells #[.slice A l.length c] 58)).cell? ⟨w1.heap.size + 1, 0, none⟩ = some (.slice A l.length c) := by
  rw [World.cell?_alloc_at _ _ _ _ (by simp)]; rfl
 have d1 : ((w1.alloc (.cells #[.map (some (w.heap.size + 1))] 281)).alloc (.cells #[.slice A l.length c] 58)).cell? ⟨w1.heap.size, 0, none⟩ = some (.map (some (w.heap.size + 1))) := by
  rw [((Below.refl (w1.heap.size + 1) (w1.alloc (.cells #[.map (some (w.heap.size + 1))] 281))).alloc (by simp) _).cell (by simp), World.cell?_alloc_at _ _ _ _ rfl]; rfl
 have d2 : ((w1.alloc (.cells #[.map (some (w.heap.size + 1))] 281)).alloc (.cells #[.slice A l.length c] 58)).cell? ⟨w.heap.size, 0, none⟩ = some (.slice A l.length c) :=
  cell_below ((Below.refl _ _).alloc (by simp) _) (cell_below ((Below.refl _ _).alloc (by simp) _) hc0)
 have hM2 : MapS ((w1.alloc (.cells #[.map (some (w.heap.size + 1))] 281)).alloc (.cells #[.slice A l.length c] 58)) (w.heap.size + 1) (1 + 64 * 0) (fun s => decide (name = s)) := (hM.alloc _).alloc _
 clear hput hM hc0 hB1
 refine wpIn_rangeFunc_ownG rfl (by decide) (gf := 224) (lb := #[.pointer (some ⟨w1.heap.size + 1, 0, none⟩)]) rfl trivial (enters_of Tryz.func224 (by kernel_rfl) rfl)
  (backward_stops Fence.wide 4 trivial rfl (by omega) (w1.heap.size + 1) c w _ A l f hv0 hf hB2 d0) keepsBox_t (keepsBox_b (by simp; omega) (by simp)) (Below.refl _ _) (fun _ => rfl)
  (fun pre W => KinI w.heap.size w1.heap.size (.slice A l.length c) W (1 + 64 * pre.length) (kinFold l name pre) /\ Below w.heap.size w W)
  (fun _ _ _ => False)
  (OwnFrom.and (fun s X Y row hs hg hr => ⟨cell_kept hs.c0 hg (fun r e => (hr r e).2), cell_kept hs.c1 hg (fun r e => (hr r e).2), cell_kept hs.c2 hg (fun r e => (hr r e).2), hs.m.kept hg (fun e => by have := (hr _ e.symm).1; simp at this; omega)⟩) (ownFrom_below (Nat.le_refl _) (by simp; omega)))
  (fun _ _ _ _ _ hs _ _ => hs)
  ⟨⟨d2, d1, d0, hM2⟩, hB2⟩
  ?a1 ?assign ?body ?done ?stop
 case assign =>
  intro lr x W K hK
  simp only [kndEnc]
  gi_wp2
  exact hK
 case body =>
  rintro lr pre x W ⟨hI, hB⟩ hlt
  clear hB2 d0 d1 d2 hM2
  obtain ⟨m, hm⟩ := x
  obtain ⟨b, o, rfl, hK⟩ := hf (by omega)
  obtain ⟨c0, c1, c2, hsm, _, _⟩ := (hK.below hB).at_ ⟨m, hm⟩
  obtain ⟨_, _, _, _, hso, _⟩ := hK.at_ ⟨m, hm⟩
  dsimp only at c0 c1 c2 hsm hso
  have HO : Hid ((l[m]'hm).ofs.length <= 64) := hofs _ (List.getElem_mem hm)
  have HF : Hid (kinFold l name (pre ++ [⟨m, hm⟩]) = kinStep (kinFold l name pre) (l[m]'hm)) := kinFold_snoc l name pre ⟨m, hm⟩
  have hlp : (pre ++ [(⟨m, hm⟩ : Fin l.length)]).length = pre.length + 1 := by simp
  generalize (f ⟨m, hm⟩).1 = u1 at c1 hso
  generalize (f ⟨m, hm⟩).2 = u2 at c2
  generalize l[m]'hm = d at *
  generalize hS0 : kinFold l name pre = S0 at *
  clear hS0 hK hf hv hv0
  have hlook : ∀ n, (Instr.lookup 281 (.map (some (w.heap.size + 1))) (.string d.name) false).run Tryz.prog (W.drewN n) = .ok (.bool (S0 d.name)) (W.drewN n) := fun n => (hI.drewN n).m.look (by unfold Sm at hsm; unfold maxLen; omega)
  have k0 := hI.c0
  have k1 := hI.c1
  have hml' : (m : Int) < (l.length : Int) := by omega
  have hb3 := hB.size
  cases hS : S0 d.name with
  | false =>
   rw [hS] at hlook
   have HF2 : Hid (kinFold l name (pre ++ [⟨m, hm⟩]) = S0) := by unfold Hid; rw [HF.out]; unfold kinStep; rw [hS]; simp
   clear HF hS
   gi_wp2
   refine wpIn_quiet_round (by kernel_rfl) (by kernel_rfl) (by kernel_rfl) ?_
   repeat (gi_big_quiet_step (fail))
   refine wpQuietIn_nil ?_
   intro _ hw'
   obtain ⟨nq, hw''⟩ := hw'
   subst hw''
   clear hlook
   gi_wp2
   refine ⟨KeepsFrom.of_grownBy (grown_drewN W nq none) (fun j e => by cases e), (hI.keepsBox (hI.drewN nq) (below_drewN (Below.refl _ _) nq)), ?_⟩
   dsimp only
   rw [HF2.out, hlp]
   exact ⟨⟨k0, k1, hI.c2, hI.m.mono (by omega)⟩, below_drewN hB nq⟩
  | true =>
   rw [hS] at hlook
   have HF2 : Hid (kinFold l name (pre ++ [⟨m, hm⟩]) = fun s => S0 s || d.ofs.any (fun o => decide (o = s))) := by unfold Hid; rw [HF.out]; unfold kinStep; rw [hS]; simp
   clear HF hS
   obtain ⟨Ao, co, rfl, ho1, ho2⟩ := hso.form
   gi_wp2
   refine wpIn_quiet_round (by kernel_rfl) (by kernel_rfl) (by kernel_rfl) ?_
   repeat (gi_big_quiet_step (fail))
   refine wpQuietIn_nil ?_
   intro _ hw'
   obtain ⟨nq, hw''⟩ := hw'
   subst hw''
   clear hlook
   gi_wp2
   gi_loopw [32] (fun i wr => ∃ j : Nat, j <= d.ofs.length /\ i = .int .i64 j /\ KeepsFrom (w1.heap.size + 1 + 1) W wr /\ Below w.heap.size W wr /\
    KinI w.heap.size w1.heap.size (.slice (some ⟨b, o, none⟩) l.length c) wr (1 + 64 * pre.length + j) (fun s => S0 s || (d.ofs.take j).any (fun o => decide (o = s)))) (fun i _ => d.ofs.length - (intOf i).toNat)
   case atStart => exact ⟨0, Nat.zero_le _, rfl, KeepsFrom.of_grownBy (grown_drewN W nq none) (fun j e => by cases e), below_drewN (Below.refl _ _) nq, by simpa using hI.drewN nq⟩
   obtain ⟨j, hj, rfl, hkf, hbj, hIj⟩ := hrel
   have hBj := hB.trans (hbj.mono (Nat.le_refl _))
   have n1 := hIj.c1
   by_cases hj2 : j < d.ofs.length
   ·obtain ⟨s, hs⟩ : ∃ s, d.ofs[j]? = some s := ⟨_, List.getElem?_eq_getElem hj2⟩
    obtain ⟨bo, oo, rfl, hss, x0⟩ := str_at (hso.below hBj) hs
    obtain ⟨W', hrun, hI', hg'⟩ := hIj.put hs1 (by have := HO.out; unfold maxLen; omega) (s := s) (by unfold Sm at hss; unfold maxLen; omega)
    have hj2' : (j : Int) < (d.ofs.length : Int) := by omega
    have hj3 : (j : Int) <= 64 := by have := HO.out; omega
    have HT : Hid ((fun t => (S0 t || (d.ofs.take j).any (fun o => decide (o = t))) || decide (s = t)) = fun t => S0 t || (d.ofs.take (j + 1)).any (fun o => decide (o = t))) := by
     unfold Hid; funext t; rw [take_step hs, List.any_append, Bool.or_assoc]; simp
    clear hs
    gi_wp2
    go_roundw
    case rel => exact ⟨j + 1, by omega, by go_num, hkf.trans (KeepsFrom.of_grownBy hg' (fun k e => by injection e with e; omega)), hbj.grown hg' hBj.size (fun k e => by injection e with e; omega), by have := hI'; rw [HT.out] at this; exact this⟩
    case measure => simp [intOf]; omega
   obtain rfl : j = d.ofs.length := by omega
   gi_wp2
   refine ⟨by simpa using hkf, hI.keepsBox hIj hbj, ?_⟩
   dsimp only
   rw [HF2.out, hlp]
   have HO' := HO.out
   rw [List.take_length] at hIj
   exact ⟨⟨hIj.c0, hIj.c1, hIj.c2, hIj.m.mono (by omega)⟩, hBj⟩
 case done =>
  rintro D ys W hD rfl ⟨hI, hB⟩ hK
  clear hB2 d0 d1 d2 hM2
  have HL : Hid (kinFold l name (downL l.length) = kinSet l name) := kinFold_all l name
  rw [HL.out] at hI
  have hDl : D < W.heap.size := (geB hK)
  have k0 := hI.c0
  have k1 := hI.c1
  have hlc : (l.length : Int) <= 64 := by omega
  simp only [World.size_alloc] at hD
  obtain ⟨i0, hi, hz, hz1, hz2⟩ := info_parts str_info
  gi_wp2
  gi_loopw [9, 41] (fun ov i wr => ∃ (k : Nat) (r : List ByteArray), k <= l.length /\ i = .int .i64 k /\ r.length <= k /\ Below W.heap.size W wr /\ Own wr W.heap.size 9 1 ov r.length (r.map Value.string) /\
   Hid (∀ x ∈ r, Sm x) /\ Hid (kinL l name = r ++ ((l.drop k).filter fun k => kinSet l name k.name).map (·.name))) (fun _ i _ => l.length - (intOf i).toNat)
  case atStart => exact ⟨0, [], Nat.zero_le _, rfl, Nat.le_refl _, Below.refl _ _, Own.nil _ _ _ _, (by intro x hx; simp at hx), rfl⟩
  obtain ⟨k, r, hk, rfl, hrk, hbr, hor, HR, HE⟩ := hrel
  have hBr := hB.trans (hbr.mono hB.size)
  by_cases hk2 : k < l.length
  ·obtain ⟨b, o, rfl, hK2⟩ := hf (by omega)
   obtain ⟨c0, c1, c2, hsm, _, _⟩ := (hK2.below hBr).at_ ⟨k, hk2⟩
   obtain ⟨_, _, _, _, hso, hsf⟩ := hK2.at_ ⟨k, hk2⟩
   dsimp only at c0 c1 c2 hsm hso hsf
   have HE2 : Hid (kinL l name = r ++ (if kinSet l name (l[k]'hk2).name then [(l[k]'hk2).name] else []) ++ ((l.drop (k + 1)).filter fun k => kinSet l name k.name).map (·.name)) := by
    unfold Hid
    rw [HE.out, List.drop_eq_getElem_cons hk2, List.filter_cons]
    cases kinSet l name (l[k]'hk2).name <;> simp
   generalize (f ⟨k, hk2⟩).1 = u1 at c1 hso
   generalize (f ⟨k, hk2⟩).2 = u2 at c2 hsf
   generalize l[k]'hk2 = d at *
   obtain ⟨A1, q1, rfl, _, _⟩ := hso.form
   obtain ⟨A2, q2, rfl, _, _⟩ := hsf.form
   have hMr : MapS wr (w.heap.size + 1) (1 + 64 * (downL l.length).length) (kinSet l name) := hI.m.of_block (hbr.block _ hI.m.lt)
   have hlook := (hMr.alloc (.cells #[.string d.name, .slice A1 d.ofs.length q1, .slice A2 d.fields.length q2] 80)).look (s := d.name) (by unfold Sm at hsm; unfold maxLen; omega)
   have m1 := cell_below hbr k1
   have hk2' : (k : Int) < (l.length : Int) := by omega
   have hwr := hbr.size
   have hwr2 : w1.heap.size < wr.heap.size := by have := World.block_lt_of_cell? _ _ m1; simpa using this
   clear hK2 hso hsf hf hv hv0 hMr HE
   cases hS : kinSet l name d.name with
   | true =>
    rw [hS] at hlook
    have HE3 : Hid (kinL l name = (r ++ [d.name]) ++ ((l.drop (k + 1)).filter fun k => kinSet l name k.name).map (·.name)) := by unfold Hid; rw [HE2.out, hS]; simp
    have HR2 : Hid (∀ x ∈ r ++ [d.name], Sm x) := by
     intro x hx
     rcases List.mem_append.1 hx with h | h
     ·exact HR.out x h
     simp at h; subst h; exact hsm
    obtain ⟨Ar, cr, rfl, hrc, hrm⟩ := hor.form
    have hor2 := (hor.alloc (.cells #[.string d.name, .slice A1 d.ofs.length q1, .slice A2 d.fields.length q2] 80)).alloc (.cells #[.string d.name] 9)
    clear hS HE2
    gi_wp2_with (first
     | (gi_at_builtin; refine wpListIn_append_q _ rfl (.tmp 49) (.tmp 52) _ rfl W.heap.size 9 i0 (.string .empty) 1 16 Tryz.underlying77 hi hz hz1 hz2 rfl (by decide) (.slice Ar r.length cr) r.length (r.map Value.string) rfl hor2 (some ⟨wr.heap.size + 1, 0, none⟩) 1 1 [.string d.name] rfl rfl (fun _ => ⟨_, rfl, by simpa using cell_one_new (wr.alloc (.cells #[.string d.name, .slice A1 d.ofs.length q1, .slice A2 d.fields.length q2] 80)) (.string d.name) 9⟩) (by simp [Value.oneCell']) (by unfold maxLen; omega) (by omega) (by simp; omega) ?_; intro v7 w7 hown7 hg7 hat7))
    have hb7 : Below W.heap.size W w7 := ((hbr.alloc hbr.size _).alloc (by simp; omega) _).grown hg7 (by simp; omega) (fun kk hkk => (hor.lt kk hkk).1)
    have ho7 : Own w7 W.heap.size 9 1 v7 (r ++ [d.name]).length ((r ++ [d.name]).map Value.string) := by simpa using hown7
    have hl7 : (r ++ [d.name]).length <= k + 1 := by simp; omega
    clear hg7 hat7 hown7
    go_roundw
    case rel => exact ⟨k + 1, r ++ [d.name], by omega, by go_num, hl7, hb7, ho7, HR2, HE3⟩
    case measure => simp [intOf]; omega
   | false =>
    rw [hS] at hlook
    have HE3 : Hid (kinL l name = r ++ ((l.drop (k + 1)).filter fun k => kinSet l name k.name).map (·.name)) := by unfold Hid; rw [HE2.out, hS]; simp
    clear hS HE2
    gi_wp2
    go_roundw
    case rel => exact ⟨k + 1, r, by omega, by go_num, by omega, hbr.alloc hbr.size _, hor.alloc _, HR, HE3⟩
    case measure => simp [intOf]; omega
  obtain rfl : k = l.length := by omega
  have HQ : Hid (kinL l name = r) := by unfold Hid; rw [HE.out, List.drop_length]; simp
  have hK2 : wr.heap[D]? = some (.deferred (some [])) := (hbr.block D hDl).trans hK
  obtain ⟨Ar, cr, rfl, hrc, hrm⟩ := hor.form
  gi_wp2
  refine ⟨by simp, .inl ⟨_, _, rfl, run_takeDeferred hK2, ?_⟩⟩
  have hBp : Below w.heap.size wr (wr.putObj D (.deferred none)) := (Below.refl _ _).grown (grownBy_putObj' wr D _) hBr.size (fun k e => by injection e with e; omega)
  refine ⟨_, results_tmp rfl _ _ _, _, rfl, ?_, hBr.trans hBp⟩
  rw [HQ.out]
  refine (hor.grown (grownBy_putObj' wr D _) (.inr fun e => ?_)).strs HR.out
  have := (hor.lt D e).1
  omega
 case stop =>
  rintro D c pre W _ _ h _
  exact h.elim
open Go.RowKit
theorem bytes_beq (a b : ByteArray) : (a.toList == b.toList) = decide (a = b) := by
 rw [Bool.eq_iff_iff, beq_iff_eq, decide_eq_true_eq]
 constructor
 ·intro h
  rw [ByteArray.toList_eq, ByteArray.toList_eq] at h
  have := Array.toList_inj.1 h
  cases a; cases b; simp at this; rw [this]
 intro h; rw [h]
set_option maxHeartbeats 400000 in
theorem indexStr_any (l : List ByteArray) (x : ByteArray) (v : Value) (w : World) (hv : Sl strL w v l) :
 Calls Tryz.prog 221 #[v, .string x] w fun e w' => e = .returned (.int .i64 (idxI (fun y => decide (x = y)) l)) /\ w = w' := by
 obtain ⟨A, c, rfl, hlc, hcm⟩ := hv.form
 unfold maxLen at hcm
 go_enter Tryz.func221, Tryz.ntmps221
 go_wp2_with fail
 go_loop [8] (fun i => ∃ k : Nat, k <= l.length /\ i = .int .i64 k /\ Hid (∀ j y, j < k -> l[j]? = some y -> decide (x = y) = false)) (fun i => l.length - (intOf i).toNat)
 case atStart => exact ⟨0, Nat.zero_le _, rfl, fun j x hj => absurd hj (Nat.not_lt_zero _)⟩
 obtain ⟨k, hk, rfl, HA⟩ := hrel
 by_cases hlt : k < l.length
 ·obtain ⟨d, hd⟩ : ∃ d, l[k]? = some d := ⟨_, List.getElem?_eq_getElem hlt⟩
  obtain ⟨b, o, rfl, _, hcell⟩ := str_at hv hd
  have HD : Hid (l[k]? = some d) := hd
  clear hd hv
  by_cases hq0 : x = d
  ·have hq : decide (x = d) = true := decide_eq_true hq0
   have HE : Hid (idxI (fun y => decide (x = y)) l = k) := idxI_hit HA.out HD.out hq
   clear hq
   subst hq0
   go_wp2_with fail
   go_ret
   exact ⟨by rw [HE.out]; rfl, rfl⟩
  have hq : decide (x = d) = false := decide_eq_false hq0
  have hqb : (x.toList == d.toList) = false := by rw [bytes_beq]; exact hq
  have HS : Hid (∀ j y, j < k + 1 -> l[j]? = some y -> decide (x = y) = false) := miss_step HA.out HD.out hq
  go_wp2_with fail
  go_round
  case rel => exact ⟨k + 1, by omega, by go_num, HS⟩
  case measure => simp [intOf]; omega
 have hkl : k = l.length := by omega
 subst hkl
 have HE : Hid (idxI (fun y => decide (x = y)) l = -1) := idxI_miss HA.out
 clear hv
 go_wp2_with fail
 go_ret
 exact ⟨by rw [HE.out]; rfl, rfl⟩
theorem containsStr_any (l : List ByteArray) (x : ByteArray) (v : Value) (w : World) (hv : Sl strL w v l) :
 Calls Tryz.prog 178 #[v, .string x] w fun e w' => e = .returned (.bool (l.any fun y => decide (x = y))) /\ w = w' := by
 have h1 := indexStr_any l x v w hv
 have h2 := idxI_any (fun y => decide (x = y)) l
 have H2 := Lib.hid h2
 clear h2 hv
 go_enter Tryz.func178, Tryz.ntmps178
 go_wp2_with (go_at_call 221; refine h1.mono ?_; rintro e w' ⟨rfl, rfl⟩)
 go_ret
 exact ⟨ret_bool H2.out, rfl⟩
/-! ### kind.Find -/
def kndV (_ : World) (d : Knd) (u : Value) : Prop := ∃ a b n c m e, u = .agg #[.string d.name, .slice a n c, .slice b m e]
set_option maxHeartbeats 400000 in
theorem idx_knds (g : Nat) (caps : Array Value) (eg : ∀ args w, (callFunc g args).run Tryz.prog w = .ok (.enter g args) w) (p : Knd -> Bool) (l : List (Knd)) (v : Value) (w : World) (hv : Sl kndL w v l)
 (hp : PredB Tryz.prog g caps kndV p w) :
 Calls Tryz.prog 135 #[v, .func (.func g) #[] caps] w fun e w' => e = .returned (.int .i64 (idxI p l)) /\ Below w.heap.size w w' := by
 obtain ⟨A, c, rfl, hlc, hcm⟩ := hv.form
 unfold maxLen at hcm
 go_enter Tryz.func135, Tryz.ntmps135
 go_wp2_with fail
 go_loopw [8] (fun i wr => ∃ k : Nat, k <= l.length /\ i = .int .i64 k /\ Below w.heap.size w wr /\ Hid (∀ j x, j < k -> l[j]? = some x -> p x = false)) (fun i _ => l.length - (intOf i).toNat)
 case atStart => exact ⟨0, Nat.zero_le _, rfl, Below.refl _ _, fun j x hj => absurd hj (Nat.not_lt_zero _)⟩
 obtain ⟨k, hk, rfl, hb, HA⟩ := hrel
 by_cases hlt : k < l.length
 ·obtain ⟨d, hd⟩ : ∃ d, l[k]? = some d := ⟨_, List.getElem?_eq_getElem hlt⟩
  obtain ⟨b, o, rfl, u, x, h1, h2, h3, c0, c1, c2⟩ := knd_at (hv.below hb) hd
  obtain ⟨A1, q1, rfl, _, _⟩ := h2.form
  obtain ⟨A2, q2, rfl, _, _⟩ := h3.form
  have hcall := hp d (.agg #[.string d.name, .slice A1 d.ofs.length q1, .slice A2 d.fields.length q2]) wr hb ⟨A1, A2, _, q1, _, q2, rfl⟩
  clear h2 h3
  have HD : Hid (l[k]? = some d) := hd
  clear hd hp hv
  cases hq : p d with
  | true =>
   rw [hq] at hcall
   have HQ : Hid (p d = true) := hq
   clear hq
   go_wp2_with (go_at_fn g; refine hcall.mono ?_; rintro e w' ⟨rfl, hb2⟩)
   go_ret
   exact ⟨ret_int (idxI_hit HA.out HD.out HQ.out).symm, hb.trans (hb2.mono hb.size)⟩
  | false =>
   rw [hq] at hcall
   have HQ : Hid (p d = false) := hq
   clear hq
   go_wp2_with (go_at_fn g; refine hcall.mono ?_; rintro e w' ⟨rfl, hb2⟩)
   go_roundw
   case rel => exact ⟨k + 1, by omega, by go_num, hb.trans (hb2.mono hb.size), miss_step HA.out HD.out HQ.out⟩
   case measure => simp [intOf]; omega
 have hkl : k = l.length := by omega
 subst hkl
 clear hp hv
 go_wp2_with fail
 go_ret
 exact ⟨ret_int (idxI_miss HA.out).symm, hb⟩
theorem kFind1_any (d : Knd) (name : ByteArray) (u : Value) (bk : Nat) (w : World) (hu : kndV w d u) (hc : w.cell? ⟨bk, 0, none⟩ = some (.string name)) :
 Calls Tryz.prog 136 #[u, .pointer (some ⟨bk, 0, none⟩)] w fun e w' => e = .returned (.bool (decide (d.name = name))) /\ Below w.heap.size w w' := by
 obtain ⟨a, b, n, c, m, e, rfl⟩ := hu
 have hlt := World.block_lt_of_cell? _ _ hc
 by_cases hq : d.name = name
 ·have hd : decide (d.name = name) = true := decide_eq_true hq
  rw [hd]
  have hqb : (d.name.toList == name.toList) = true := by rw [bytes_beq]; exact hd
  clear hq hd
  go_enter Tryz.func136, Tryz.ntmps136
  go_wp2_with fail
  go_ret
  exact ⟨rfl, (Below.refl _ _).alloc (Nat.le_refl _) _⟩
 have hd : decide (d.name = name) = false := decide_eq_false hq
 rw [hd]
 have hqb : (d.name.toList == name.toList) = false := by rw [bytes_beq]; exact hd
 clear hq hd
 go_enter Tryz.func136, Tryz.ntmps136
 go_wp2_with fail
 go_ret
 exact ⟨rfl, (Below.refl _ _).alloc (Nat.le_refl _) _⟩
def kFind (l : List Knd) (name : ByteArray) : Int := idxI (fun k => decide (k.name = name)) l
theorem kFind_any (l : List Knd) (name : ByteArray) (v : Value) (w : World) (hv : Sl kndL w v l) :
 Calls Tryz.prog 85 #[v, .string name] w fun e w' => e = .returned (.int .i64 (kFind l name)) /\ Below w.heap.size w w' := by
 have hb0 : Below w.heap.size w (w.alloc (.cells #[.string name] 9)) := (Below.refl _ _).alloc (Nat.le_refl _) _
 have h1 := idx_knds 136 #[.pointer (some ⟨w.heap.size, 0, none⟩)] (by intro args w; kernel_rfl) (fun k => decide (k.name = name)) l v _ (hv.below hb0)
  (fun d u wx hx hu => kFind1_any d name u w.heap.size wx hu (cell_below hx (by rw [World.cell?_alloc_at _ _ _ _ rfl]; rfl)))
 obtain ⟨A, c, rfl, _, _⟩ := hv.form
 clear hv
 go_enter Tryz.func85, Tryz.ntmps85
 go_wp2_with fail
 refine h1.mono ?_
 rintro e w2 ⟨rfl, hb2⟩
 go_wp2_with fail
 go_ret
 exact ⟨rfl, hb0.trans (hb2.mono (by simp))⟩
theorem fieldsOf1_any (d : Fld) (name : ByteArray) (w : World) :
 Calls Tryz.prog 138 #[.agg #[.string d.name, .int .i64 d.ty, .bool d.must, .bool d.key], .string name] w fun e w' => e = .returned (.int .i64 (cmpS d.name name)) /\ Below w.heap.size w w' := by
 go_enter Tryz.func138, Tryz.ntmps138
 go_wp2_with (go_at_call 139; refine (scmp_any _ _ _).mono ?_; rintro e w' ⟨rfl, rfl⟩)
 go_ret
 exact ⟨rfl, (Below.refl _ _).alloc (Nat.le_refl _) _⟩
def fldV (_ : World) (d : Fld) (u : Value) : Prop := u = .agg #[.string d.name, .int .i64 d.ty, .bool d.must, .bool d.key] /\ d.ok
set_option maxHeartbeats 2000000 in
theorem bs_fld (g : Nat) (caps : Array Value) (eg : ∀ args w, (callFunc g args).run Tryz.prog w = .ok (.enter g args) w) (tv : Value) (c : Fld -> Int) (l : List Fld) (v : Value) (w : World) (hv : Sl fldL w v l)
 (hp : CmpB Tryz.prog g caps fldV tv c w) (pos : Nat) (hlen : l.length <= 1000) (hpos : pos <= l.length) (h1 : ∀ i d, i < pos -> l[i]? = some d -> c d < 0) (h2 : ∀ i d, pos <= i -> l[i]? = some d -> 0 <= c d) :
 Calls Tryz.prog 137 #[v, tv, .func (.func g) #[] caps] w fun e w' => e = .returned (.tuple #[.int .i64 pos, .bool (eqAt c l pos)]) /\ Below w.heap.size w w' := by
 obtain ⟨A, cp, rfl, hlc, hcm⟩ := hv.form
 have hcm' : l.length <= 9223372036854775807 := by unfold maxLen at hcm; omega
 clear hcm hlc hcm'
 have P1 := Lib.hid h1
 have P2 := Lib.hid h2
 clear h1 h2
 go_enter Tryz.func137, Tryz.ntmps137
 go_wp2_with fail
 go_loopw [9, 10] (fun i j wr => ∃ lo hi : Nat, lo <= pos /\ pos <= hi /\ hi <= l.length /\ i = .int .i64 lo /\ j = .int .i64 hi /\ Below w.heap.size w wr) (fun i j _ => (intOf j).toNat - (intOf i).toNat)
 case atStart => exact ⟨0, l.length, Nat.zero_le _, hpos, Nat.le_refl _, rfl, rfl, Below.refl _ _⟩
 obtain ⟨lo, hi, hlo, hhi, hhl, rfl, rfl, hb⟩ := hrel
 by_cases hlt : lo < hi
 ·obtain ⟨d, hd⟩ : ∃ d, l[(lo + hi) / 2]? = some d := ⟨_, List.getElem?_eq_getElem (by omega)⟩
  have HD : Hid (l[(lo + hi) / 2]? = some d) := hd
  obtain ⟨b, o, rfl, hok, x0, x1, x2, x3⟩ := fld_at (hv.below hb) hd
  have hcall := hp d _ wr hb ⟨rfl, hok⟩
  clear hd hp hv
  have hm1 : (lo + hi) / 2 < hi := by omega
  have hm2 : lo <= (lo + hi) / 2 := by omega
  by_cases hc : c d < 0
  ·have hmp : (lo + hi) / 2 < pos := by
    rcases Nat.lt_or_ge ((lo + hi) / 2) pos with h | h
    ·exact h
    have := P2.out _ _ h HD.out; omega
   go_wp2_with (go_at_fn g; refine hcall.mono ?_; rintro e w' ⟨rfl, hb2⟩)
   go_roundw
   case rel => exact ⟨(lo + hi) / 2 + 1, hi, by omega, hhi, hhl, by go_num, rfl, hb.trans (hb2.mono hb.size)⟩
   case measure => simp [intOf]; omega
  have hmp : pos <= (lo + hi) / 2 := by
   rcases Nat.lt_or_ge ((lo + hi) / 2) pos with h | h
   ·have := P1.out _ _ h HD.out; omega
   exact h
  have hc' : 0 <= c d := by omega
  go_wp2_with (go_at_fn g; refine hcall.mono ?_; rintro e w' ⟨rfl, hb2⟩)
  go_roundw
  case rel => exact ⟨lo, (lo + hi) / 2, hlo, by omega, by omega, rfl, by go_num, hb.trans (hb2.mono hb.size)⟩
  case measure => simp [intOf]; omega
 obtain rfl : lo = hi := by omega
 obtain rfl : lo = pos := by omega
 by_cases hl : lo < l.length
 ·obtain ⟨d, hd⟩ : ∃ d, l[lo]? = some d := ⟨_, List.getElem?_eq_getElem hl⟩
  have HE : Hid (eqAt c l lo = (c d == 0)) := by unfold eqAt; rw [hd]; rfl
  have hl' : (lo : Int) < (l.length : Int) := by omega
  have hl2 : decide ((lo : Int) < (l.length : Int)) = true := by simpa using hl
  obtain ⟨b, o, rfl, hok, x0, x1, x2, x3⟩ := fld_at (hv.below hb) hd
  have hcall := hp d _ wr hb ⟨rfl, hok⟩
  clear hd hp hv
  go_wp2_with (go_at_fn g; refine hcall.mono ?_; rintro e w' ⟨rfl, hb2⟩)
  go_ret2
  exact ⟨by rw [HE.out]; rfl, hb.trans (hb2.mono hb.size)⟩
 have HE : Hid (eqAt c l lo = false) := by unfold eqAt; rw [List.getElem?_eq_none (by omega)]; rfl
 have hl2 : decide ((lo : Int) < (l.length : Int)) = false := by simp; omega
 have hl3 : (l.length : Int) <= (lo : Int) := by omega
 clear hp hv
 go_wp2_with fail
 go_ret2
 exact ⟨by rw [HE.out]; rfl, hb⟩
def fldC (name : ByteArray) (f : Fld) : Int := cmpS f.name name
def fldLt (a b : Fld) : Bool := decide (cmpS a.name b.name < 0)
def putF (l : List Fld) (f : Fld) : Option (List Fld) :=
 if eqAt (fldC f.name) l (lowI (fldC f.name) l) then (if l[lowI (fldC f.name) l]? = some f then some l else none)
 else some (l.take (lowI (fldC f.name) l) ++ f :: l.drop (lowI (fldC f.name) l))
theorem fldC_mono (name : ByteArray) : ∀ a b, fldLt a b = true -> 0 <= fldC name a -> 0 <= fldC name b := by
 intro a b h h1
 unfold fldLt at h
 unfold fldC at h1 ⊢
 simp at h
 by_cases hb : cmpS b.name name < 0
 ·have := cmpS_trans h hb
  omega
 omega
def Rise (l : List Fld) : Prop := l.Pairwise fun a b => cmpS a.name b.name < 0
theorem rise_chain {l : List Fld} (h : Rise l) : chain fldLt l = true := by
 rw [chain_iff]
 intro i a b ha hb
 obtain ⟨h1, rfl⟩ := List.getElem?_eq_some_iff.1 ha
 obtain ⟨h2, rfl⟩ := List.getElem?_eq_some_iff.1 hb
 have := List.pairwise_iff_getElem.1 h i (i + 1) h1 h2 (by omega)
 unfold fldLt; simpa using this
theorem putF_rise {l l' : List Fld} {f : Fld} (h : Rise l) (hp : putF l f = some l') : Rise l' := by
 unfold putF at hp
 have hc := rise_chain h
 generalize hk : lowI (fldC f.name) l = k at hp
 have h1 : ∀ i d, i < k -> l[i]? = some d -> cmpS d.name f.name < 0 := fun i d hi hd => low_lt (c := fldC f.name) (by rw [hk]; exact hi) hd
 have h2 : ∀ i d, k <= i -> l[i]? = some d -> 0 <= cmpS d.name f.name := fun i d hi hd => low_ge (c := fldC f.name) hc (fldC_mono f.name) (by rw [hk]; exact hi) hd
 split at hp
 ·split at hp
  ·injection hp with e; subst e; exact h
  cases hp
 rename_i he
 injection hp with e; subst e
 have h3 : ∀ i d, k <= i -> l[i]? = some d -> 0 < cmpS d.name f.name := by
  intro i d hi hd
  have hge := h2 i d hi hd
  by_cases h0 : cmpS d.name f.name = 0
  ·exfalso
   by_cases hik : i = k
   ·subst hik
    unfold eqAt at he
    rw [hd] at he
    simp [fldC, h0] at he
   obtain ⟨hl, rfl⟩ := List.getElem?_eq_some_iff.1 hd
   have hkl : k < l.length := by omega
   have h4 := List.pairwise_iff_getElem.1 h k i hkl hl (by omega)
   have h5 := h2 k l[k] (Nat.le_refl _) (List.getElem?_eq_getElem hkl)
   rw [cmpS_zero] at h0
   rw [h0] at h4
   omega
  omega
 unfold Rise
 rw [List.pairwise_append]
 refine ⟨h.sublist (List.take_sublist _ _), ?_, ?_⟩
 ·rw [List.pairwise_cons]
  refine ⟨fun b hb => ?_, h.sublist (List.drop_sublist _ _)⟩
  obtain ⟨i, hi⟩ := List.mem_iff_getElem?.1 hb
  rw [List.getElem?_drop] at hi
  have := h3 _ _ (by omega) hi
  rw [cmpS_anti]; omega
 intro a ha b hb
 obtain ⟨i, hi⟩ := List.mem_iff_getElem?.1 ha
 rw [List.getElem?_take] at hi
 split at hi
 ·rename_i hik
  have hal := h1 i a hik hi
  rcases List.mem_cons.1 hb with rfl | hb
  ·exact hal
  obtain ⟨j, hj⟩ := List.mem_iff_getElem?.1 hb
  rw [List.getElem?_drop] at hj
  have := h3 _ _ (by omega) hj
  exact cmpS_trans hal (by rw [cmpS_anti]; omega)
 cases hi
def allF (fs : List Fld) : Option (List Fld) := fs.foldlM putF []
def fieldsOf (l : List Knd) (name : ByteArray) : Option (List Fld) :=
 allF ((kinL l name).flatMap fun s => match l.find? (fun k => decide (k.name = s)) with | some k => k.fields | none => [])
theorem mem_putF {l l' : List Fld} {f : Fld} (hp : putF l f = some l') : ∀ x, x ∈ l' ↔ x ∈ l \/ x = f := by
 unfold putF at hp
 intro x
 split at hp
 ·split at hp
  ·rename_i hf
   injection hp with e; subst e
   constructor
   ·exact .inl
   rintro (h | rfl)
   ·exact h
   exact List.mem_of_getElem? hf
  cases hp
 injection hp with e; subst e
 generalize lowI (fldC f.name) l = k
 have : x ∈ l ↔ x ∈ l.take k \/ x ∈ l.drop k := by rw [<- List.mem_append, List.take_append_drop]
 rw [this, List.mem_append, List.mem_cons]
 constructor
 ·rintro (h | h | h)
  ·exact .inl (.inl h)
  ·exact .inr h
  exact .inl (.inr h)
 rintro ((h | h) | h)
 ·exact .inl h
 ·exact .inr (.inr h)
 exact .inr (.inl h)
def tyB (t : Int) : Bool := decide (1 <= t /\ t <= 3)
theorem typ_any (t : Int) (w : World) :
 Calls Tryz.prog 241 #[.int .i64 t] w fun e w' => e = .returned (.bool (tyB t)) /\ w = w' := by
 by_cases h1 : 1 <= t
 ·by_cases h2 : t <= 3
  ·have HB : Hid (tyB t = true) := by unfold tyB Hid; simp [h1, h2]
   have d1 : decide (1 <= t) = true := decide_eq_true h1
   have d2 : decide (t <= 3) = true := decide_eq_true h2
   go_enter Tryz.func241, Tryz.ntmps241
   go_wp2_with fail
   go_ret
   exact ⟨by rw [HB.out]; rfl, rfl⟩
  have HB : Hid (tyB t = false) := by unfold tyB Hid; simp [h2]
  have d1 : decide (1 <= t) = true := decide_eq_true h1
  have d2 : decide (t <= 3) = false := decide_eq_false h2
  have h3 : 3 < t := by omega
  go_enter Tryz.func241, Tryz.ntmps241
  go_wp2_with fail
  go_ret
  exact ⟨by rw [HB.out]; rfl, rfl⟩
 have HB : Hid (tyB t = false) := by unfold tyB Hid; simp [h1]
 have d1 : decide (1 <= t) = false := decide_eq_false h1
 have h3 : t < 1 := by omega
 go_enter Tryz.func241, Tryz.ntmps241
 go_wp2_with fail
 go_ret
 exact ⟨by rw [HB.out]; rfl, rfl⟩
def fldE (p : Option Fld) (f : Fld) : Int :=
 if nameE f.name = 0 then (if tyB f.ty then (if f.key && !f.must then 3 else match p with | some q => (if ltS q.name f.name then 0 else 7) | none => 0) else 8) else nameE f.name
def fldsE : Option Fld -> List Fld -> Int
 | _, [] => 0
 | p, f :: r => if fldE p f = 0 then fldsE (some f) r else fldE p f
theorem prev_succ {D : Type} {l : List D} {k : Nat} {d : D} (h : l[k]? = some d) : prev l (k + 1) = some d := by
 unfold prev; simpa using h
theorem cell_box4 (w : World) (a b c d : Value) (t : TypeId) : (w.alloc (.cells #[a, b, c, d] t)).cell? ⟨w.heap.size, 0, none⟩ = some a /\ (w.alloc (.cells #[a, b, c, d] t)).cell? ⟨w.heap.size, 1, none⟩ = some b /\
 (w.alloc (.cells #[a, b, c, d] t)).cell? ⟨w.heap.size, 2, none⟩ = some c /\ (w.alloc (.cells #[a, b, c, d] t)).cell? ⟨w.heap.size, 3, none⟩ = some d :=
 ⟨by rw [World.cell?_alloc_at _ _ _ _ rfl]; rfl, by rw [World.cell?_alloc_at _ _ _ _ rfl]; rfl, by rw [World.cell?_alloc_at _ _ _ _ rfl]; rfl, by rw [World.cell?_alloc_at _ _ _ _ rfl]; rfl⟩
set_option maxHeartbeats 4000000 in
theorem flds_any (l : List Fld) (v : Value) (w : World) (hv : Sl fldL w v l) :
 Calls Tryz.prog 235 #[v] w fun e w' => e = .returned (errV (fldsE none l)) /\ Below w.heap.size w w' := by
 obtain ⟨A, c, rfl, hlc, hcm⟩ := hv.form
 unfold maxLen at hcm
 go_enter Tryz.func235, Tryz.ntmps235
 go_wp2_with fail
 go_loopw [8] (fun i wr => ∃ k : Nat, k <= l.length /\ i = .int .i64 k /\ Below w.heap.size w wr /\ Hid (fldsE none l = fldsE (prev l k) (l.drop k))) (fun i _ => l.length - (intOf i).toNat)
 case atStart => exact ⟨0, Nat.zero_le _, rfl, Below.refl _ _, rfl⟩
 obtain ⟨k, hk, rfl, hb, HR⟩ := hrel
 by_cases hlt : k < l.length
 ·obtain ⟨d, hd⟩ : ∃ d, l[k]? = some d := ⟨_, List.getElem?_eq_getElem hlt⟩
  obtain ⟨b, o, rfl, hok, x0, x1, x2, x3⟩ := fld_at (hv.below hb) hd
  obtain ⟨z0, z1, z2, z3⟩ := cell_box4 wr (.string d.name) (.int .i64 d.ty) (.bool d.must) (.bool d.key) 84
  have hlt' : (k : Int) < (l.length : Int) := by omega
  have HS : Hid (fldsE none l = if fldE (prev l k) d = 0 then fldsE (prev l (k + 1)) (l.drop (k + 1)) else fldE (prev l k) d) := by
   unfold Hid; rw [HR.out, drop_cons hd, fldsE, prev_succ hd]
  by_cases hn : nameE d.name = 0
  ·have hE : errV (nameE d.name) = .nilIface := errV_zero hn
   have HQ : Hid (fldE (prev l k) d = if tyB d.ty then (if d.key && !d.must then 3 else match prev l k with | some q => (if ltS q.name d.name then 0 else 7) | none => 0) else 8) := by
    unfold Hid fldE; rw [if_pos hn]
   have HD := Lib.hid hd
   have HV := Lib.hid hv
   clear hn hd hv
   cases hT : tyB d.ty with
   | false =>
    have HE : Hid (errV (fldsE none l) = .iface 122 (.int .i64 8)) := by
     have : fldE (prev l k) d = 8 := by rw [HQ.out, hT]; rfl
     unfold Hid; rw [HS.out, this]; rfl
    clear HQ
    go_wp2_with fail
    refine (name_any d.name _ hok.1).mono ?_
    rintro e w1 ⟨rfl, hb1⟩
    rw [hE]
    have hb2 : Below w.heap.size w w1 := (hb.alloc hb.size _).trans (hb1.mono (by have := hb.size; simp; omega))
    have q0 := cell_below hb1 z0
    have q1 := cell_below hb1 z1
    have q2 := cell_below hb1 z2
    have q3 := cell_below hb1 z3
    try have y1 := cell_below hb1 (cell_below ((Below.refl _ _).alloc (Nat.le_refl _) _) y0)
    go_wp2_with (go_at_call 241; refine (typ_any _ _).mono ?_; rw [hT]; rintro e w2 ⟨rfl, rfl⟩)
    go_ret
    exact ⟨by rw [HE.out]; rfl, hb2⟩
   | true =>
    have HQ2 : Hid (fldE (prev l k) d = if d.key && !d.must then 3 else match prev l k with | some q => (if ltS q.name d.name then 0 else 7) | none => 0) := by
     unfold Hid; rw [HQ.out, hT]; rfl
    clear HQ
    cases hK : (d.key && !d.must) with
    | true =>
     have HE : Hid (errV (fldsE none l) = .iface 122 (.int .i64 3)) := by
      have : fldE (prev l k) d = 3 := by rw [HQ2.out, hK]; rfl
      unfold Hid; rw [HS.out, this]; rfl
     clear HQ2
     have hk1 : d.key = true := by cases h : d.key <;> simp [h] at hK ⊢
     have hk2 : d.must = false := by cases h : d.must <;> simp [h] at hK ⊢
     clear hK
     rw [hk1, hk2] at z0 z1 z2 z3
     rw [hk1] at x3
     rw [hk2] at x2
     go_wp2_with fail
     refine (name_any d.name _ hok.1).mono ?_
     rintro e w1 ⟨rfl, hb1⟩
     rw [hE]
     have hb2 : Below w.heap.size w w1 := (hb.alloc hb.size _).trans (hb1.mono (by have := hb.size; simp; omega))
     have q0 := cell_below hb1 z0
     have q1 := cell_below hb1 z1
     have q2 := cell_below hb1 z2
     have q3 := cell_below hb1 z3
     try have y1 := cell_below hb1 (cell_below ((Below.refl _ _).alloc (Nat.le_refl _) _) y0)
     go_wp2_with (go_at_call 241; refine (typ_any _ _).mono ?_; rw [hT]; rintro e w2 ⟨rfl, rfl⟩)
     go_ret
     exact ⟨by rw [HE.out]; rfl, hb2⟩
    | false =>
     have HQ3 : Hid (fldE (prev l k) d = match prev l k with | some q => (if ltS q.name d.name then 0 else 7) | none => 0) := by
      unfold Hid; rw [HQ2.out, hK]; rfl
     clear HQ2
     have hkm : d.key = false \/ (d.key = true /\ d.must = true) := by cases h : d.key <;> simp [h] at hK ⊢; exact hK
     clear hK
     by_cases h0 : k = 0
     ·subst h0
      simp only [Nat.zero_mul, Nat.add_zero] at x0 x1 x2 x3
      have HN : Hid (fldsE none l = fldsE (prev l (0 + 1)) (l.drop (0 + 1))) := by unfold Hid; rw [HS.out, HQ3.out]; rfl
      clear HQ3 HS
      rcases hkm with hk1 | ⟨hk1, hk2⟩
      ·rw [hk1] at z0 z1 z2 z3 x3
       go_wp2_with fail
       refine (name_any d.name _ hok.1).mono ?_
       rintro e w1 ⟨rfl, hb1⟩
       rw [hE]
       have hb2 : Below w.heap.size w w1 := (hb.alloc hb.size _).trans (hb1.mono (by have := hb.size; simp; omega))
       have q0 := cell_below hb1 z0
       have q1 := cell_below hb1 z1
       have q2 := cell_below hb1 z2
       have q3 := cell_below hb1 z3
       try have y1 := cell_below hb1 (cell_below ((Below.refl _ _).alloc (Nat.le_refl _) _) y0)
       go_wp2_with (go_at_call 241; refine (typ_any _ _).mono ?_; rw [hT]; rintro e w2 ⟨rfl, rfl⟩)
       go_quiet (fail)
       go_wp2_with fail
       go_roundw
       case rel => exact ⟨1, by omega, by go_num, below_drewN hb2 _, HN⟩
       case measure => simp [intOf]; omega
      rw [hk1, hk2] at z0 z1 z2 z3
      rw [hk1] at x3
      rw [hk2] at x2
      go_wp2_with fail
      refine (name_any d.name _ hok.1).mono ?_
      rintro e w1 ⟨rfl, hb1⟩
      rw [hE]
      have hb2 : Below w.heap.size w w1 := (hb.alloc hb.size _).trans (hb1.mono (by have := hb.size; simp; omega))
      have q0 := cell_below hb1 z0
      have q1 := cell_below hb1 z1
      have q2 := cell_below hb1 z2
      have q3 := cell_below hb1 z3
      try have y1 := cell_below hb1 (cell_below ((Below.refl _ _).alloc (Nat.le_refl _) _) y0)
      go_wp2_with (go_at_call 241; refine (typ_any _ _).mono ?_; rw [hT]; rintro e w2 ⟨rfl, rfl⟩)
      go_quiet (fail)
      go_wp2_with fail
      go_roundw
      case rel => exact ⟨1, by omega, by go_num, below_drewN hb2 _, HN⟩
      case measure => simp [intOf]; omega
     obtain ⟨q, hq⟩ : ∃ q, l[k - 1]? = some q := ⟨_, List.getElem?_eq_getElem (by omega)⟩
     have hkd0 : (0 : Int) < (k : Int) := by omega
     have hkd1 : decide ((0 : Int) < (k : Int)) = true := decide_eq_true hkd0
     have hkd2 : decide (0 < k) = true := decide_eq_true (by omega)
     have hpv : prev l k = some q := by
      obtain ⟨m, rfl⟩ : ∃ m, k = m + 1 := ⟨k - 1, by omega⟩
      exact hq
     obtain ⟨b', o', hA', _, y0, _⟩ := fld_at (HV.out.below hb) hq
     injection hA' with e5
     injection e5 with e6 e7
     subst e6; subst e7
     cases hL : ltS q.name d.name with
     | true =>
      have HN : Hid (fldsE none l = fldsE (prev l (k + 1)) (l.drop (k + 1))) := by unfold Hid; rw [HS.out, HQ3.out, hpv]; simp [hL]
      have hL' : Op.bytesLess q.name.toList d.name.toList = true := hL
      clear HQ3 HS hq hpv hL
      rcases hkm with hk1 | ⟨hk1, hk2⟩
      ·rw [hk1] at z0 z1 z2 z3 x3
       go_wp2_with fail
       refine (name_any d.name _ hok.1).mono ?_
       rintro e w1 ⟨rfl, hb1⟩
       rw [hE]
       have hb2 : Below w.heap.size w w1 := (hb.alloc hb.size _).trans (hb1.mono (by have := hb.size; simp; omega))
       have q0 := cell_below hb1 z0
       have q1 := cell_below hb1 z1
       have q2 := cell_below hb1 z2
       have q3 := cell_below hb1 z3
       try have y1 := cell_below hb1 (cell_below ((Below.refl _ _).alloc (Nat.le_refl _) _) y0)
       go_wp2_with (go_at_call 241; refine (typ_any _ _).mono ?_; rw [hT]; rintro e w2 ⟨rfl, rfl⟩)
       go_quiet (fail)
       go_wp2_with fail
       go_roundw
       case rel => exact ⟨k + 1, by omega, by go_num, below_drewN hb2 _, HN⟩
       case measure => simp [intOf]; omega
      ·rw [hk1, hk2] at z0 z1 z2 z3
       rw [hk1] at x3
       rw [hk2] at x2
       go_wp2_with fail
       refine (name_any d.name _ hok.1).mono ?_
       rintro e w1 ⟨rfl, hb1⟩
       rw [hE]
       have hb2 : Below w.heap.size w w1 := (hb.alloc hb.size _).trans (hb1.mono (by have := hb.size; simp; omega))
       have q0 := cell_below hb1 z0
       have q1 := cell_below hb1 z1
       have q2 := cell_below hb1 z2
       have q3 := cell_below hb1 z3
       try have y1 := cell_below hb1 (cell_below ((Below.refl _ _).alloc (Nat.le_refl _) _) y0)
       go_wp2_with (go_at_call 241; refine (typ_any _ _).mono ?_; rw [hT]; rintro e w2 ⟨rfl, rfl⟩)
       go_quiet (fail)
       go_wp2_with fail
       go_roundw
       case rel => exact ⟨k + 1, by omega, by go_num, below_drewN hb2 _, HN⟩
       case measure => simp [intOf]; omega
     | false =>
      have HE : Hid (errV (fldsE none l) = .iface 122 (.int .i64 7)) := by unfold Hid; rw [HS.out, HQ3.out, hpv]; simp [hL, errV]
      have hL' : Op.bytesLess q.name.toList d.name.toList = false := hL
      clear HQ3 HS hq hpv hL
      rcases hkm with hk1 | ⟨hk1, hk2⟩
      ·rw [hk1] at z0 z1 z2 z3 x3
       go_wp2_with fail
       refine (name_any d.name _ hok.1).mono ?_
       rintro e w1 ⟨rfl, hb1⟩
       rw [hE]
       have hb2 : Below w.heap.size w w1 := (hb.alloc hb.size _).trans (hb1.mono (by have := hb.size; simp; omega))
       have q0 := cell_below hb1 z0
       have q1 := cell_below hb1 z1
       have q2 := cell_below hb1 z2
       have q3 := cell_below hb1 z3
       try have y1 := cell_below hb1 (cell_below ((Below.refl _ _).alloc (Nat.le_refl _) _) y0)
       go_wp2_with (go_at_call 241; refine (typ_any _ _).mono ?_; rw [hT]; rintro e w2 ⟨rfl, rfl⟩)
       go_quiet (fail)
       go_wp2_with fail
       go_ret
       exact ⟨by rw [HE.out]; rfl, below_drewN hb2 _⟩
      rw [hk1, hk2] at z0 z1 z2 z3
      rw [hk1] at x3
      rw [hk2] at x2
      go_wp2_with fail
      refine (name_any d.name _ hok.1).mono ?_
      rintro e w1 ⟨rfl, hb1⟩
      rw [hE]
      have hb2 : Below w.heap.size w w1 := (hb.alloc hb.size _).trans (hb1.mono (by have := hb.size; simp; omega))
      have q0 := cell_below hb1 z0
      have q1 := cell_below hb1 z1
      have q2 := cell_below hb1 z2
      have q3 := cell_below hb1 z3
      try have y1 := cell_below hb1 (cell_below ((Below.refl _ _).alloc (Nat.le_refl _) _) y0)
      go_wp2_with (go_at_call 241; refine (typ_any _ _).mono ?_; rw [hT]; rintro e w2 ⟨rfl, rfl⟩)
      go_quiet (fail)
      go_wp2_with fail
      go_ret
      exact ⟨by rw [HE.out]; rfl, below_drewN hb2 _⟩
  have hE : errV (nameE d.name) = .iface 122 (.int .i64 (nameE d.name)) := errV_some hn
  have HE : Hid (errV (fldsE none l) = .iface 122 (.int .i64 (nameE d.name))) := by
   have : fldE (prev l k) d = nameE d.name := by unfold fldE; rw [if_neg hn]
   unfold Hid; rw [HS.out, this, if_neg hn]; exact hE
  clear hn hd hv
  go_wp2_with fail
  refine (name_any d.name _ hok.1).mono ?_
  rintro e w1 ⟨rfl, hb1⟩
  rw [hE]
  have hb2 : Below w.heap.size w w1 := (hb.alloc hb.size _).trans (hb1.mono (by have := hb.size; simp; omega))
  have q0 := cell_below hb1 z0
  have q1 := cell_below hb1 z1
  have q2 := cell_below hb1 z2
  have q3 := cell_below hb1 z3
  try have y1 := cell_below hb1 (cell_below ((Below.refl _ _).alloc (Nat.le_refl _) _) y0)
  go_wp2_with fail
  go_ret
  exact ⟨by rw [HE.out]; rfl, hb2⟩
 obtain rfl : k = l.length := by omega
 have HE : Hid (errV (fldsE none l) = .nilIface) := by unfold Hid; rw [HR.out, List.drop_length]; rfl
 clear hv
 go_wp2_with fail
 go_ret
 exact ⟨by rw [HE.out]; rfl, hb⟩
end Go.Proofs.YtngbbefpphinjaaGreatDoor
