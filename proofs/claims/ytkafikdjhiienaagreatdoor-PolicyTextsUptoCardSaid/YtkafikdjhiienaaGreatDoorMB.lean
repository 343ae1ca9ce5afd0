/- The parser's functions for types, fields and definitions: contracts. -/
import Derived.Test.YtkafikdjhiienaaGreatDoorMA
import Derived.Deep.RegionHeld3
import Derived.Deep.RegionLaw
import Derived.Deep.CutRange
set_option linter.unusedVariables false
set_option linter.unusedSimpArgs false
/- type -/
namespace Go.Proofs.YtkafikdjhiienaaGreatDoor
open Go.RowKit Go.Proofs.YtkafikdjhiienaaGreatDoorW.PrintWords

/-- A node's cells in the reader's row. -/
theorem RSx.node {b R Mb : Nat} {ok : Nat → Prop} {w : World} {p : PS} {g off c : Nat} {nv : Value} {m : Nat} {D : DataW Unit} (h : RSx b ok R Mb w p g off c nv m D) (i : Nat) (x : Nod) (hx : p.nodes[i]? = some x) :
    ∃ gn C v3 v4 v5, nv = .slice (some ⟨gn, 0, none⟩) p.nodes.length C ∧ b ≤ gn ∧ w.cell? ⟨gn, i * 6, none⟩ = some (.int .i64 x.f0) ∧ w.cell? ⟨gn, i * 6 + 1, none⟩ = some (.string x.f1) ∧ w.cell? ⟨gn, i * 6 + 2, none⟩ = some (.int .i64 x.f2) ∧
      w.cell? ⟨gn, i * 6 + 3, none⟩ = some v3 ∧ w.cell? ⟨gn, i * 6 + 4, none⟩ = some v4 ∧ w.cell? ⟨gn, i * 6 + 5, none⟩ = some v5 ∧ (∀ j, w.frozen? ⟨gn, j, none⟩ = false) ∧ gn < w.heap.size ∧ (∃ cells, w.heap[gn]? = some (.cells cells 110 (0, 0))) := by
  have hi := (List.getElem?_eq_some_iff.1 hx).1
  obtain ⟨gn, C, hnv, hb, hlt, cells, hg⟩ := Kd.R_form h.nodes (by omega)
  have hn := h.nodes
  obtain ⟨_, inner, hown, hreps⟩ := hn
  have hM := hreps.2 i x hx
  obtain ⟨v3, v4, v5, hcs, _⟩ := PPolicyHolds.k110_openM hM
  have hget : ∀ j u, [Value.int .i64 x.f0, .string x.f1, .int .i64 x.f2, v3, v4, v5][j]? = some u → w.cell? ⟨gn, i * 6 + j, none⟩ = some u := by
    intro j u hj
    have := hown.cells (g := gn) (by rw [hnv]; rfl) (i * 6 + j) u (by
      rw [← hcs] at hj
      rw [List.getElem?_take] at hj
      split at hj
      · rw [List.getElem?_drop] at hj; exact hj
      · cases hj)
    rwa [add_plain] at this
  exact ⟨gn, C, v3, v4, v5, hnv, hb, hget 0 _ rfl, hget 1 _ rfl, hget 2 _ rfl, hget 3 _ rfl, hget 4 _ rfl, hget 5 _ rfl, blk_frozen hg, hlt, cells, hg⟩

theorem own_field {w : World} {base : Nat} {e : TypeId} {size g n cap : Nat} {xs : List Value} (h : w.ownsRow base e size (.slice (some ⟨g, 0, none⟩) n cap) n xs) (o : Nat) (u : Value) :
    (w.setCell ⟨g, o, none⟩ u).ownsRow base e size (.slice (some ⟨g, 0, none⟩) n cap) n (xs.set o u) := by
  obtain ⟨h1, h2⟩ := h
  rcases h2 with ⟨h2, _⟩ | ⟨g', cap', cur, hv, hb, hg, hn, hm, hs, ht⟩
  · cases h2
  · cases hv
    refine ⟨by rw [List.length_set]; exact h1, .inr ⟨g, cap, cur.setIfInBounds o u, rfl, hb, blk_set hg o u, hn, hm, by rw [Array.size_setIfInBounds]; exact hs, ?_⟩⟩
    rw [← ht, Array.toList_setIfInBounds]
    exact List.take_set
/-- One field of one element of a row is written. -/
theorem R_field {α : Type} {d : Kd α} {e base g cap : Nat} {w : World} {ok : Nat → Prop} {l : List α} (h : d.R e w base ok (.slice (some ⟨g, 0, none⟩) l.length cap) l) (i j : Nat) (x x' : α) (u : Value) (hx : l[i]? = some x) (hj : j < d.sz)
    (hM : ∀ cs, d.M w base (fun k => ok k ∧ some k ≠ (Value.slice (some ⟨g, 0, none⟩) l.length cap).ownBlock) x cs → d.M w base (fun k => ok k ∧ some k ≠ (Value.slice (some ⟨g, 0, none⟩) l.length cap).ownBlock) x' (cs.set j u)) :
    d.R e (w.setCell ⟨g, i * d.sz + j, none⟩ u) base ok (.slice (some ⟨g, 0, none⟩) (l.set i x').length cap) (l.set i x') := by
  obtain ⟨h0, inner, hown, hreps⟩ := h
  have hlen : (l.set i x').length = l.length := List.length_set
  refine ⟨by rw [hlen]; exact h0, inner.set (i * d.sz + j) u, by rw [hlen]; exact own_field hown _ u, ?_⟩
  rw [hlen]
  have mv : ∀ {y : α} {cs : List Value}, d.M w base (fun k => ok k ∧ some k ≠ (Value.slice (some ⟨g, 0, none⟩) l.length cap).ownBlock) y cs → d.M (w.setCell ⟨g, i * d.sz + j, none⟩ u) base (fun k => ok k ∧ some k ≠ (Value.slice (some ⟨g, 0, none⟩) l.length cap).ownBlock) y cs :=
    fun hy => Kd.M_far (p := ⟨g, i * d.sz + j, none⟩) hy (fun k hk e => hk.2 (by rw [e]; rfl)) u
  refine ⟨by rw [List.length_set, List.length_set]; exact hreps.1, fun k y hy => ?_⟩
  by_cases hki : k = i
  · subst hki
    have hy' : y = x' := by
      rw [List.getElem?_set_self (List.getElem?_eq_some_iff.1 hx).1] at hy
      exact (Option.some.inj hy).symm
    subst hy'
    have e1 : ((inner.set (k * d.sz + j) u).drop (k * d.sz)).take d.sz = (((inner.drop (k * d.sz)).take d.sz)).set j u := by
      rw [List.drop_set, if_neg (by omega), show k * d.sz + j - k * d.sz = j by omega, List.take_set]
    rw [e1]
    exact mv (hM _ (hreps.2 k x hx))
  · rw [List.getElem?_set_ne (fun e => hki e.symm)] at hy
    have e1 : ((inner.set (i * d.sz + j) u).drop (k * d.sz)).take d.sz = (inner.drop (k * d.sz)).take d.sz := by
      apply List.ext_getElem?
      intro a
      simp only [List.getElem?_take, List.getElem?_drop]
      split
      · rename_i ha
        rw [List.getElem?_set_ne]
        intro e
        rcases Nat.lt_or_gt_of_ne hki with hlt | hgt
        · have : (k + 1) * d.sz ≤ i * d.sz := Nat.mul_le_mul_right _ hlt
          rw [Nat.add_mul] at this
          omega
        · have : (i + 1) * d.sz ≤ k * d.sz := Nat.mul_le_mul_right _ hgt
          rw [Nat.add_mul] at this
          omega
      · rfl
    rw [e1]
    exact mv (hreps.2 k y hy)

set_option maxRecDepth 100000 in
set_option maxHeartbeats 1000000 in
theorem typed1_calls {b R Mb : Nat} {ok : Nat → Prop} {w : World} {p : PS} (h : RS b ok R Mb w p) (rB kB : Nat) (k i : Int) (hr : w.cell? ⟨rB, 0, none⟩ = some (.pointer (some ⟨R, 0, none⟩))) (hk : w.cell? ⟨kB, 0, none⟩ = some (.int .i64 k)) (h0 : 0 ≤ i) (h1 : i < p.nodes.length) :
    Calls Tryz.prog 82 #[.int .i64 i, .pointer (some ⟨rB, 0, none⟩), .pointer (some ⟨kB, 0, none⟩)] w fun e w' => e = .returned (.bool (decide ((p.nodes.getD i.toNat PPolicyHolds.z110).f0 = k))) ∧ Below w.heap.size w w' := by
  obtain ⟨g, off, c, nv, m, D, hx⟩ := h
  obtain ⟨j, rfl⟩ := Int.eq_ofNat_of_zero_le h0
  have hj : j < p.nodes.length := by omega
  have hxj : p.nodes[j]? = some p.nodes[j] := List.getElem?_eq_getElem hj
  obtain ⟨gn, C, v3, v4, v5, rfl, hbn, n0, _, _, _, _, _, _, _, _⟩ := hx.node j _ hxj
  have r1 : w.cell? ⟨R, 1, none⟩ = some (.slice (some ⟨gn, 0, none⟩) p.nodes.length C) := (blk_cell hx.blk 1).trans rfl
  have E : Aside0 (decide ((p.nodes.getD (j : Int).toNat PPolicyHolds.z110).f0 = k) = (p.nodes[j].f0 == k)) := ⟨by
    rw [Int.toNat_natCast, List.getD_eq_getElem?_getD, hxj]
    by_cases h : p.nodes[j].f0 = k <;> simp [h]⟩
  have hlenC : Aside0 (p.nodes.length ≤ 200) := ⟨hx.nlen⟩
  clear hx hxj
  generalize p.nodes[j].f0 = fk at *
  go_enter Tryz.func82, Tryz.ntmps82
  go_wp2
  go_quiet (fail)
  go_wp2
  go_ret
  exact ⟨by rw [E.out]; rfl, drawnN_below _ _⟩
end Go.Proofs.YtkafikdjhiienaaGreatDoor

/- type2 -/
namespace Go.Proofs.YtkafikdjhiienaaGreatDoor
open Go.RowKit Go.Proofs.YtkafikdjhiienaaGreatDoorW.PrintWords

/-- What a type's reading keeps: it eats a token at least, nodes only come, the type's node is one of them. -/
def Grows (T : Bool → List Int → PS → PR Int) : Prop :=
  ∀ u a p n q, T u a p = .ok (n, q) → q.l.length ≤ p.l.length - 1 ∧ p.nodes.length ≤ q.nodes.length ∧ 0 ≤ n ∧ n < q.nodes.length
theorem next_len (p : PS) : p.next.l.length = p.l.length - 1 ∧ p.next.nodes = p.nodes := by simp [PS.next]
theorem must_len {p q : PS} {s : ByteArray} {x : Unit} (h : p.must s = .ok (x, q)) : q.l.length = p.l.length - 1 ∧ q.nodes = p.nodes := by
  unfold PS.must at h
  split at h
  · cases h; exact next_len p
  · cases h
theorem goes_len {p q : PS} {s : ByteArray} {x : Bool} (h : p.goes s = (x, q)) : q.l.length ≤ p.l.length ∧ q.nodes = p.nodes ∧ (x = true → q.l.length = p.l.length - 1) := by
  unfold PS.goes at h
  split at h
  · cases h; exact ⟨by have := (next_len p).1; omega, (next_len p).2, fun _ => (next_len p).1⟩
  · cases h; exact ⟨Nat.le_refl _, rfl, fun h => by cases h⟩
theorem name_len {p q : PS} {th : ByteArray → Bool} {x : ByteArray} (h : p.name th = .ok (x, q)) : q.l.length = p.l.length - 1 ∧ q.nodes = p.nodes ∧ x = p.tok.f1 ∧ isName x = true ∧ th x = false := by
  unfold PS.name at h
  split at h
  · cases h
  · rename_i h1
    split at h
    · cases h
    · rename_i h2
      cases h
      refine ⟨(next_len p).1, (next_len p).2, rfl, ?_, by simpa using h2⟩
      simp only [not_or] at h1
      simpa using h1.2.2
theorem mod_len (p : PS) (n : Int) (f : Nod → Nod) : (p.mod n f).l = p.l ∧ (p.mod n f).nodes.length = p.nodes.length := by simp [PS.mod, modNode]

def TypedOK (b d : Nat) : Prop := ∀ (ok : Nat → Prop) (R Mb : Nat) (w : World) (p : PS) (union : Bool) (ahead : List Int) (A : Option Addr) (c : Nat), (∀ k, w.heap.size ≤ k → ok k) → RS b ok R Mb w p → (Kd.int .i64).C w A ahead.length ahead → ahead.length ≤ c → (∀ m ∈ ahead, 0 ≤ m ∧ m < (p.nodes.length : Int)) →
  Calls Tryz.prog 59 #[.pointer (some ⟨R, 0, none⟩), .int .i64 (20 - (d : Int)), .bool union, .slice A ahead.length c] w (Post b ok R Mb w (fun n => .int .i64 n) (pTyped d union ahead p))

/-- One field of the reader's nodes is written. -/
theorem RSx.field {b R Mb : Nat} {ok : Nat → Prop} {w : World} {p : PS} {g off c : Nat} {nv : Value} {m : Nat} {D : DataW Unit} (h : RSx b ok R Mb w p g off c nv m D) {gn C : Nat} (hnv : nv = .slice (some ⟨gn, 0, none⟩) p.nodes.length C) (i j : Nat) (x : Nod) (f : Nod → Nod) (u : Value) (hx : p.nodes[i]? = some x) (hj : j < 6)
    (hM : ∀ cs, kNod.M w b (fun k => ok k ∧ some k ≠ nv.ownBlock) x cs → kNod.M w b (fun k => ok k ∧ some k ≠ nv.ownBlock) (f x) (cs.set j u)) (hN : NamedIs D p.nodes → NamedIs D (p.mod i f).nodes) :
    RS b ok R Mb (w.setCell ⟨gn, i * 6 + j, none⟩ u) (p.mod i f) ∧ Fr b R Mb w (w.setCell ⟨gn, i * 6 + j, none⟩ u) := by
  subst hnv
  have hi := (List.getElem?_eq_some_iff.1 hx).1
  have hg : w.grownBy (w.setCell ⟨gn, i * 6 + j, none⟩ u) (Value.slice (some ⟨gn, 0, none⟩) p.nodes.length C).ownBlock := grown_set w ⟨gn, i * 6 + j, none⟩ u
  have hmod : (p.mod i f).nodes = p.nodes.set i (f x) := by
    simp only [PS.mod, modNode, Int.toNat_natCast]
    apply List.ext_getElem?
    intro k
    rw [List.getElem?_modify, List.getElem?_set]
    by_cases hk : i = k
    · subst hk
      rw [hx]
      simp [hi]
    · simp [hk]
  have hR : kNod.R 110 (w.setCell ⟨gn, i * 6 + j, none⟩ u) b ok (.slice (some ⟨gn, 0, none⟩) (p.nodes.set i (f x)).length C) (p.nodes.set i (f x)) :=
    R_field (d := kNod) h.nodes i j x (f x) u hx hj hM
  have hnb := blk_grown h.blk hg (Kd.R_ne h.nodes h.blk (by decide))
  have hgl : g < w.heap.size := by obtain ⟨cells, hgc, _⟩ := h.tok; exact blk_lt hgc
  have htg : some g ≠ (Value.slice (some ⟨gn, 0, none⟩) p.nodes.length C).ownBlock := by obtain ⟨cells, hgc, _⟩ := h.tok; exact Kd.R_ne h.nodes hgc (by decide)
  have hMo : some Mb ≠ (Value.slice (some ⟨gn, 0, none⟩) p.nodes.length C).ownBlock := by
    intro e
    obtain ⟨inner, ho⟩ := Kd.R_own h.nodes
    obtain ⟨cells, hc⟩ := own_typed ho Mb e.symm
    obtain ⟨es, cl, hm, _⟩ := h.map
    rw [hc] at hm
    cases hm
  refine ⟨⟨g, off, c, _, m, D, hnb, h.cap, h.tok.same (hg.block g hgl htg), ?_, h.map.kept hg hMo, ?_, hN h.named, h.good, ?_, h.low, ?_, h.high⟩, Fr.of_grown h.nodes hg⟩
  · rw [hmod]
    rw [List.length_set] at hR
    exact hR
  · rw [(mod_len p i f).2]; exact h.mlen
  · rw [(mod_len p i f).2]; exact h.nlen
  · refine h.laid.same hg.size (fun k hk => hg.block k (by have := h.laid.size; omega) ?_)
    intro e
    have := Kd.R_base h.nodes k e.symm
    have := h.high
    omega
theorem called_mod (s : ByteArray) (f : Nod → Nod) (hf : ∀ x, (f x).f0 = x.f0 ∧ (f x).f1 = x.f1) (l : List Nod) : ∀ i, calledFrom s (l.modify i f) = calledFrom s l := by
  induction l with
  | nil => intro i; simp
  | cons x l ih =>
    intro i
    cases i with
    | zero => simp only [List.modify_zero_cons, calledFrom, (hf x).1, (hf x).2]
    | succ i => simp only [List.modify_succ_cons, calledFrom, ih]
theorem namedNo_mod (f : Nod → Nod) (hf : ∀ x, (f x).f1 = x.f1) (l : List Nod) : ∀ i, namedNo (l.modify i f) = namedNo l := by
  unfold namedNo
  induction l with
  | nil => intro i; simp
  | cons x l ih =>
    intro i
    cases i with
    | zero => simp only [List.modify_zero_cons, List.filter_cons, hf x]; split <;> simp
    | succ i => simp only [List.modify_succ_cons, List.filter_cons]; split <;> simp [ih]
theorem NamedIs.mod {D : DataW Unit} {p : PS} {i : Int} {f : Nod → Nod} (hf : ∀ x, (f x).f0 = x.f0 ∧ (f x).f1 = x.f1) (h : NamedIs D p.nodes) : NamedIs D (p.mod i f).nodes := by
  refine ⟨h.1, ?_, fun s hs z => ?_⟩
  · have e : namedNo (p.mod i f).nodes = namedNo p.nodes := namedNo_mod f (fun x => (hf x).2) p.nodes i.toNat
    rw [e]
    exact h.2.1
  have e : calledFrom s (p.mod i f).nodes = calledFrom s p.nodes := called_mod s f hf p.nodes i.toNat
  rw [e]
  exact h.2.2 s hs z

theorem set_alloc (w : World) (o : Obj) (n i : Nat) (v : Value) (h : n < w.heap.size) : (w.alloc o).setCell ⟨n, i, none⟩ v = (w.setCell ⟨n, i, none⟩ v).alloc o := World.setCell_alloc_past o n i v h
theorem RSx.ofRS {b R Mb : Nat} {ok : Nat → Prop} {w : World} {p : PS} (h : RS b ok R Mb w p) : ∃ g off c nv m D, RSx b ok R Mb w p g off c nv m D := h
/-- 'r.nodes[n].F = v': the cells that it reads, the world that it leaves. -/
theorem RS.put {b R Mb : Nat} {ok : Nat → Prop} {w : World} {q : PS} (h : RS b ok R Mb w q) (n j : Nat) (hn : n < q.nodes.length) (hj : j < 6) :
    ∃ gn C v, w.cell? ⟨R, 1, none⟩ = some (.slice (some ⟨gn, 0, none⟩) q.nodes.length C) ∧ w.cell? ⟨gn, n * 6 + j, none⟩ = some v ∧ w.frozen? ⟨gn, n * 6 + j, none⟩ = false ∧ gn < w.heap.size ∧ R < w.heap.size ∧ b ≤ w.heap.size ∧ q.nodes.length ≤ 200 ∧ Aside0 (∃ cells, w.heap[gn]? = some (.cells cells 110 (0, 0))) ∧
      ∀ (W : World) (f : Nod → Nod) (V : Value), Below w.heap.size w W →
        (∀ x cs ok', (∀ k, ok k → k ≠ gn → ok' k) → kNod.M W b ok' x cs → kNod.M W b ok' (f x) (cs.set j V)) → (∀ D, NamedIs D q.nodes → NamedIs D (q.mod n f).nodes) →
        RS b ok R Mb (W.setCell ⟨gn, n * 6 + j, none⟩ V) (q.mod n f) ∧ Fr b R Mb w (W.setCell ⟨gn, n * 6 + j, none⟩ V) := by
  obtain ⟨g, off, c, nv, m, D, hx⟩ := h
  have hxn : q.nodes[n]? = some q.nodes[n] := List.getElem?_eq_getElem hn
  obtain ⟨gn, C, v3, v4, v5, hnv, hbg, c0, c1, c2, c3, c4, c5, hfz, hgl, cells, hgc⟩ := hx.node n _ hxn
  have hv : ∃ v, w.cell? ⟨gn, n * 6 + j, none⟩ = some v := by
    rcases j with _ | _ | _ | _ | _ | _ | j
    · exact ⟨_, c0⟩
    · exact ⟨_, c1⟩
    · exact ⟨_, c2⟩
    · exact ⟨_, c3⟩
    · exact ⟨_, c4⟩
    · exact ⟨_, c5⟩
    · omega
  obtain ⟨v, hv⟩ := hv
  refine ⟨gn, C, v, by rw [← hnv]; exact (blk_cell hx.blk 1).trans rfl, hv, hfz _, hgl, blk_lt hx.blk, by have := blk_lt hx.blk; have := hx.low; omega, hx.nlen, ⟨cells, hgc⟩, fun W f V hW hM hN => ?_⟩
  have hRS : RS b ok R Mb W q := RS.fr ⟨g, off, c, nv, m, D, hx⟩ hW
  have hX : RSx b ok R Mb W q g off c nv m D := by
    have hgl2 : g < w.heap.size := by obtain ⟨cells, hg, _⟩ := hx.tok; exact blk_lt hg
    exact ⟨(hW.block R (blk_lt hx.blk)).trans hx.blk, hx.cap, hx.tok.same (hW.block g hgl2), Kd.R_below hx.nodes hW, hx.map.kept (grown_of_below hW none) (by simp), hx.mlen, hx.named, hx.good, hx.nlen, hx.low, hx.laid.below hW, hx.high⟩
  have := hX.field hnv n j q.nodes[n] f V hxn hj (fun cs hcs => hM _ cs _ (fun k hk1 hk => ⟨hk1, by rw [hnv]; intro e; exact hk (Option.some.inj e)⟩) hcs) (hN D)
  exact ⟨this.1, (Fr.of_below hW).trans this.2⟩
/-- What the store of a made row of numbers leaves. -/
theorem putItems {w W : World} {b gn : Nat} {ok : Nat → Prop} {V : Value} {l : List Int} (hc : Aside0 (∃ cells, w.heap[gn]? = some (.cells cells 110 (0, 0)))) (hW : Below w.heap.size w W) (hV : (Kd.int .i64).R 3 W b ok V l) (x : Nod) (cs : List Value) (ok' : Nat → Prop) (h2 : ∀ k, ok k → k ≠ gn → ok' k) (hM : kNod.M W b ok' x cs) :
    kNod.M W b ok' { x with f4 := l } (cs.set 4 V) := by
  obtain ⟨v3, v4, v5, rfl, m3, m4, m5⟩ := PPolicyHolds.k110_openM hM
  obtain ⟨cells, hg0⟩ := hc.out
  have hg := (hW.block gn (blk_lt hg0)).trans hg0
  have hV' : (Kd.int .i64).R 3 W b ok' V l := Kd.R_mono (Kd.R_types hV hg (by decide)) (fun k hk => h2 k hk.1 hk.2)
  exact PPolicyHolds.k110_mkM W b ok' { x with f4 := l } m3 hV' m5
/-- A slice of one number, just made. -/
theorem oneInt (w : World) (b : Nat) (x : Int) (hb : b ≤ w.heap.size) (ok : Nat → Prop) (hok : ok w.heap.size) : (Kd.int .i64).R 3 (w.alloc (.cells #[.int .i64 x] 3)) b ok (.slice (some ⟨w.heap.size, 0, none⟩) 1 1) [x] := by
  refine ⟨fun k hk => ?_, [.int .i64 x], ⟨rfl, .inr ⟨w.heap.size, 1, #[.int .i64 x], rfl, hb, World.alloc_heap_new w _, Nat.le_refl _, by decide, rfl, rfl⟩⟩, rfl, fun j p hj => ?_⟩
  · simp only [Value.ownBlock, Option.some.injEq] at hk
    subst hk
    exact hok
  · have hj0 : j = 0 := by have := (List.getElem?_eq_some_iff.1 hj).1; simp at this; omega
    subst hj0
    simp at hj
    subst hj
    rfl

set_option maxRecDepth 100000 in
set_option maxHeartbeats 1000000 in
theorem item_calls {b d : Nat} (HT : TypedOK b d) (HG : Grows (pTyped d)) {ok : Nat → Prop} {R Mb : Nat} {w : World} {p : PS} (hfr : ∀ k, w.heap.size ≤ k → ok k) (h : RS b ok R Mb w p) (n : Nat) (hn : n < p.nodes.length) (deep : Int) (h0 : 0 ≤ deep) (h1 : deep ≤ 19) (hd : (20 : Int) - d = deep + 1) (shut : ByteArray) :
    Calls Tryz.prog 84 #[.pointer (some ⟨R, 0, none⟩), .int .i64 n, .int .i64 deep, .string shut] w (Post b ok R Mb w (fun _ => .tuple #[]) (pItem (pTyped d) n shut p)) := by
  have HC := HT ok R Mb w p false [] none 0 hfr h (Kd.C_nil _ _) (Nat.le_refl _) (by simp)
  rw [hd] at HC
  cases hr : pTyped d false [] p with
  | error e =>
    rw [hr] at HC
    have E : Aside0 (pItem (pTyped d) n shut p = .error (e.1, e.2)) := ⟨by simp [pItem, hr]⟩
    have HC := Aside0.mk HC
    clear hr HT HG hd hfr
    go_enter Tryz.func84, Tryz.ntmps84
    go_wp2_with (go_at_call 59; refine HC.out.mono ?_; rintro _ w1 ⟨rfl, hf⟩)
    exact ⟨rfl, Post.bad E.out hf⟩
  | ok r =>
    obtain ⟨x, q⟩ := r
    obtain ⟨_, g2, _, _⟩ := HG _ _ _ _ _ hr
    rw [hr] at HC
    have HC := Aside0.mk HC
    have hmx := mod_len q n fun y => { y with f4 := [x] }
    cases hm : (q.mod n fun y => { y with f4 := [x] }).must shut with
    | error e =>
      have E : Aside0 (pItem (pTyped d) n shut p = .error (e.1, e.2)) := ⟨by simp [pItem, hr, hm]⟩
      clear hr HT HG hd hmx
      go_enter Tryz.func84, Tryz.ntmps84
      go_wp2_with (fail)
      refine HC.out.mono ?_
      rintro _ w1 ⟨rfl, hs, hf⟩
      have hnq : n < q.nodes.length := by omega
      obtain ⟨gn, C, v, r1, d1, d2, hgl, hRl, hbl, hle, hgc, fin⟩ := hs.put n 4 hnq (by decide)
      have hA : Below w1.heap.size w1 (w1.alloc (.cells #[.int .i64 x] 3)) := (Below.refl _ _).alloc (Nat.le_refl _) _
      have hS2 := fin (w1.alloc (.cells #[.int .i64 x] 3)) (fun y => { y with f4 := [x] }) (.slice (some ⟨w1.heap.size, 0, none⟩) 1 1) hA (fun y cs ok' hk2 hM => putItems hgc hA (oneInt w1 b x hbl ok (hfr _ hf.size)) y cs ok' hk2 hM) (fun D hD => hD.mod (fun _ => ⟨rfl, rfl⟩))
      rw [set_alloc _ _ _ _ _ hgl] at hS2
      have hS3 := must_calls hS2.1 shut
      rw [hm] at hS3
      have hS3 := Aside0.mk hS3
      have hf2 := Aside0.mk (hf.trans hS2.2)
      clear hS2 fin hs hf hm
      go_wp2_with (go_at_call 116; refine hS3.out.mono ?_; rintro _ w2 ⟨rfl, hf3⟩)
      exact ⟨rfl, Post.bad E.out (hf2.out.trans hf3)⟩
    | ok r2 =>
      obtain ⟨_, q2⟩ := r2
      have E : Aside0 (pItem (pTyped d) n shut p = .ok ((), q2)) := ⟨by simp [pItem, hr, hm]⟩
      clear hr HT HG hd hmx
      go_enter Tryz.func84, Tryz.ntmps84
      go_wp2_with (fail)
      refine HC.out.mono ?_
      rintro _ w1 ⟨rfl, hs, hf⟩
      have hnq : n < q.nodes.length := by omega
      obtain ⟨gn, C, v, r1, d1, d2, hgl, hRl, hbl, hle, hgc, fin⟩ := hs.put n 4 hnq (by decide)
      have hA : Below w1.heap.size w1 (w1.alloc (.cells #[.int .i64 x] 3)) := (Below.refl _ _).alloc (Nat.le_refl _) _
      have hS2 := fin (w1.alloc (.cells #[.int .i64 x] 3)) (fun y => { y with f4 := [x] }) (.slice (some ⟨w1.heap.size, 0, none⟩) 1 1) hA (fun y cs ok' hk2 hM => putItems hgc hA (oneInt w1 b x hbl ok (hfr _ hf.size)) y cs ok' hk2 hM) (fun D hD => hD.mod (fun _ => ⟨rfl, rfl⟩))
      rw [set_alloc _ _ _ _ _ hgl] at hS2
      have hS3 := must_calls hS2.1 shut
      rw [hm] at hS3
      have hS3 := Aside0.mk hS3
      have hf2 := Aside0.mk (hf.trans hS2.2)
      clear hS2 fin hs hf hm
      go_wp2_with (fail)
      refine hS3.out.mono ?_
      rintro _ w2 ⟨rfl, hs3, hf3⟩
      go_wp2_with (fail)
      go_end0
      exact Post.good (x := ()) E.out hs3 (hf2.out.trans hf3)
end Go.Proofs.YtkafikdjhiienaaGreatDoor

/- type3 -/
namespace Go.Proofs.YtkafikdjhiienaaGreatDoor
open Go.RowKit Go.Proofs.YtkafikdjhiienaaGreatDoorW.PrintWords

/-- A row of one's own that is no row of nodes lives on over what the parser turns. -/
theorem Fr.row {α : Type} {d : Kd α} {e b0 b R Mb : Nat} {ok : Nat → Prop} {w w' : World} {ok0 : Nat → Prop} {v : Value} {xs : List α} {p : PS} (hf : Fr b R Mb w w') (hs : RS b ok R Mb w p) (h : d.R e w b0 ok0 v xs) (ht : ∀ q, q ∈ e :: d.E → q ≠ 110 ∧ q ≠ 97) : d.R e w' b0 ok0 v xs := by
  obtain ⟨g, off, c, nv, m, D, hx⟩ := hs
  refine Kd.R_mono (Kd.R_move (Kd.R_bound h) (fun k hk => ?_)) (fun k hk => hk.1)
  obtain ⟨_, _, hlt, q, hq, cells, hc⟩ := hk
  refine hf.block k hlt ?_ ?_ (fun _ cs hcs => ?_)
  · rintro rfl
    rw [hx.blk] at hc
    injection hc with hc
    injection hc with _ e
    exact (ht q hq).2 e.symm
  · rintro rfl
    obtain ⟨es, cl, hm, _⟩ := hx.map
    rw [hm] at hc
    cases hc
  · rw [hc] at hcs
    injection hcs with hcs
    injection hcs with _ e
    exact (ht q hq).1 e
/-- The reader behind a write into a row of numbers that is none of its nodes' rows. -/
theorem RS.over {b : Nat} {ok : Nat → Prop} {R Mb e b0 : Nat} {α : Type} {d : Kd α} {w w1 : World} {p : PS} {v v1 : Value} {l : List α} {ok0 : Nat → Prop} (h : RS b (fun k => ok k ∧ some k ≠ v.ownBlock) R Mb w p) (hv : d.R e w b0 ok0 v l) (he : e ≠ 110 ∧ e ≠ 97 ∧ e ≠ 88) (hb0 : 6 ≤ b0)
    (hg : w.grownBy w1 v.ownBlock) (hat : v1.ownBlock = v.ownBlock ∨ ∃ b, v1.ownBlock = some b ∧ w.heap.size ≤ b) : RS b (fun k => ok k ∧ some k ≠ v1.ownBlock) R Mb w1 p := by
  obtain ⟨g, off, c, nv, m, D, hx⟩ := h
  have hty : ∀ k, v.ownBlock = some k → b0 ≤ k ∧ ∃ cells, w.heap[k]? = some (.cells cells e (0, 0)) := by
    intro k hk
    obtain ⟨inner, ho⟩ := Kd.R_own hv
    exact ⟨own_base ho k hk, own_typed ho k hk⟩
  have hMo : some Mb ≠ v.ownBlock := by
    intro hm
    obtain ⟨_, cells, hc⟩ := hty Mb hm.symm
    obtain ⟨es, cl, hm, _⟩ := hx.map
    rw [hc] at hm
    cases hm
  obtain ⟨cells, hgc, _⟩ := hx.tok
  refine ⟨g, off, c, nv, m, D, blk_grown hx.blk hg (Kd.R_ne hv hx.blk he.2.1), hx.cap, hx.tok.same (hg.block g (blk_lt hgc) (Kd.R_ne hv hgc he.2.2)), Kd.R_after hx.nodes hg hat, hx.map.kept hg hMo, hx.mlen, hx.named, hx.good, hx.nlen, hx.low, ?_, hx.high⟩
  refine hx.laid.same hg.size (fun k hk => hg.block k (by have := hx.laid.size; omega) ?_)
  intro e1
  have := (hty k e1.symm).1
  omega
/-- .. of which nothing is seen from where the row was not yet there. -/
theorem Fr.over {b R Mb e : Nat} {α : Type} {d : Kd α} {w0 w w1 : World} {v : Value} {l : List α} {ok0 : Nat → Prop} (hf : Fr b R Mb w0 w) (hv : d.R e w w0.heap.size ok0 v l) (hg : w.grownBy w1 v.ownBlock) : Fr b R Mb w0 w1 := by
  refine ⟨hg.os.trans hf.os, hg.tape.trans hf.tape, hg.output.trans hf.output, Nat.le_trans hf.size hg.size, fun k hk h1 h2 h3 => (hg.block k (Nat.lt_of_lt_of_le hk hf.size) ?_).trans (hf.block k hk h1 h2 h3)⟩
  intro e1
  have := Kd.R_base hv k e1.symm
  omega
theorem RS.mono {b : Nat} {ok ok' : Nat → Prop} {R Mb : Nat} {w : World} {p : PS} (h : RS b ok R Mb w p) (ho : ∀ k, ok k → ok' k) : RS b ok' R Mb w p := by
  obtain ⟨g, off, c, nv, m, D, hx⟩ := h
  exact ⟨g, off, c, nv, m, D, hx.blk, hx.cap, hx.tok, Kd.R_mono hx.nodes ho, hx.map, hx.mlen, hx.named, hx.good, hx.nlen, hx.low, hx.laid, hx.high⟩
theorem infoInt : (Tryz.prog.info? 3).map (fun i => (i.zero, i.size, i.bytes)) = some (some (.int .i64 0), 1, 8) := by kernel_rfl

theorem pUnion_succ (T : Bool → List Int → PS → PR Int) (n : Int) (k : Nat) (l : List Int) (p : PS) : pUnion T n (k + 1) l p = match T true l p with
    | .error e => .error e
    | .ok (x, q) => match q.goes sPc with
      | (true, q') => .ok ((), q'.mod n fun y => { y with f4 := l ++ [x] })
      | (false, q') => match q'.must sBar with
        | .error e => .error e
        | .ok (_, q'') => pUnion T n k (l ++ [x]) q'' := rfl

set_option maxRecDepth 100000 in
set_option maxHeartbeats 2000000 in
theorem union_calls {b d : Nat} (HT : TypedOK b d) (HG : Grows (pTyped d)) {ok : Nat → Prop} {R Mb : Nat} {w : World} {p : PS} (hfr : ∀ k, w.heap.size ≤ k → ok k) (h : RS b ok R Mb w p) (n : Nat) (hn : n < p.nodes.length) (deep : Int) (h0 : 0 ≤ deep) (h1 : deep ≤ 19) (hd : (20 : Int) - d = deep + 1) (k0 : Nat) (hk0 : p.l.length ≤ k0) (hk1 : k0 ≤ 2000) :
    Calls Tryz.prog 85 #[.pointer (some ⟨R, 0, none⟩), .int .i64 n, .int .i64 deep] w (Post b ok R Mb w (fun _ => .tuple #[]) (pUnion (pTyped d) n k0 [] p)) := by
  have HS := Aside0.mk h
  have HT := Aside0.mk HT
  have HG := Aside0.mk HG
  have hd := Aside0.mk hd
  have hk0 := Aside0.mk hk0
  have hfr := Aside0.mk hfr
  have hbw : Aside0 (b ≤ w.heap.size ∧ 6 ≤ w.heap.size) := ⟨by obtain ⟨g, off, c, nv, m, D, hx⟩ := h; have := blk_lt hx.blk; have := hx.low; have := hx.high; omega⟩
  clear h
  generalize hspec : pUnion (pTyped d) n k0 [] p = spec
  have hspec := Aside0.mk hspec
  go_enter Tryz.func85, Tryz.ntmps85
  go_wp2
  go_loopg [6] k0 (fun kq v wr => ∃ (q : PS) (l : List Int), Aside0 (pUnion (pTyped d) n kq l q = spec) ∧ Aside0 (q.l.length ≤ kq) ∧ Aside0 (RS b (fun k => ok k ∧ some k ≠ v.ownBlock) R Mb wr q) ∧ Aside0 (Fr b R Mb w wr) ∧ Aside0 ((Kd.int .i64).R 3 wr w.heap.size ok v l) ∧ Aside0 (∀ m ∈ l, 0 ≤ m ∧ m < (q.nodes.length : Int)) ∧ n < q.nodes.length ∧ Aside0 (l.length + kq ≤ k0))
  case atStart => exact ⟨p, [], hspec, hk0, ⟨by simpa [Value.ownBlock] using HS.out⟩, ⟨Fr.refl _ _ _ _⟩, ⟨Kd.R_nil _ _ _ _ _⟩, ⟨by simp⟩, hn, ⟨by simp⟩⟩
  case round =>
    obtain ⟨q, l, hsp, hqk, hs, hf, hrow, hval, hnq, hll⟩ := hrel
    obtain ⟨A, c, rfl, hlc, hC⟩ := Kd.R_reads hrow.out
    cases gk with
    | zero =>
      obtain ⟨g, off, c, nv, m, D, hx⟩ := hs.out
      obtain ⟨t, r, hl⟩ := hx.good.ne
      have := hqk.out
      rw [hl] at this
      simp at this
    | succ k =>
      have hfr2 : ∀ i, wr.heap.size ≤ i → ok i ∧ some i ≠ (Value.slice A l.length c).ownBlock := fun i hi => ⟨hfr.out i (Nat.le_trans hf.out.size hi), fun e => by have := Kd.R_lt hrow.out i e.symm; omega⟩
      have HC := HT.out _ R Mb _ q true l A c hfr2 hs.out hC hlc hval.out
      rw [hd.out] at HC
      clear hfr2
      cases hr : pTyped d true l q with
      | error e =>
        rw [hr] at HC
        have E : Aside0 (spec = .error (e.1, e.2)) := ⟨by rw [← hsp.out, pUnion_succ, hr]⟩
        have HC := Aside0.mk HC
        clear hr hC
        go_wp2_with (go_at_call 59; refine HC.out.mono ?_; rintro _ w1 ⟨rfl, hf1⟩)
        exact ⟨rfl, Post.bad E.out (hf.out.trans hf1)⟩
      | ok r =>
        obtain ⟨x, q1⟩ := r
        obtain ⟨g1, g2, g3, g4⟩ := HG.out _ _ _ _ _ hr
        rw [hr] at HC
        have HC := Aside0.mk HC
        clear hC
        go_wp2_with (fail)
        refine HC.out.mono ?_
        rintro _ w1 ⟨rfl, hs1, hf1⟩
        have hrow1 := Aside0.mk (hf1.row hs.out hrow.out (by decide))
        have hf01 := Aside0.mk (hf.out.trans hf1)
        have hw1 : w.heap.size ≤ w1.heap.size := hf01.out.size
        have hs1 := Aside0.mk hs1
        clear hf1 HC
        go_wp2_with (at_builtin; refine Kd.R_append (Kd.int .i64) (w0 := w1) w.heap.size rfl (.tmp 7) (.tmp 13) 33 3 _ 8 rfl Tryz.underlying33 infoInt rfl (by decide) (by omega) (.slice A l.length c) l x [.int .i64 x] ok (fun _ => False) rfl rfl ?aP (fun _ hk => hk.elim) ?aF hrow1.out (Below.refl _ _) hw1 ?aL ?_; (case aP => rfl); (case aF => exact fun i hi => hfr.out i (Nat.le_trans hw1 hi)); (case aL => have := hll.out; omega); intro v2 w2 hR2 hB2 hg2 hat2; obtain ⟨A2, c2, rfl⟩ := Kd.R_slice hR2; have hs2 := Aside0.mk (hs1.out.over hrow1.out (by decide) hbw.out.2 hg2 hat2); have hf02 := Aside0.mk (hf01.out.over hrow1.out hg2); replace hR2 := Aside0.mk hR2; clear hg2 hat2 hB2)
        have HGo := Aside0.mk (goes_calls hs2.out sPc)
        rcases hgo : q1.goes sPc with ⟨yes, q2⟩
        obtain ⟨l1, l2, l3⟩ := goes_len hgo
        rw [hgo] at HGo
        have hn2 : n < q2.nodes.length := by rw [l2]; omega
        cases yes with
        | true =>
          have E : Aside0 (spec = .ok ((), q2.mod n fun y => { y with f4 := l ++ [x] })) := ⟨by rw [← hsp.out, pUnion_succ, hr]; simp only; rw [hgo]⟩
          clear hr hgo l1 l2 l3
          go_wp2_with (fail)
          refine HGo.out.mono ?_
          rintro _ w3 ⟨rfl, hs3, hf3⟩
          have hrow3 := hf3.row hs2.out hR2.out (by decide)
          obtain ⟨gn, C, v, r1, d1, d2, hgl, hRl, hbl, hle, hgc, fin⟩ := (hs3.mono (fun _ hk => hk.1)).put n 4 hn2 (by decide)
          have hfin := fin w3 (fun y => { y with f4 := l ++ [x] }) (.slice A2 (l.length + 1) c2) (Below.refl _ _) (fun y cs ok' hk2 hM => putItems hgc (Below.refl _ _) (by have := Kd.R_lower hrow3 hbw.out.1; simpa using this) y cs ok' hk2 hM) (fun D hD => hD.mod (fun _ => ⟨rfl, rfl⟩))
          have hfin := Aside0.mk hfin
          have hf03 := Aside0.mk (hf02.out.trans hf3)
          clear fin hs3 hf3 hrow3
          go_wp2_with (fail)
          go_end0
          exact Post.good (x := ()) E.out hfin.out.1 (hf03.out.trans hfin.out.2)
        | false =>
          cases hmu : q2.must sBar with
          | error e =>
            have E : Aside0 (spec = .error (e.1, e.2)) := ⟨by rw [← hsp.out, pUnion_succ, hr]; simp only; rw [hgo]; simp only; rw [hmu]⟩
            clear hr hgo l1 l2 l3
            go_wp2_with (fail)
            refine HGo.out.mono ?_
            rintro _ w3 ⟨rfl, hs3, hf3⟩
            have HM := must_calls hs3 sBar
            rw [hmu] at HM
            have HM := Aside0.mk HM
            have hf03 := Aside0.mk (hf02.out.trans hf3)
            clear hs3 hf3 hmu
            go_wp2_with (fail)
            refine HM.out.mono ?_
            rintro _ w4 ⟨rfl, hf4⟩
            exact ⟨rfl, Post.bad E.out (hf03.out.trans hf4)⟩
          | ok r3 =>
            obtain ⟨_, q3⟩ := r3
            obtain ⟨m1, m2⟩ := must_len hmu
            have E : Aside0 (pUnion (pTyped d) n k (l ++ [x]) q3 = spec) := ⟨by rw [← hsp.out, pUnion_succ, hr]; simp only; rw [hgo]; simp only; rw [hmu]⟩
            clear hr hgo l3
            go_wp2_with (fail)
            refine HGo.out.mono ?_
            rintro _ w3 ⟨rfl, hs3, hf3⟩
            have HM := must_calls hs3 sBar
            rw [hmu] at HM
            have HM := Aside0.mk HM
            have hrow3 := Aside0.mk (hf3.row hs2.out hR2.out (by decide))
            have hf03 := Aside0.mk (hf02.out.trans hf3)
            have hs3 := Aside0.mk hs3
            clear hf3 hmu
            go_wp2_with (fail)
            refine HM.out.mono ?_
            rintro _ w4 ⟨rfl, hs4, hf4⟩
            have hrow4 := Aside0.mk (hf4.row hs3.out hrow3.out (by decide))
            have hf04 := Aside0.mk (hf03.out.trans hf4)
            have hs4 := Aside0.mk hs4
            have hn3 : n < q3.nodes.length := by rw [m2]; exact hn2
            have hval3 : Aside0 (∀ m ∈ l ++ [x], 0 ≤ m ∧ m < (q3.nodes.length : Int)) := ⟨by
              intro m hm
              rw [m2, l2]
              rcases List.mem_append.1 hm with hm | hm
              · have := hval.out m hm; omega
              · rw [List.mem_singleton.1 hm]; omega⟩
            have hq3 : Aside0 (q3.l.length ≤ k) := ⟨by have := hqk.out; omega⟩
            have hll3 : Aside0 ((l ++ [x]).length + k ≤ k0) := ⟨by have := hll.out; simp; omega⟩
            clear hf4 m1 m2 l1 l2
            go_wp2_with (fail)
            go_roundg k
            case measure => omega
            case rel => exact ⟨q3, l ++ [x], E, hq3, by simpa using hs4, hf04, by simpa using hrow4, hval3, hn3, hll3⟩
end Go.Proofs.YtkafikdjhiienaaGreatDoor

/- clos -/
namespace Go.Proofs.YtkafikdjhiienaaGreatDoor
open Go.RowKit Go.Proofs.YtkafikdjhiienaaGreatDoorW.PrintWords

/-- A slice that is read, at a place written out. -/
theorem C_place {α : Type} {d : Kd α} {w : World} {A : Option Addr} {l : List α} (h : d.C w A l.length l) (h0 : 0 < l.length) (hs : 0 < d.sz) :
    ∃ b off, A = some ⟨b, off, none⟩ ∧ b < w.heap.size ∧ ∀ j x, l[j]? = some x → ∃ c, c.length = d.sz ∧ d.K w x c ∧ ∀ i u, c[i]? = some u → w.cell? ⟨b, off + (j * d.sz + i), none⟩ = some u := by
  obtain ⟨_, _, h2⟩ := h
  obtain ⟨⟨b, off, spot⟩, e, hc⟩ := h2 h0
  obtain ⟨c0, hl0, _, hu0⟩ := hc 0 _ (List.getElem?_eq_getElem h0)
  have hcell := hu0 0 _ (List.getElem?_eq_getElem (by omega))
  have hsp : spot = none := by
    cases spot with
    | none => rfl
    | some v =>
      simp only [Nat.zero_mul, Nat.add_zero, Addr.add, if_true] at hcell
      simp only [World.cell?] at hcell
      split at hcell <;> simp at hcell
  subst hsp
  refine ⟨b, off, e, ?_, fun j x hx => ?_⟩
  · have := World.block_lt_of_cell? w _ hcell
    simpa [Addr.add] using this
  · obtain ⟨c, hl, hk, hu⟩ := hc j x hx
    refine ⟨c, hl, hk, fun i u hi => ?_⟩
    have := hu i u hi
    rwa [add_at] at this
theorem C_strings {w : World} {A : Option Addr} {l : List ByteArray} (h : Kd.string.C w A l.length l) (h0 : 0 < l.length) :
    ∃ b off, A = some ⟨b, off, none⟩ ∧ b < w.heap.size ∧ ∀ j, j < l.length → w.cell? ⟨b, off + j, none⟩ = some (.string (l.getD j ByteArray.empty)) := by
  obtain ⟨b, off, e, hb, hc⟩ := C_place h h0 (by decide)
  refine ⟨b, off, e, hb, fun j hj => ?_⟩
  obtain ⟨c, _, hk, hu⟩ := hc j _ (List.getElem?_eq_getElem hj)
  obtain rfl : c = [.string l[j]] := hk
  have := hu 0 _ rfl
  have e1 : Kd.string.sz = 1 := rfl
  rw [e1, Nat.mul_one, Nat.add_zero] at this
  rw [this, List.getD_eq_getElem?_getD, List.getElem?_eq_getElem hj]; rfl

theorem contains_str (w : World) (A : Option Addr) (c : Nat) (l : List ByteArray) (s : ByteArray) (h : Kd.string.C w A l.length l) :
    Calls Tryz.prog 138 #[.slice A l.length c, .string s] w fun e w' => e = .returned (.bool (Lib.containsS l s)) ∧ w' = w := by
  by_cases h0 : 0 < l.length
  · obtain ⟨b, off, rfl, _, hc⟩ := C_strings h h0
    have := Tryz.slices_Contains_string b off l.length c l s w (Nat.le_refl _) (Kd.C_max h) hc
    rwa [List.take_length] at this
  · obtain rfl : l = [] := List.eq_nil_of_length_eq_zero (by omega)
    exact Tryz.slices_Contains_string_empty A c s w

set_option maxHeartbeats 400000 in
theorem syms1_calls (w : World) (lB : Nat) (A : Option Addr) (c : Nat) (l : List ByteArray) (s : ByteArray) (hl : w.cell? ⟨lB, 0, none⟩ = some (.slice A l.length c)) (h : Kd.string.C w A l.length l) :
    Calls Tryz.prog 139 #[.string s, .pointer (some ⟨lB, 0, none⟩)] w fun e w' => e = .returned (.bool (Lib.containsS l s)) ∧ Below w.heap.size w w' := by
  have H := Aside0.mk (contains_str w A c l s h)
  clear h
  go_enter Tryz.func139, Tryz.ntmps139
  go_wp2_with (go_at_call 138; refine H.out.mono ?_; rintro e w1 ⟨rfl, rfl⟩)
  go_ret
  exact ⟨rfl, Below.refl _ _⟩

set_option maxHeartbeats 400000 in
theorem fields11_calls (w : World) (sB : Nat) (f : Fld) (s : ByteArray) (hs : w.cell? ⟨sB, 0, none⟩ = some (.string s)) :
    Calls Tryz.prog 142 #[encFld f, .pointer (some ⟨sB, 0, none⟩)] w fun e w' => e = .returned (.bool (decide (f.f0 = s))) ∧ Below w.heap.size w w' := by
  have E := Aside0.mk (str_eq f.f0 s)
  have hl : sB < w.heap.size := World.block_lt_of_cell? w ⟨sB, 0, none⟩ hs
  go_enter Tryz.func142, Tryz.ntmps142
  go_wp2
  go_ret
  exact ⟨by rw [← E.out]; rfl, (Below.refl _ _).alloc (Nat.le_refl _) _⟩

set_option maxHeartbeats 400000 in
theorem fields1_calls (w : World) (lB : Nat) (A : Option Addr) (c : Nat) (l : List Fld) (s : ByteArray) (hl : w.cell? ⟨lB, 0, none⟩ = some (.slice A l.length c)) (h : kFld.C w A l.length l) :
    Calls Tryz.prog 140 #[.string s, .pointer (some ⟨lB, 0, none⟩)] w fun e w' => e = .returned (.bool (l.any fun f => decide (f.f0 = s))) ∧ Below w.heap.size w w' := by
  have hlt : lB < w.heap.size := World.block_lt_of_cell? w ⟨lB, 0, none⟩ hl
  have hA : Below w.heap.size w (w.alloc (.cells #[.string s] 9)) := (Below.refl _ _).alloc (Nat.le_refl _) _
  have hsb : (w.alloc (.cells #[.string s] 9)).cell? ⟨w.heap.size, 0, none⟩ = some (.string s) := (Boxed.new w 9 (.string s)).cell
  have H := Aside0.mk (contFunc_fld 142 #[.pointer (some ⟨w.heap.size, 0, none⟩)] (fun f => decide (f.f0 = s)) l A c (w.alloc (.cells #[.string s] 9)) (Kd.C_below h hA) (fun _ _ => by go_simp)
    (fun W x hW _ => fields11_calls W w.heap.size x s ((hW.cell (p := ⟨w.heap.size, 0, none⟩) (by simp)).trans hsb)))
  replace hA := Aside0.mk hA
  clear h hsb
  have hmf : ∀ (fn : Fn) (first cap : Array Value) (w : World), (Instr.makeFunc fn first cap).run Tryz.prog w = .ok (.func fn first cap) w := fun _ _ _ _ => rfl
  go_enter Tryz.func140, Tryz.ntmps140
  go_wp2_with (go_at_call 141; refine H.out.mono ?_; rintro e w1 ⟨rfl, hb⟩)
  go_ret
  exact ⟨rfl, below_of hA.out hb⟩
end Go.Proofs.YtkafikdjhiienaaGreatDoor

/- def -/
namespace Go.Proofs.YtkafikdjhiienaaGreatDoor
open Go.RowKit Go.Proofs.YtkafikdjhiienaaGreatDoorW.PrintWords

theorem calledFrom_ge (s : ByteArray) : ∀ l, -1 ≤ calledFrom s l ∧ calledFrom s l < (l.length : Int)
  | [] => by simp [calledFrom]
  | x :: r => by
    have := calledFrom_ge s r
    simp only [calledFrom, List.length_cons]
    split
    · omega
    · split <;> omega
theorem NamedIs.has {D : DataW Unit} {nodes : List Nod} (h : NamedIs D nodes) (s : ByteArray) (hs : 0 < s.size) : Maps.has D (.string s.data.toList) = decide (0 ≤ calledFrom s nodes) := by
  have h2 := h.2.2 s hs
  by_cases hc : calledFrom s nodes < 0
  · rw [Maps.has_false_of_atKey (fun z => by rw [h2, if_pos hc])]
    simp; omega
  · rw [Maps.has_true_of_atKey (y := .lit (.int .i64 (calledFrom s nodes))) (fun z => by rw [h2, if_neg hc])]
    simp; omega

theorem zeroInt (w : World) : (zeroValue 3).run Tryz.prog w = .ok (.int .i64 0) w := by kernel_rfl
theorem isName_size {s : ByteArray} (h : isName s = true) : 0 < s.size ∧ s.size ≤ 4096 := by
  simp only [isName, Bool.and_eq_true, decide_eq_true_eq] at h
  omega
/-- 'r.named[s]'. -/
theorem RS.look {b R Mb : Nat} {ok : Nat → Prop} {w : World} {p : PS} (h : RS b ok R Mb w p) (s : ByteArray) (h0 : 0 < s.size) (h1 : s.size ≤ 4096) :
    ∃ (m : Nat) (D : DataW Unit), w.cell? ⟨R, 2, none⟩ = some (.map (some Mb)) ∧ w.ownsMap Tryz.prog 9 (plainElem Tryz.prog 3) Mb m D ∧ keyOf Tryz.prog 9 (.string s) = some (.string s.data.toList) ∧ Maps.has D (.string s.data.toList) = decide (0 ≤ p.called s) ∧ (0 ≤ p.called s → D.atKey (.string s.data.toList) (.lit (.int .i64 0)) = .lit (.int .i64 (p.called s))) := by
  obtain ⟨g, off, c, nv, m, D, hx⟩ := h
  refine ⟨m, D, (blk_cell hx.blk 2).trans rfl, hx.map, WideMaps.keyOf_string_mk Tryz.underlying9 (Nat.le_trans h1 (by decide)), hx.named.has s h0, fun hc => ?_⟩
  rw [hx.named.2.2 s h0, if_neg (by unfold PS.called at hc; omega)]
  rfl

set_option maxRecDepth 100000 in
set_option maxHeartbeats 400000 in
theorem defined1_calls {b R Mb : Nat} {ok : Nat → Prop} {w : World} {p : PS} (h : RS b ok R Mb w p) (rB : Nat) (hr : w.cell? ⟨rB, 0, none⟩ = some (.pointer (some ⟨R, 0, none⟩))) (s : ByteArray) (hn : isName s = true) :
    Calls Tryz.prog 119 #[.string s, .pointer (some ⟨rB, 0, none⟩)] w fun e w' => e = .returned (.bool (decide (0 ≤ p.called s))) ∧ Below w.heap.size w w' := by
  obtain ⟨m, D, r2, hown, hkey, hhas, _⟩ := h.look s (isName_size hn).1 (isName_size hn).2
  rw [← hhas]
  clear hhas h
  go_enter Tryz.func119, Tryz.ntmps119
  go_wp2_with (at_lookup; go_loud (refine wpList_lookup_own_ok_int _ rfl _ _ 95 rfl 9 3 .i64 (Maps.string_keyed Tryz.underlying9) Tryz.underlying95 Tryz.underlying3 (zeroInt _) Mb m D rfl hown _ _ rfl hkey ?_; intro c hat hwc))
  go_ret
  exact ⟨rfl, Below.refl _ _⟩
/-- What the store of a made row of texts leaves. -/
theorem putStrs {w W : World} {b gn : Nat} {ok : Nat → Prop} {V : Value} {l : List ByteArray} (hc : Aside0 (∃ cells, w.heap[gn]? = some (.cells cells 110 (0, 0)))) (hW : Below w.heap.size w W) (hV : Kd.string.R 9 W b ok V l) (x : Nod) (cs : List Value) (ok' : Nat → Prop) (h2 : ∀ k, ok k → k ≠ gn → ok' k) (hM : kNod.M W b ok' x cs) :
    kNod.M W b ok' { x with f3 := l } (cs.set 3 V) := by
  obtain ⟨v3, v4, v5, rfl, m3, m4, m5⟩ := PPolicyHolds.k110_openM hM
  obtain ⟨cells, hg0⟩ := hc.out
  have hg := (hW.block gn (blk_lt hg0)).trans hg0
  have hV' : Kd.string.R 9 W b ok' V l := Kd.R_mono (Kd.R_types hV hg (by decide)) (fun k hk => h2 k hk.1 hk.2)
  exact PPolicyHolds.k110_mkM W b ok' { x with f3 := l } hV' m4 m5
theorem infoStr : (Tryz.prog.info? 9).map (fun i => (i.zero, i.size, i.bytes)) = some (some (.string ByteArray.empty), 1, 16) := by kernel_rfl

theorem pSyms_succ (n : Int) (k : Nat) (l : List ByteArray) (p : PS) : pSyms n (k + 1) l p = match p.name (fun s => Lib.containsS l s) with
    | .error e => .error e
    | .ok (x, q) => match q.goes sGt with
      | (true, q') => .ok ((), q'.mod n fun y => { y with f3 := l ++ [x] })
      | (false, q') => match q'.must sComma with
        | .error e => .error e
        | .ok (_, q'') => pSyms n k (l ++ [x]) q'' := rfl
/-- A cell of one's own that is none of the reader's lives on. -/
theorem Fr.cell {b R Mb : Nat} {ok : Nat → Prop} {w w' : World} {p : PS} (hf : Fr b R Mb w w') (hs : RS b ok R Mb w p) {k t : Nat} {cs : Array Value} (h : w.heap[k]? = some (.cells cs t (0, 0))) (ht : t ≠ 110 ∧ t ≠ 97) : w'.heap[k]? = some (.cells cs t (0, 0)) := by
  obtain ⟨g, off, c, nv, m, D, hx⟩ := hs
  refine (hf.block k (blk_lt h) ?_ ?_ (fun _ cs' hcs => ?_)).trans h
  · rintro rfl
    rw [hx.blk] at h
    injection h with h
    injection h with _ e
    exact ht.2 e.symm
  · rintro rfl
    obtain ⟨es, cl, hm, _⟩ := hx.map
    rw [hm] at h
    cases h
  · rw [h] at hcs
    injection hcs with hcs
    injection hcs with _ e
    exact ht.1 e
end Go.Proofs.YtkafikdjhiienaaGreatDoor

/- syms -/
namespace Go.Proofs.YtkafikdjhiienaaGreatDoor
open Go.RowKit Go.Proofs.YtkafikdjhiienaaGreatDoorW.PrintWords

/-- A variable's box that is none of the reader's is written. -/
theorem RS.box {b : Nat} {ok : Nat → Prop} {R Mb : Nat} {w : World} {p : PS} (h : RS b ok R Mb w p) {k t : Nat} {cs : Array Value} (hk : w.heap[k]? = some (.cells cs t (0, 0))) (hG : 6 ≤ k) (ht : t ≠ 88 ∧ t ≠ 97 ∧ ∀ q, q ∈ 110 :: kNod.E → t ≠ q) (i : Nat) (v : Value) : RS b ok R Mb (w.setCell ⟨k, i, none⟩ v) p := by
  obtain ⟨g, off, c, nv, m, D, hx⟩ := h
  have hgk : g ≠ k := hx.tok.ne_cells hk ht.1
  have hRk : R ≠ k := by
    rintro rfl
    rw [hx.blk] at hk
    injection hk with hk
    injection hk with _ e
    exact ht.2.1 e.symm
  have hMk : Mb ≠ k := by
    rintro rfl
    obtain ⟨es, cl, hm, _⟩ := hx.map
    rw [hm] at hk
    cases hk
  exact ⟨g, off, c, nv, m, D, (Below.heap_setCell _ _ _ _ hRk).trans hx.blk, hx.cap, hx.tok.same (Below.heap_setCell _ _ _ _ hgk), Kd.R_set hx.nodes hk (fun q hq e => ht.2.2 q hq e.symm) i v, hx.map.kept (grown_set w ⟨k, i, none⟩ v) (fun e => hMk (Option.some.inj e)), hx.mlen, hx.named, hx.good, hx.nlen, hx.low, hx.laid.same (by simp [World.setCell]) (fun j hj => Below.heap_setCell _ _ _ _ (by simp; omega)), hx.high⟩
theorem Fr.setNew {b R Mb : Nat} {w w' : World} (h : Fr b R Mb w w') (k i : Nat) (v : Value) (hk : w.heap.size ≤ k) : Fr b R Mb w (w'.setCell ⟨k, i, none⟩ v) :=
  ⟨h.os, h.tape, h.output, by simpa [World.setCell] using h.size, fun j hj h1 h2 h3 => (Below.heap_setCell _ _ _ _ (by simp; omega)).trans (h.block j hj h1 h2 h3)⟩

set_option maxRecDepth 100000 in
set_option maxHeartbeats 4000000 in
theorem syms_calls {b : Nat} {ok : Nat → Prop} {R Mb : Nat} {w : World} {p : PS} (hfr : ∀ k, w.heap.size ≤ k → ok k) (h : RS b ok R Mb w p) (n : Nat) (hn : n < p.nodes.length) :
    Calls Tryz.prog 120 #[.pointer (some ⟨R, 0, none⟩), .int .i64 n] w (Post b ok R Mb w (fun _ => .tuple #[]) (match p.must sLt with
      | .error e => .error e
      | .ok (_, q) => pSyms n q.l.length [] q)) := by
  have hbw : Aside0 (b ≤ w.heap.size ∧ 6 ≤ w.heap.size) := ⟨by obtain ⟨g, off, c, nv, m, D, hx⟩ := h; have := blk_lt hx.blk; have := hx.low; have := hx.high; omega⟩
  have HM := must_calls h sLt
  replace hfr := Aside0.mk hfr
  cases hm : p.must sLt with
  | error e =>
    rw [hm] at HM
    replace HM := Aside0.mk HM
    clear hm h
    go_enter Tryz.func120, Tryz.ntmps120
    go_wp2_with (go_at_call 116; refine HM.out.mono ?_; rintro _ w1 ⟨rfl, hf⟩)
    exact ⟨rfl, rfl, hf⟩
  | ok r =>
    obtain ⟨_, q0⟩ := r
    obtain ⟨_, e2⟩ := must_len hm
    rw [hm] at HM
    replace HM := Aside0.mk HM
    have hlen : q0.l.length ≤ 2000 := by
      have := (h.choose_spec.choose_spec.choose_spec.choose_spec.choose_spec.choose_spec).good.2.2
      have := (must_len hm).1
      omega
    clear hm h
    have hn0 : n < q0.nodes.length := by rw [e2]; exact hn
    simp only
    generalize hspec : pSyms n q0.l.length [] q0 = spec
    replace hspec := Aside0.mk hspec
    replace hlen := Aside0.mk hlen
    clear e2 hn
    go_enter Tryz.func120, Tryz.ntmps120
    go_wp2_with (fail)
    refine HM.out.mono ?_
    rintro _ w1 ⟨rfl, hs1, hf1⟩
    have hw1 := hf1.size
    replace hs1 := Aside0.mk hs1
    replace hf1 := Aside0.mk hf1
    go_wp2_with (fail)
    go_loopg [] q0.l.length (fun kq wr => ∃ (q : PS) (l : List ByteArray) (A : Option Addr) (c : Nat), Aside0 (pSyms n kq l q = spec) ∧ Aside0 (q.l.length ≤ kq) ∧ Aside0 (RS b (fun k => ok k ∧ some k ≠ (Value.slice A l.length c).ownBlock) R Mb wr q) ∧ Aside0 (Fr b R Mb w wr) ∧ Aside0 (Kd.string.R 9 wr w.heap.size ok (.slice A l.length c) l) ∧ n < q.nodes.length ∧ Aside0 (l.length + kq ≤ q0.l.length) ∧ Aside0 (wr.heap[w1.heap.size]? = some (.cells #[.slice A l.length c] 22 (0, 0))))
    case atStart => exact ⟨q0, [], none, 0, hspec, ⟨Nat.le_refl _⟩, ⟨by simpa [Value.ownBlock] using hs1.out.fr ((Below.refl _ _).alloc (Nat.le_refl _) _)⟩, ⟨hf1.out.trans (Fr.of_below ((Below.refl _ _).alloc (Nat.le_refl _) _))⟩, ⟨Kd.R_nil _ _ _ _ _⟩, hn0, ⟨by simp⟩, ⟨World.alloc_heap_new _ _⟩⟩
    case round =>
      obtain ⟨q, l, A, c, hsp, hqk, hs, hf, hrow, hnq, hll, hbox⟩ := hrel
      cases gk with
      | zero =>
        obtain ⟨g, off, c, nv, m, D, hx⟩ := hs.out
        obtain ⟨t, r, hl⟩ := hx.good.ne
        have := hqk.out
        rw [hl] at this
        simp at this
      | succ k =>
        have hD : Below wr.heap.size wr wr.drew := (Below.refl _ _).drew
        have hboxD : wr.drew.heap[w1.heap.size]? = some (.cells #[.slice A l.length c] 22 (0, 0)) := hbox.out
        have hc0 : wr.drew.cell? ⟨w1.heap.size, 0, none⟩ = some (.slice A l.length c) := (blk_cell hboxD 0).trans rfl
        obtain ⟨_, _, e0, hlc, hC⟩ := Kd.R_reads hrow.out
        cases e0
        have HN := name_reads (hs.out.fr hD) 139 #[.pointer (some ⟨w1.heap.size, 0, none⟩)] (fun s => Lib.containsS l s) (fun _ _ => by go_simp) (fun W s hW _ => syms1_calls W _ A c l s ((hW.cell (p := ⟨w1.heap.size, 0, none⟩) (blk_lt hboxD)).trans hc0) (Kd.C_below (Kd.C_below hC hD) hW))
        have hRB := blk_lt hboxD
        cases hr : q.name (fun s => Lib.containsS l s) with
        | error e =>
          rw [hr] at HN
          have E : Aside0 (spec = .error (e.1, e.2)) := ⟨by rw [← hsp.out, pSyms_succ, hr]⟩
          replace HN := Aside0.mk HN
          clear hr hC hD hboxD
          go_wp2_with (fail)
          refine Code.wp_mono (Q := fun ex a w2 => ex = .panic (stopE e.1 e.2) ∧ a.defers = [] ∧ Fr b R Mb wr.drew w2) ?mid ?reg
          case reg =>
           go_region_with (go_at_call 118; refine HN.out.mono ?_; rintro _ w2 ⟨rfl, hf2⟩; refine (fun (_ : wpAny Tryz.prog .any #[] (fun _ _ _ => True) 0 #[] ⟨#[], []⟩ w2) => ⟨rfl, hf2⟩) ?_)
           all_goals exact trivial
          case mid =>
            rintro _ ⟨tm, df⟩ w2 ⟨rfl, rfl, hf2⟩
            go_wp2
            exact ⟨rfl, Post.bad E.out ((hf.out.trans (Fr.of_below ((Below.refl _ _).drew))).trans hf2)⟩
        | ok r =>
          obtain ⟨x, q1⟩ := r
          obtain ⟨nl1, nl2, -, -, -⟩ := name_len hr
          replace nl1 := Aside0.mk nl1
          replace nl2 := Aside0.mk nl2
          rw [hr] at HN
          replace HN := Aside0.mk HN
          have hnew := World.new_ne wr.drew ⟨w1.heap.size, 0, none⟩ hc0
          have hboxD' := Aside0.mk hboxD
          have hf0 : Aside0 (Fr b R Mb w wr.drew) := ⟨hf.out.trans (Fr.of_below hD)⟩
          have hrow0 : Aside0 (Kd.string.R 9 wr.drew w.heap.size ok (.slice A l.length c) l) := ⟨Kd.R_below hrow.out hD⟩
          have hs0 : Aside0 (RS b (fun k => ok k ∧ some k ≠ (Value.slice A l.length c).ownBlock) R Mb wr.drew q) := ⟨hs.out.fr hD⟩
          clear hC hD hboxD
          go_wp2_with (fail)
          go_cut [] from 7 to 24 (fun wx => ∃ (A3 : Option Addr) (c3 : Nat), Aside0 (wx.heap[w1.heap.size]? = some (.cells #[.slice A3 (l.length + 1) c3] 22 (0, 0))) ∧ Aside0 (RS b (fun k => ok k ∧ some k ≠ (Value.slice A3 (l.length + 1) c3).ownBlock) R Mb wx q1) ∧ Aside0 (Fr b R Mb w wx) ∧ Aside0 (Kd.string.R 9 wx w.heap.size ok (.slice A3 (l.length + 1) c3) (l ++ [x])))
          case first =>
           go_region_law (first
            | (refine Kd.R_append_step Kd.string (w0 := w2) w.heap.size (by rfl) (.tmp 7) (.tmp 11) 22 9 _ 16 (by rfl) Tryz.underlying22 infoStr rfl (by decide) (by omega) (.slice A l.length c) l x [.string x] ok (fun _ => False) (by rfl) (by rfl) ?aP (fun _ hk => hk.elim) ?aF hrow2.out (Below.refl _ _) hw2 ?aL ?_; (case aP => rfl); (case aF => exact fun i hi => hfr.out i (Nat.le_trans hw2 hi)); (case aL => have := hll.out; have := hlen.out; omega); intro v3 w3 hR3 hB3 hg3 hat3; obtain ⟨A3, c3, rfl⟩ := Kd.R_slice hR3; have hbox3 := blk_grown hbox2.out hg3 (Kd.R_ne hrow2.out hbox2.out (by decide)); have hc3 : w3.cell? ⟨w1.heap.size, 0, none⟩ = some (.slice A l.length c) := (blk_cell hbox3 0).trans rfl; have hz3 : w3.frozen? ⟨w1.heap.size, 0, none⟩ = false := blk_frozen hbox3 0; replace hbox3 := Aside0.mk hbox3; have hs3 := Aside0.mk (hs2.out.over hrow2.out (by decide) hbw.out.2 hg3 hat3); have hf3 := Aside0.mk (hf02.out.over hrow2.out hg3); replace hR3 := Aside0.mk hR3; clear hg3 hat3 hB3)
            | (go_simp; go_at_call 118; refine HN.out.mono ?_; rintro _ w2 ⟨rfl, hs2, hf2⟩; have hrow2 := Aside0.mk (hf2.row hs0.out hrow0.out (by decide)); have hbox2 := hf2.cell hs0.out hboxD'.out (by decide); have hc2 : w2.cell? ⟨w1.heap.size, 0, none⟩ = some (.slice A l.length c) := (blk_cell hbox2 0).trans rfl; have hl2 := blk_lt hbox2; replace hbox2 := Aside0.mk hbox2; have hf02 := Aside0.mk (hf0.out.trans hf2); have hw2 : w.heap.size ≤ w2.heap.size := hf02.out.size; replace hs2 := Aside0.mk hs2; clear hf2))
           all_goals (go_wp2_with fail; go_meet)
           all_goals exact ⟨A3, c3, ⟨blk_set hbox3.out 0 _⟩, ⟨RS.box (by simpa using hs3.out) hbox3.out (Nat.le_trans hbw.out.2 hw1) (by decide) 0 _⟩, ⟨hf3.out.setNew _ 0 _ hw1⟩, ⟨Kd.R_set (by simpa using hR3.out) hbox3.out (by decide) 0 _⟩⟩
          case rest =>
           obtain ⟨A3, c3, hbox3, hs3, hf3, hR3⟩ := hcut
           have HGo := goes_calls hs3.out sGt
           rcases hgo : q1.goes sGt with ⟨yes, q2⟩
           obtain ⟨l1, l2, l3⟩ := goes_len hgo
           rw [hgo] at HGo
           replace HGo := Aside0.mk HGo
           have hn2 : n < q2.nodes.length := by rw [l2, nl2.out]; exact hnq
           cases yes with
           | true =>
             have E : Aside0 (spec = .ok ((), q2.mod n fun y => { y with f3 := l ++ [x] })) := ⟨by rw [← hsp.out, pSyms_succ, hr]; simp only; rw [hgo]⟩
             clear hr hgo l1 l2 l3
             go_wp2_with (fail)
             refine HGo.out.mono ?_
             rintro _ w4 ⟨rfl, hs4, hf4⟩
             have hrow4 := hf4.row hs3.out hR3.out (by decide)
             have hbox4 := hf4.cell hs3.out hbox3.out (by decide)
             have hD4 : Below w4.heap.size w4 w4.drew := (Below.refl _ _).drew
             obtain ⟨gn, C, v, r1, d1, d2, hgl, hRl, hbl, hle, hgc, fin⟩ := ((hs4.mono (fun _ hk => hk.1)).fr hD4).put n 3 hn2 (by decide)
             have hfin := fin w4.drew (fun y => { y with f3 := l ++ [x] }) (.slice A3 (l.length + 1) c3) (Below.refl _ _) (fun y cs ok' hk2 hM => putStrs hgc (Below.refl _ _) (by have := Kd.R_lower (Kd.R_below hrow4 hD4) hbw.out.1; simpa using this) y cs ok' hk2 hM) (fun D hD => hD.mod (fun _ => ⟨rfl, rfl⟩))
             replace hfin := Aside0.mk hfin
             have hf04 := Aside0.mk ((hf3.out.trans hf4).trans (Fr.of_below hD4))
             have hc4 : w4.drew.cell? ⟨w1.heap.size, 0, none⟩ = some (.slice A3 (l.length + 1) c3) := (blk_cell (hbox4 : w4.drew.heap[w1.heap.size]? = _) 0).trans rfl
             have hi0 : (0 : Int) ≤ (n : Int) := by omega
             have hi1 : (n : Int) < (q2.nodes.length : Int) := by omega
             clear fin hs4 hf4 hrow4 hbox4 hD4
             go_wp2_with (fail)
             go_region
             all_goals go_wp2_with (fail)
             all_goals go_end0
             all_goals exact Post.good (x := ()) E.out hfin.out.1 (hf04.out.trans hfin.out.2)
           | false =>
             cases hmu : q2.must sComma with
             | error e =>
               have E : Aside0 (spec = .error (e.1, e.2)) := ⟨by rw [← hsp.out, pSyms_succ, hr]; simp only; rw [hgo]; simp only; rw [hmu]⟩
               clear hr hgo l1 l2 l3
               go_wp2_with (fail)
               refine HGo.out.mono ?_
               rintro _ w4 ⟨rfl, hs4, hf4⟩
               have HM := must_calls hs4 sComma
               rw [hmu] at HM
               replace HM := Aside0.mk HM
               have hf04 := Aside0.mk (hf3.out.trans hf4)
               clear hs4 hf4 hmu
               go_wp2_with (fail)
               refine HM.out.mono ?_
               rintro _ w5 ⟨rfl, hf5⟩
               exact ⟨rfl, Post.bad E.out (hf04.out.trans hf5)⟩
             | ok r3 =>
               obtain ⟨_, q3⟩ := r3
               obtain ⟨m1, m2⟩ := must_len hmu
               have E : Aside0 (pSyms n k (l ++ [x]) q3 = spec) := ⟨by rw [← hsp.out, pSyms_succ, hr]; simp only; rw [hgo]; simp only; rw [hmu]⟩
               clear hr hgo l3
               go_wp2_with (fail)
               refine HGo.out.mono ?_
               rintro _ w4 ⟨rfl, hs4, hf4⟩
               have HM := must_calls hs4 sComma
               rw [hmu] at HM
               replace HM := Aside0.mk HM
               have hrow4 := Aside0.mk (hf4.row hs3.out hR3.out (by decide))
               have hbox4 := Aside0.mk (hf4.cell hs3.out hbox3.out (by decide))
               have hf04 := Aside0.mk (hf3.out.trans hf4)
               replace hs4 := Aside0.mk hs4
               clear hf4 hmu
               go_wp2_with (fail)
               refine HM.out.mono ?_
               rintro _ w5 ⟨rfl, hs5, hf5⟩
               have hrow5 := Aside0.mk (hf5.row hs4.out hrow4.out (by decide))
               have hbox5 := Aside0.mk (hf5.cell hs4.out hbox4.out (by decide))
               have hf05 := Aside0.mk (hf04.out.trans hf5)
               replace hs5 := Aside0.mk hs5
               have hn3 : n < q3.nodes.length := by rw [m2]; exact hn2
               have hq3 : Aside0 (q3.l.length ≤ k) := ⟨by have := hqk.out; have := nl1.out; omega⟩
               have hll3 : Aside0 ((l ++ [x]).length + k ≤ q0.l.length) := ⟨by have := hll.out; simp; omega⟩
               clear hf5 m1 m2 l1 l2
               go_wp2_with (fail)
               go_roundg k
               case measure => omega
               case rel => exact ⟨q3, l ++ [x], A3, c3, E, hq3, by simpa using hs5, hf05, by simpa using hrow5, hn3, hll3, by simpa using hbox5⟩
end Go.Proofs.YtkafikdjhiienaaGreatDoor

/- fields -/
namespace Go.Proofs.YtkafikdjhiienaaGreatDoor
open Go.RowKit Go.Proofs.YtkafikdjhiienaaGreatDoorW.PrintWords

theorem RS.newBox {b : Nat} {ok : Nat → Prop} {R Mb : Nat} {w : World} {p : PS} (h : RS b ok R Mb w p) (o : Obj) : RS b (fun k => ok k ∧ k ≠ w.heap.size) R Mb (w.alloc o) p := by
  obtain ⟨g, off, c, nv, m, D, hx⟩ := h
  have : RS b (fun k => ok k ∧ k ≠ w.heap.size) R Mb w p := ⟨g, off, c, nv, m, D, hx.blk, hx.cap, hx.tok, Kd.R_mono (Kd.R_bound hx.nodes) (fun k hk => ⟨hk.1, by have := hk.2.2.1; omega⟩), hx.map, hx.mlen, hx.named, hx.good, hx.nlen, hx.low, hx.laid, hx.high⟩
  exact this.fr ((Below.refl _ _).alloc (Nat.le_refl _) _)
/-- A variable's box that is no row of the reader's is written. -/
theorem RS.fbox {b : Nat} {ok : Nat → Prop} {R Mb : Nat} {w : World} {p : PS} (h : RS b ok R Mb w p) {k t : Nat} {cs : Array Value} (hk : w.heap[k]? = some (.cells cs t (0, 0))) (hG : 6 ≤ k) (ht : t ≠ 88 ∧ t ≠ 97) (hok : ∀ i, ok i → i ≠ k) (i : Nat) (v : Value) : RS b ok R Mb (w.setCell ⟨k, i, none⟩ v) p := by
  obtain ⟨g, off, c, nv, m, D, hx⟩ := h
  have hgk : g ≠ k := hx.tok.ne_cells hk ht.1
  have hRk : R ≠ k := by
    rintro rfl
    rw [hx.blk] at hk
    injection hk with hk
    injection hk with _ e
    exact ht.2 e.symm
  have hMk : Mb ≠ k := by
    rintro rfl
    obtain ⟨es, cl, hm, _⟩ := hx.map
    rw [hm] at hk
    cases hk
  exact ⟨g, off, c, nv, m, D, (Below.heap_setCell _ _ _ _ hRk).trans hx.blk, hx.cap, hx.tok.same (Below.heap_setCell _ _ _ _ hgk), Kd.R_far (p := ⟨k, i, none⟩) hx.nodes hok v, hx.map.kept (grown_set w ⟨k, i, none⟩ v) (fun e => hMk (Option.some.inj e)), hx.mlen, hx.named, hx.good, hx.nlen, hx.low, hx.laid.same (by simp [World.setCell]) (fun j hj => Below.heap_setCell _ _ _ _ (by simp; omega)), hx.high⟩
theorem putFlds {w W : World} {b gn : Nat} {ok : Nat → Prop} {V : Value} {l : List Fld} (hc : Aside0 (∃ cells, w.heap[gn]? = some (.cells cells 110 (0, 0)))) (hW : Below w.heap.size w W) (hV : kFld.R 155 W b ok V l) (x : Nod) (cs : List Value) (ok' : Nat → Prop) (h2 : ∀ k, ok k → k ≠ gn → ok' k) (hM : kNod.M W b ok' x cs) :
    kNod.M W b ok' { x with f5 := l } (cs.set 5 V) := by
  obtain ⟨v3, v4, v5, rfl, m3, m4, m5⟩ := PPolicyHolds.k110_openM hM
  obtain ⟨cells, hg0⟩ := hc.out
  have hg := (hW.block gn (blk_lt hg0)).trans hg0
  have hV' : kFld.R 155 W b ok' V l := Kd.R_mono (Kd.R_types hV hg (by decide)) (fun k hk => h2 k hk.1 hk.2)
  exact PPolicyHolds.k110_mkM W b ok' { x with f5 := l } m3 m4 hV'
theorem infoFld : (Tryz.prog.info? 155).map (fun i => (i.zero, i.size, i.bytes)) = some (some (.agg #[.string ByteArray.empty, .bool false, .int .i64 0]), 3, 32) := by kernel_rfl

/-- Within a round: the fields' row in its box lB, the new field in its box fB. -/
structure FSt (b : Nat) (ok : Nat → Prop) (R Mb lB fB : Nat) (w wx : World) (q : PS) (A : Option Addr) (c : Nat) (l : List Fld) (cs : Array Value) : Prop where
  rs : RS b (fun k => (ok k ∧ some k ≠ (Value.slice A l.length c).ownBlock) ∧ k ≠ fB) R Mb wx q
  row : kFld.R 155 wx w.heap.size (fun k => ok k ∧ k ≠ fB) (.slice A l.length c) l
  boxl : wx.heap[lB]? = some (.cells #[.slice A l.length c] 108 (0, 0))
  boxf : wx.heap[fB]? = some (.cells cs 155 (0, 0))
  fr : Fr b R Mb w wx
  new : w.heap.size ≤ fB
  hG : 6 ≤ w.heap.size
theorem FSt.call {b : Nat} {ok : Nat → Prop} {R Mb lB fB : Nat} {w wx wy : World} {q q' : PS} {A : Option Addr} {c : Nat} {l : List Fld} {cs : Array Value} (h : FSt b ok R Mb lB fB w wx q A c l cs)
    (hs : RS b (fun k => (ok k ∧ some k ≠ (Value.slice A l.length c).ownBlock) ∧ k ≠ fB) R Mb wy q') (hf : Fr b R Mb wx wy) : FSt b ok R Mb lB fB w wy q' A c l cs :=
  ⟨hs, hf.row h.rs h.row (by decide), hf.cell h.rs h.boxl (by decide), hf.cell h.rs h.boxf (by decide), h.fr.trans hf, h.new, h.hG⟩
theorem FSt.put {b : Nat} {ok : Nat → Prop} {R Mb lB fB : Nat} {w wx : World} {q : PS} {A : Option Addr} {c : Nat} {l : List Fld} {cs : Array Value} (h : FSt b ok R Mb lB fB w wx q A c l cs) (i : Nat) (v : Value) :
    FSt b ok R Mb lB fB w (wx.setCell ⟨fB, i, none⟩ v) q A c l (cs.setIfInBounds i v) :=
  ⟨h.rs.fbox h.boxf (Nat.le_trans h.hG h.new) (by decide) (fun _ hk => hk.2) i v, Kd.R_far (p := ⟨fB, i, none⟩) h.row (fun _ hk => hk.2) v, (Below.heap_setCell _ _ _ _ (blk_ne h.boxl h.boxf (by decide))).trans h.boxl, blk_set h.boxf i v, h.fr.setNew _ i v h.new, h.new, h.hG⟩

theorem pFields_succ (T : Bool → List Int → PS → PR Int) (n : Int) (k : Nat) (l : List Fld) (p : PS) : pFields T n (k + 1) l p = match p.goes sCc with
    | (true, q) => .ok ((), q.mod n fun y => { y with f5 := l })
    | (false, q) => match q.name (fun s => l.any fun f => decide (f.f0 = s)) with
      | .error e => .error e
      | .ok (x, q) => match q.goes sQm with
        | (has, q) => match q.must sColon with
          | .error e => .error e
          | .ok (_, q) => match T false [] q with
            | .error e => .error e
            | .ok (t, q) => match q.must sSemi with
              | .error e => .error e
              | .ok (_, q) => pFields T n k (l ++ [⟨x, has, t⟩]) q := rfl

set_option maxRecDepth 100000 in
set_option maxHeartbeats 4000000 in
theorem fields_calls {b d : Nat} (HT : TypedOK b d) (HG : Grows (pTyped d)) {ok : Nat → Prop} {R Mb : Nat} {w : World} {p : PS} (hfr : ∀ k, w.heap.size ≤ k → ok k) (h : RS b ok R Mb w p) (n : Nat) (hn : n < p.nodes.length) (deep : Int) (h0 : 0 ≤ deep) (h1 : deep ≤ 19) (hd : (20 : Int) - d = deep + 1) :
    Calls Tryz.prog 122 #[.pointer (some ⟨R, 0, none⟩), .int .i64 n, .int .i64 deep] w (Post b ok R Mb w (fun _ => .tuple #[]) (match p.must sCo with
      | .error e => .error e
      | .ok (_, q) => pFields (pTyped d) n q.l.length [] q)) := by
  have hbw : Aside0 (b ≤ w.heap.size ∧ 6 ≤ w.heap.size) := ⟨by obtain ⟨g, off, c, nv, m, D, hx⟩ := h; have := blk_lt hx.blk; have := hx.low; have := hx.high; omega⟩
  have HM := must_calls h sCo
  replace hfr := Aside0.mk hfr
  replace HT := Aside0.mk HT
  replace HG := Aside0.mk HG
  replace hd := Aside0.mk hd
  cases hm : p.must sCo with
  | error e =>
    rw [hm] at HM
    replace HM := Aside0.mk HM
    clear hm h
    go_enter Tryz.func122, Tryz.ntmps122
    go_wp2_with (go_at_call 116; refine HM.out.mono ?_; rintro _ w1 ⟨rfl, hf⟩)
    exact ⟨rfl, rfl, hf⟩
  | ok r =>
    obtain ⟨_, q0⟩ := r
    obtain ⟨_, e2⟩ := must_len hm
    rw [hm] at HM
    replace HM := Aside0.mk HM
    have hlen : q0.l.length ≤ 2000 := by
      have := (h.choose_spec.choose_spec.choose_spec.choose_spec.choose_spec.choose_spec).good.2.2
      have := (must_len hm).1
      omega
    clear hm h
    have hn0 : n < q0.nodes.length := by rw [e2]; exact hn
    simp only
    generalize hspec : pFields (pTyped d) n q0.l.length [] q0 = spec
    replace hspec := Aside0.mk hspec
    replace hlen := Aside0.mk hlen
    clear e2 hn
    go_enter Tryz.func122, Tryz.ntmps122
    go_wp2_with (fail)
    refine HM.out.mono ?_
    rintro _ w1 ⟨rfl, hs1, hf1⟩
    have hw1 := hf1.size
    replace hs1 := Aside0.mk hs1
    replace hf1 := Aside0.mk hf1
    go_wp2_with (fail)
    go_loopg [] q0.l.length (fun kq wr => ∃ (q : PS) (l : List Fld) (A : Option Addr) (c : Nat), Aside0 (pFields (pTyped d) n kq l q = spec) ∧ Aside0 (q.l.length ≤ kq) ∧ Aside0 (RS b (fun k => ok k ∧ some k ≠ (Value.slice A l.length c).ownBlock) R Mb wr q) ∧ Aside0 (Fr b R Mb w wr) ∧ Aside0 (kFld.R 155 wr w.heap.size ok (.slice A l.length c) l) ∧ n < q.nodes.length ∧ Aside0 (l.length + kq ≤ q0.l.length) ∧ Aside0 (wr.heap[w1.heap.size]? = some (.cells #[.slice A l.length c] 108 (0, 0))))
    case atStart => exact ⟨q0, [], none, 0, hspec, ⟨Nat.le_refl _⟩, ⟨by simpa [Value.ownBlock] using hs1.out.fr ((Below.refl _ _).alloc (Nat.le_refl _) _)⟩, ⟨hf1.out.trans (Fr.of_below ((Below.refl _ _).alloc (Nat.le_refl _) _))⟩, ⟨Kd.R_nil _ _ _ _ _⟩, hn0, ⟨by simp⟩, ⟨World.alloc_heap_new _ _⟩⟩
    case round =>
      obtain ⟨q, l, A, c, hsp, hqk, hs, hf, hrow, hnq, hll, hbox⟩ := hrel
      cases gk with
      | zero =>
        obtain ⟨g, off, c, nv, m, D, hx⟩ := hs.out
        obtain ⟨t, r, hl⟩ := hx.good.ne
        have := hqk.out
        rw [hl] at this
        simp at this
      | succ k =>
        have HGo := goes_calls hs.out sCc
        rcases hgo : q.goes sCc with ⟨yes, q1⟩
        obtain ⟨l1, l2, l3⟩ := goes_len hgo
        rw [hgo] at HGo
        replace HGo := Aside0.mk HGo
        have hn1 : n < q1.nodes.length := by rw [l2]; exact hnq
        replace l1 := Aside0.mk l1
        replace l2 := Aside0.mk l2
        clear l3
        cases yes with
        | true =>
          have E : Aside0 (spec = .ok ((), q1.mod n fun y => { y with f5 := l })) := ⟨by rw [← hsp.out, pFields_succ, hgo]⟩
          clear hgo
          go_wp2_with (fail)
          refine HGo.out.mono ?_
          rintro _ w4 ⟨rfl, hs4, hf4⟩
          have hrow4 := hf4.row hs.out hrow.out (by decide)
          have hbox4 := hf4.cell hs.out hbox.out (by decide)
          have hD4 : Below w4.heap.size w4 w4.drew := (Below.refl _ _).drew
          obtain ⟨gn, C, v, r1, d1, d2, hgl, hRl, hbl, hle, hgc, fin⟩ := ((hs4.mono (fun _ hk => hk.1)).fr hD4).put n 5 hn1 (by decide)
          have hfin := fin w4.drew (fun y => { y with f5 := l }) (.slice A l.length c) (Below.refl _ _) (fun y cs ok' hk2 hM => putFlds hgc (Below.refl _ _) (by have := Kd.R_lower (Kd.R_below hrow4 hD4) hbw.out.1; simpa using this) y cs ok' hk2 hM) (fun D hD => hD.mod (fun _ => ⟨rfl, rfl⟩))
          replace hfin := Aside0.mk hfin
          have hf04 := Aside0.mk ((hf.out.trans hf4).trans (Fr.of_below hD4))
          have hc4 : w4.drew.cell? ⟨w1.heap.size, 0, none⟩ = some (.slice A l.length c) := (blk_cell (hbox4 : w4.drew.heap[w1.heap.size]? = _) 0).trans rfl
          have hi0 : (0 : Int) ≤ (n : Int) := by omega
          have hi1 : (n : Int) < (q1.nodes.length : Int) := by omega
          clear fin hs4 hf4 hrow4 hbox4 hD4
          go_wp2_with (fail)
          go_region
          all_goals go_wp2_with (fail)
          all_goals go_end0
          all_goals exact Post.good (x := ()) E.out hfin.out.1 (hf04.out.trans hfin.out.2)
        | false =>
          go_wp2_with (fail)
          refine HGo.out.mono ?_
          rintro _ wa ⟨rfl, hsa, hfa⟩
          have hrowa := Aside0.mk (hfa.row hs.out hrow.out (by decide))
          have hboxa := hfa.cell hs.out hbox.out (by decide)
          have hf0a := Aside0.mk (hf.out.trans hfa)
          have hca : wa.cell? ⟨w1.heap.size, 0, none⟩ = some (.slice A l.length c) := (blk_cell hboxa 0).trans rfl
          obtain ⟨_, _, e0, hlc, hC⟩ := Kd.R_reads hrowa.out
          cases e0
          have HN := name_reads hsa 140 #[.pointer (some ⟨w1.heap.size, 0, none⟩)] (fun s => l.any fun f => decide (f.f0 = s)) (fun _ _ => by go_simp) (fun W s hW _ => fields1_calls W _ A c l s ((hW.cell (p := ⟨w1.heap.size, 0, none⟩) (blk_lt hboxa)).trans hca) (Kd.C_below hC hW))
          replace hsa := Aside0.mk hsa
          replace hboxa := Aside0.mk hboxa
          clear hfa hC hs hf hrow hbox
          cases hr : q1.name (fun s => l.any fun f => decide (f.f0 = s)) with
          | error e =>
            rw [hr] at HN
            have E : Aside0 (spec = .error (e.1, e.2)) := ⟨by rw [← hsp.out, pFields_succ, hgo]; simp only; rw [hr]⟩
            replace HN := Aside0.mk HN
            clear hr hgo
            go_wp2_with (fail)
            refine HN.out.mono ?_
            rintro _ wb ⟨rfl, hfb⟩
            exact ⟨rfl, Post.bad E.out (hf0a.out.trans hfb)⟩
          | ok r =>
            obtain ⟨x, q2⟩ := r
            obtain ⟨nl1, nl2, -, -, -⟩ := name_len hr
            replace nl1 := Aside0.mk nl1
            replace nl2 := Aside0.mk nl2
            rw [hr] at HN
            replace HN := Aside0.mk HN
            go_wp2_with (fail)
            refine HN.out.mono ?_
            rintro _ wb ⟨rfl, hsb, hfb⟩
            have hw1b : w.heap.size ≤ wb.heap.size := (hf0a.out.trans hfb).size
            have hst : Aside0 (FSt b ok R Mb w1.heap.size wb.heap.size w (wb.alloc (.cells #[.string x, .bool false, .int .i64 0] 155)) q2 A c l #[.string x, .bool false, .int .i64 0]) := by
              have hA : Below wb.heap.size wb (wb.alloc (.cells #[.string x, .bool false, .int .i64 0] 155)) := (Below.refl _ _).alloc (Nat.le_refl _) _
              have hbx := hfb.cell hsa.out hboxa.out (by decide)
              exact ⟨hsb.newBox _, Kd.R_mono (Kd.R_bound (Kd.R_below (Kd.R_mono (Kd.R_bound (hfb.row hsa.out hrowa.out (by decide))) (fun k hk => (⟨hk.1, by have := hk.2.2.1; omega⟩ : ok k ∧ k ≠ wb.heap.size))) hA)) (fun k hk => hk.1), (hA.block _ (blk_lt hbx)).trans hbx, World.alloc_heap_new _ _, (hf0a.out.trans hfb).trans (Fr.of_below hA), hw1b, hbw.out.2⟩
            clear hsb hfb hsa hboxa hrowa hca
            have HG2 := goes_calls hst.out.rs sQm
            rcases hgo2 : q2.goes sQm with ⟨has, q3⟩
            obtain ⟨l4, l5, -⟩ := goes_len hgo2
            rw [hgo2] at HG2
            replace HG2 := Aside0.mk HG2
            replace l4 := Aside0.mk l4
            replace l5 := Aside0.mk l5
            go_wp2_with (fail)
            refine HG2.out.mono ?_
            rintro _ wc ⟨rfl, hsc, hfc⟩
            have hstc := Aside0.mk (hst.out.call hsc hfc)
            have b1 := (blk_cell hstc.out.boxf 1).trans rfl
            have b2 := blk_frozen hstc.out.boxf 1
            clear hsc hfc hst HG2
            have hstd := Aside0.mk (hstc.out.put 1 (.bool has))
            have HM1 := must_calls hstd.out.rs sColon
            cases hm1 : q3.must sColon with
            | error e =>
              have E : Aside0 (spec = .error (e.1, e.2)) := ⟨by rw [← hsp.out, pFields_succ, hgo]; simp only; rw [hr]; simp only; rw [hgo2]; simp only; rw [hm1]⟩
              rw [hm1] at HM1
              replace HM1 := Aside0.mk HM1
              clear hr hgo hgo2 hm1
              go_wp2_with (fail)
              refine HM1.out.mono ?_
              rintro _ we ⟨rfl, hfe⟩
              exact ⟨rfl, Post.bad E.out (hstd.out.fr.trans hfe)⟩
            | ok r4 =>
              obtain ⟨_, q4⟩ := r4
              obtain ⟨m1, m2⟩ := must_len hm1
              replace m1 := Aside0.mk m1
              replace m2 := Aside0.mk m2
              rw [hm1] at HM1
              replace HM1 := Aside0.mk HM1
              go_wp2_with (fail)
              refine HM1.out.mono ?_
              rintro _ we ⟨rfl, hse, hfe⟩
              have hste := Aside0.mk (hstd.out.call hse hfe)
              clear hse hfe HM1 b1 b2 hstd
              have HTc := HT.out _ R Mb _ q4 false [] none 0 (fun i hi => (⟨⟨hfr.out i (Nat.le_trans hste.out.fr.size hi), fun e => by have := Kd.R_lt hste.out.row i e.symm; omega⟩, fun e => by have := blk_lt hste.out.boxf; omega⟩ : (ok i ∧ some i ≠ (Value.slice A l.length c).ownBlock) ∧ i ≠ wb.heap.size)) hste.out.rs (Kd.C_nil _ _) (Nat.le_refl _) (by simp)
              rw [hd.out] at HTc
              cases hty : pTyped d false [] q4 with
              | error e =>
                have E : Aside0 (spec = .error (e.1, e.2)) := ⟨by rw [← hsp.out, pFields_succ, hgo]; simp only; rw [hr]; simp only; rw [hgo2]; simp only; rw [hm1]; simp only; rw [hty]⟩
                rw [hty] at HTc
                replace HTc := Aside0.mk HTc
                clear hr hgo hgo2 hm1 hty
                go_wp2_with (fail)
                refine HTc.out.mono ?_
                rintro _ wf ⟨rfl, hff⟩
                exact ⟨rfl, Post.bad E.out (hste.out.fr.trans hff)⟩
              | ok r5 =>
                obtain ⟨ty, q5⟩ := r5
                obtain ⟨g1, g2, g3, g4⟩ := HG.out _ _ _ _ _ hty
                rw [hty] at HTc
                replace HTc := Aside0.mk HTc
                have gg : Aside0 (q5.l.length ≤ q4.l.length - 1 ∧ q4.nodes.length ≤ q5.nodes.length) := ⟨g1, g2⟩
                clear g1 g2 g3 g4
                go_wp2_with (fail)
                refine HTc.out.mono ?_
                rintro _ wf ⟨rfl, hsf, hff⟩
                have hstf := Aside0.mk (hste.out.call hsf hff)
                clear hsf hff HTc hste
                have b1 := (blk_cell hstf.out.boxf 2).trans rfl
                have b2 := blk_frozen hstf.out.boxf 2
                have hstg := Aside0.mk (hstf.out.put 2 (.int .i64 ty))
                have HM2 := must_calls hstg.out.rs sSemi
                cases hm2 : q5.must sSemi with
                | error e =>
                  have E : Aside0 (spec = .error (e.1, e.2)) := ⟨by rw [← hsp.out, pFields_succ, hgo]; simp only; rw [hr]; simp only; rw [hgo2]; simp only; rw [hm1]; simp only; rw [hty]; simp only; rw [hm2]⟩
                  rw [hm2] at HM2
                  replace HM2 := Aside0.mk HM2
                  clear hr hgo hgo2 hm1 hty hm2
                  go_wp2_with (fail)
                  refine HM2.out.mono ?_
                  rintro _ wh ⟨rfl, hfh⟩
                  exact ⟨rfl, Post.bad E.out (hstg.out.fr.trans hfh)⟩
                | ok r6 =>
                  obtain ⟨_, q6⟩ := r6
                  obtain ⟨m3, m4⟩ := must_len hm2
                  replace m3 := Aside0.mk m3
                  replace m4 := Aside0.mk m4
                  have E : Aside0 (pFields (pTyped d) n k (l ++ [⟨x, has, ty⟩]) q6 = spec) := ⟨by rw [← hsp.out, pFields_succ, hgo]; simp only; rw [hr]; simp only; rw [hgo2]; simp only; rw [hm1]; simp only; rw [hty]; simp only; rw [hm2]⟩
                  rw [hm2] at HM2
                  replace HM2 := Aside0.mk HM2
                  clear hr hgo hgo2 hm1 hty hm2
                  go_wp2_with (fail)
                  refine HM2.out.mono ?_
                  rintro _ wh ⟨rfl, hsh, hfh⟩
                  have hsth := Aside0.mk (hstg.out.call hsh hfh)
                  clear hsh hfh HM2 b1 b2 hstg hstf
                  have c0 := (blk_cell hsth.out.boxf 0).trans rfl
                  have c1 := (blk_cell hsth.out.boxf 1).trans rfl
                  have c2 := (blk_cell hsth.out.boxf 2).trans rfl
                  have c3 := (blk_cell hsth.out.boxl 0).trans rfl
                  have hrowh : Aside0 (kFld.R 155 wh w.heap.size ok (.slice A l.length c) l) := ⟨Kd.R_mono hsth.out.row (fun _ hk => hk.1)⟩
                  have hsh : Aside0 (RS b (fun k => ok k ∧ some k ≠ (Value.slice A l.length c).ownBlock) R Mb wh q6) := ⟨hsth.out.rs.mono (fun _ hk => hk.1)⟩
                  have hwh : w.heap.size ≤ wh.heap.size := hsth.out.fr.size
                  go_wp2_with (at_builtin; refine Kd.R_append kFld (w0 := wh) w.heap.size rfl (.tmp 29) (.tmp 31) 108 155 _ 32 rfl Tryz.underlying108 infoFld rfl (by decide) (by omega) (.slice A l.length c) l ⟨x, has, ty⟩ [.string x, .bool has, .int .i64 ty] ok (fun _ => False) rfl rfl ?aP (fun _ hk => hk.elim) ?aF hrowh.out (Below.refl _ _) hwh ?aL ?_; (case aP => exact PPolicyHolds.k155_mkM _ _ _ _); (case aF => exact fun i hi => hfr.out i (Nat.le_trans hwh hi)); (case aL => have := hll.out; have := hlen.out; omega); intro v3 w3 hR3 hB3 hg3 hat3; obtain ⟨A3, c3, rfl⟩ := Kd.R_slice hR3; have hbox3 := blk_grown hsth.out.boxl hg3 (Kd.R_ne hrowh.out hsth.out.boxl (by decide)); have hc3 : w3.cell? ⟨w1.heap.size, 0, none⟩ = some (.slice A l.length c) := (blk_cell hbox3 0).trans rfl; have hz3 : w3.frozen? ⟨w1.heap.size, 0, none⟩ = false := blk_frozen hbox3 0; replace hbox3 := Aside0.mk hbox3; have hs3 := Aside0.mk (hsh.out.over hrowh.out (by decide) hbw.out.2 hg3 hat3); have hf3 := Aside0.mk (hsth.out.fr.over hrowh.out hg3); replace hR3 := Aside0.mk hR3; clear hg3 hat3 hB3)
                  go_roundg k
                  case measure => omega
                  case rel =>
                    refine ⟨q6, l ++ [⟨x, has, ty⟩], A3, c3, E, ⟨?_⟩, ⟨?_⟩, ⟨hf3.out.setNew _ 0 _ hw1⟩, ⟨Kd.R_set (by simpa using hR3.out) hbox3.out (by decide) 0 _⟩, ?_, ⟨?_⟩, ⟨?_⟩⟩
                    · have := hqk.out; have := l1.out; have := nl1.out; have := l4.out; have := m1.out; have := gg.out.1; have := m3.out; omega
                    · exact RS.box (by simpa using hs3.out) hbox3.out (Nat.le_trans hbw.out.2 hw1) (by decide) 0 _
                    · rw [m4.out]; have := gg.out.2; rw [m2.out, l5.out, nl2.out, l2.out] at this; omega
                    · have := hll.out; simp; omega
                    · have := blk_set hbox3.out 0 (Value.slice A3 (l ++ [(⟨x, has, ty⟩ : Fld)]).length c3)
                      simpa using this
end Go.Proofs.YtkafikdjhiienaaGreatDoor

/- rename -/
namespace Go.Proofs.YtkafikdjhiienaaGreatDoor
open Go.RowKit Go.Proofs.YtkafikdjhiienaaGreatDoorW.PrintWords

theorem called_put (s : ByteArray) : ∀ (l : List Nod) (n : Nat) (x : Nod), l[n]? = some x → 9 ≤ x.f0 → calledFrom s l < 0 → calledFrom s (l.modify n fun y => { y with f1 := s }) = n
  | [], n, x, hx, _, _ => by simp at hx
  | y :: r, 0, x, hx, h9, _ => by
    simp only [List.getElem?_cons_zero, Option.some.injEq] at hx
    subst hx
    simp [calledFrom, h9]
  | y :: r, n + 1, x, hx, h9, hc => by
    simp only [List.getElem?_cons_succ] at hx
    simp only [List.modify_succ_cons, calledFrom] at hc ⊢
    split at hc
    · omega
    · rename_i h1
      rw [if_neg h1]
      have hr : calledFrom s r < 0 := by
        split at hc
        · assumption
        · rename_i h2
          omega
      have := called_put s r n x hx h9 hr
      rw [this, if_neg (by omega)]
      omega
theorem called_other (s s' : ByteArray) (hne : s' ≠ s) (h0 : 0 < s'.size) : ∀ (l : List Nod) (n : Nat) (x : Nod), l[n]? = some x → x.f1 = ⟨#[]⟩ → calledFrom s' (l.modify n fun y => { y with f1 := s }) = calledFrom s' l
  | [], n, x, hx, _ => by simp at hx
  | y :: r, 0, x, hx, he => by
    simp only [List.getElem?_cons_zero, Option.some.injEq] at hx
    subst hx
    have h1 : ¬ (9 ≤ y.f0 ∧ y.f1 = s') := by
      rintro ⟨_, e⟩
      rw [he] at e
      rw [← e] at h0
      exact absurd h0 (by decide)
    have h2 : ¬ (9 ≤ y.f0 ∧ s = s') := fun h => hne h.2.symm
    simp only [List.modify_zero_cons, calledFrom, h1, h2]
  | y :: r, n + 1, x, hx, he => by
    simp only [List.getElem?_cons_succ] at hx
    simp only [List.modify_succ_cons, calledFrom, called_other s s' hne h0 r n x hx he]
theorem namedNo_put (s : ByteArray) (h0 : 0 < s.size) : ∀ (l : List Nod) (n : Nat) (x : Nod), l[n]? = some x → x.f1 = ⟨#[]⟩ → namedNo (l.modify n fun y => { y with f1 := s }) = namedNo l + 1
  | [], n, x, hx, _ => by simp at hx
  | y :: r, 0, x, hx, he => by
    simp only [List.getElem?_cons_zero, Option.some.injEq] at hx
    subst hx
    have h1 : ¬ 0 < y.f1.size := by rw [he]; decide
    simp [namedNo, h0, h1]
  | y :: r, n + 1, x, hx, he => by
    simp only [List.getElem?_cons_succ] at hx
    have := namedNo_put s h0 r n x hx he
    unfold namedNo at this ⊢
    simp only [List.modify_succ_cons, List.filter_cons]
    split
    · simp only [List.length_cons, this]
    · exact this
theorem size_put_le (D : DataW Unit) (h : Maps.IsMap D) (k : Lit) (d : DataW Unit) : Maps.size (D.put k d) ≤ Maps.size D + 1 := by
  obtain ⟨es, rfl⟩ := h
  show (DataW.insert (k, d) (es.filter fun p => !p.1.sameKey k)).length ≤ es.length + 1
  rw [length_insert]
  have := List.length_filter_le (fun p : Lit × DataW Unit => !p.1.sameKey k) es
  omega
theorem ownsMap_size {w : World} {k : TypeId} {R : Value → Option (DataW Unit × List MemPlace)} {b n : Nat} {D : DataW Unit} (h : w.ownsMap Tryz.prog k R b n D) : w.ownsMap Tryz.prog k R b (Maps.size D) D := by
  obtain ⟨es, clock, hb, F, hs, rfl⟩ := h
  exact ⟨es, clock, hb, F, by simp [Maps.size, length_sorted], rfl⟩

theorem RS.rename {b R Mb : Nat} {ok : Nat → Prop} {w : World} {q : PS} (h : RS b ok R Mb w q) (n : Nat) (x : Nod) (hx : q.nodes[n]? = some x) (s : ByteArray) (hs : isName s = true) (h9 : 9 ≤ x.f0) (he : x.f1 = ⟨#[]⟩) (hc : q.called s < 0) :
    ∃ (gn C : Nat) (v : Value) (m : Nat) (D : DataW Unit), w.cell? ⟨R, 1, none⟩ = some (.slice (some ⟨gn, 0, none⟩) q.nodes.length C) ∧ w.cell? ⟨gn, n * 6 + 1, none⟩ = some v ∧ w.frozen? ⟨gn, n * 6 + 1, none⟩ = false ∧ gn ≠ R ∧ w.cell? ⟨R, 2, none⟩ = some (.map (some Mb)) ∧ (w.setCell ⟨gn, n * 6 + 1, none⟩ (.string s)).ownsMap Tryz.prog 9 (plainElem Tryz.prog 3) Mb m D ∧ m < maxLen ∧ keyOf Tryz.prog 9 (.string s) = some (.string s.data.toList) ∧ plainElem (H := Unit) Tryz.prog 3 (.int .i64 (n : Int)) = some (.lit (.int .i64 n), []) ∧ (n : Int) < (q.nodes.length : Int) ∧
      Aside0 (∀ w', w'.ownsMap Tryz.prog 9 (plainElem Tryz.prog 3) Mb (m + 1) (D.put (.string s.data.toList) (.lit (.int .i64 n))) → (w.setCell ⟨gn, n * 6 + 1, none⟩ (.string s)).grownBy w' (some Mb) → RS b ok R Mb w' (q.mod n fun y => { y with f1 := s }) ∧ Fr b R Mb w w') := by
  obtain ⟨g, off, c, nv, m, D, hX⟩ := h
  obtain ⟨hs0, hs1⟩ := isName_size hs
  have hi := (List.getElem?_eq_some_iff.1 hx).1
  obtain ⟨gn, C, v3, v4, v5, hnv, hbg, c0, c1, c2, c3, c4, c5, hfz, hgl, cells, hgc⟩ := hX.node n _ hx
  have hg : w.grownBy (w.setCell ⟨gn, n * 6 + 1, none⟩ (.string s)) nv.ownBlock := by rw [hnv]; exact grown_set w ⟨gn, n * 6 + 1, none⟩ (.string s)
  have hMo : some Mb ≠ nv.ownBlock := by
    intro e
    obtain ⟨inner, ho⟩ := Kd.R_own hX.nodes
    obtain ⟨cells, hc⟩ := own_typed ho Mb e.symm
    obtain ⟨es, cl, hm, _⟩ := hX.map
    rw [hc] at hm
    cases hm
  have hgR : gn ≠ R := by
    rintro rfl
    rw [hX.blk] at hgc
    injection hgc with hgc
    injection hgc with _ e
    exact absurd e (by decide)
  have hmap := ownsMap_size (hX.map.kept hg hMo)
  have hnl := hX.nlen
  have hsz : Maps.size D ≤ 200 := by
    have h1 := hX.named.2.1
    have h2 : namedNo q.nodes ≤ q.nodes.length := List.length_filter_le _ _
    omega
  refine ⟨gn, C, _, Maps.size D, D, by rw [← hnv]; exact (blk_cell hX.blk 1).trans rfl, c1, hfz _, hgR, (blk_cell hX.blk 2).trans rfl, hmap, Nat.lt_of_le_of_lt hsz (by decide), WideMaps.keyOf_string_mk Tryz.underlying9 (Nat.le_trans hs1 (by decide)), plainElem_int Tryz.underlying3 (by simp [Lit.wf, IntKind.min, IntKind.max, IntKind.bits, IntKind.signed]; omega), by omega, ⟨fun w' hown hgr => ?_⟩⟩
  have hmod : (q.mod n fun y => { y with f1 := s }).nodes = q.nodes.set n { x with f1 := s } := by
    simp only [PS.mod, modNode, Int.toNat_natCast]
    apply List.ext_getElem?
    intro k
    rw [List.getElem?_modify, List.getElem?_set]
    by_cases hk : n = k
    · subst hk
      rw [hx]
      simp [hi]
    · simp [hk]
  have hR : kNod.R 110 (w.setCell ⟨gn, n * 6 + 1, none⟩ (.string s)) b ok (.slice (some ⟨gn, 0, none⟩) (q.nodes.set n { x with f1 := s }).length C) (q.nodes.set n { x with f1 := s }) :=
    R_field (d := kNod) (by have := hX.nodes; rw [hnv] at this; exact this) n 1 x _ (.string s) hx (by decide) (fun cs hM => by
      obtain ⟨v3, v4, v5, rfl, m3, m4, m5⟩ := PPolicyHolds.k110_openM hM
      exact PPolicyHolds.k110_mkM _ b _ { x with f1 := s } m3 m4 m5)
  have hM0 : ∃ es cl, (w.setCell ⟨gn, n * 6 + 1, none⟩ (.string s)).heap[Mb]? = some (.map es cl) := by
    obtain ⟨es, cl, hm, _⟩ := hmap
    exact ⟨es, cl, hm⟩
  obtain ⟨es0, cl0, hM0⟩ := hM0
  have hne : ∀ k cs t, (w.setCell ⟨gn, n * 6 + 1, none⟩ (.string s)).heap[k]? = some (.cells cs t (0, 0)) → some k ≠ some Mb := by
    intro k cs t hk e
    injection e with e
    subst e
    rw [hk] at hM0
    cases hM0
  have hb1 := blk_grown hX.blk hg (Kd.R_ne hX.nodes hX.blk (by decide))
  have hgl' : g < w.heap.size := by obtain ⟨cells, hgc, _⟩ := hX.tok; exact blk_lt hgc
  have htg : some g ≠ nv.ownBlock := by obtain ⟨cells, hgc, _⟩ := hX.tok; exact Kd.R_ne hX.nodes hgc (by decide)
  have htok := hX.tok.same (hg.block g hgl' htg)
  obtain ⟨tcells, htc, _⟩ := htok
  have hlow := hX.low
  have hhigh := hX.high
  refine ⟨⟨g, off, c, nv, Maps.size D + 1, _, blk_grown hb1 hgr (hne _ _ _ hb1), hX.cap, (hX.tok.same (hg.block g hgl' htg)).same (hgr.block g (blk_lt htc) (hne _ _ _ htc)), ?_, hown, ?_, ?_, hX.good, ?_, hX.low, ?_, hX.high⟩, (Fr.of_grown hX.nodes hg).trans ?_⟩
  · rw [hmod]
    rw [List.length_set] at hR
    rw [hnv]
    refine Kd.R_mono (Kd.R_move (Kd.R_bound hR) (fun k hk => ?_)) (fun k hk => hk.1)
    · obtain ⟨_, _, hlt, t, ht, cs, hcs⟩ := hk
      exact hgr.block k hlt (hne _ _ _ hcs)
  · rw [(mod_len q n _).2]
    have h1 := hX.named.2.1
    have h2 := namedNo_put s hs0 q.nodes n x hx he
    have h3 : namedNo (q.nodes.modify n fun y => { y with f1 := s }) ≤ (q.nodes.modify n fun y => { y with f1 := s }).length := List.length_filter_le _ _
    rw [List.length_modify] at h3
    omega
  · refine ⟨hX.named.1.put _ _, ?_, fun s' hs' z => ?_⟩
    · have h1 := hX.named.2.1
      have h2 : namedNo (q.mod n fun y => { y with f1 := s }).nodes = namedNo q.nodes + 1 := namedNo_put s hs0 q.nodes n x hx he
      have := size_put_le D hX.named.1 (.string s.data.toList) (.lit (.int .i64 n))
      omega
    · by_cases hss : s' = s
      · subst hss
        have e1 : calledFrom s' (q.mod n fun y => { y with f1 := s' }).nodes = n := called_put s' q.nodes n x hx h9 hc
        rw [e1, if_neg (by omega)]
        exact Maps.atKey_put_same hX.named.1 (by trivial) _ _
      · have e1 : calledFrom s' (q.mod n fun y => { y with f1 := s }).nodes = calledFrom s' q.nodes := called_other s s' hss hs' q.nodes n x hx he
        rw [e1, Maps.atKey_put_other (fun e => hss (by
          injection e with e
          exact ByteArray.ext (Array.ext' e)))]
        exact hX.named.2.2 s' hs' z
  · rw [(mod_len q n _).2]; exact hnl
  · refine (hX.laid.same (w' := w.setCell ⟨gn, n * 6 + 1, none⟩ (.string s)) hg.size (fun k hk => Below.heap_setCell _ _ _ _ (by simp; omega))).same hgr.size (fun k hk => hgr.block k (by have := hX.laid.size; have := hg.size; omega) (fun e => by injection e with e; omega))
  · exact ⟨hgr.os, hgr.tape, hgr.output, hgr.size, fun k hk _ h2 _ => hgr.block k hk (fun e => h2 (Option.some.inj e))⟩
end Go.Proofs.YtkafikdjhiienaaGreatDoor

/- defd -/
namespace Go.Proofs.YtkafikdjhiienaaGreatDoor
open Go.RowKit Go.Proofs.YtkafikdjhiienaaGreatDoorW.PrintWords

theorem putNum {W : World} {b : Nat} (z : Int) (x : Nod) (cs : List Value) (ok' : Nat → Prop) (hM : kNod.M W b ok' x cs) :
    kNod.M W b ok' { x with f2 := z } (cs.set 2 (.int .i64 z)) := by
  obtain ⟨v3, v4, v5, rfl, m3, m4, m5⟩ := PPolicyHolds.k110_openM hM
  exact PPolicyHolds.k110_mkM W b ok' { x with f2 := z } m3 m4 m5

def defRest (T : Bool → List Int → PS → PR Int) (n k : Int) (q : PS) : PR Unit :=
  if k = 9 then match q.must sLt with
    | .error e => .error e
    | .ok (_, q) => pSyms n q.l.length [] q
  else if k = 10 then match isNumber q.tok.f1 with
    | none => q.fail 4
    | some z => if q.tok.f0 ≠ 1 then q.fail 4 else .ok ((), q.next.mod n fun y => { y with f2 := z })
  else match q.must sCo with
    | .error e => .error e
    | .ok (_, q) => pFields T n q.l.length [] q
theorem pDefined_ok (T : Bool → List Int → PS → PR Int) (n k : Int) (p : PS) (s : ByteArray) (q : PS) (h : p.name (fun s => decide (0 ≤ p.called s)) = .ok (s, q)) : pDefined T n k p = defRest T n k (q.mod n fun y => { y with f1 := s }) := by
  unfold pDefined; rw [h]; rfl

set_option maxRecDepth 100000 in
set_option maxHeartbeats 4000000 in
theorem defined_calls {b d : Nat} (HT : TypedOK b d) (HG : Grows (pTyped d)) {ok : Nat → Prop} {R Mb : Nat} {w : World} {p : PS} (hfr : ∀ k, w.heap.size ≤ k → ok k) (h : RS b ok R Mb w p) (n : Nat) (k : Int) (hk : k = 9 ∨ k = 10 ∨ k = 11) (hn : p.nodes[n]? = some (newNod k)) (deep : Int) (h0 : 0 ≤ deep) (h1 : deep ≤ 19) (hd : (20 : Int) - d = deep + 1) :
    Calls Tryz.prog 86 #[.pointer (some ⟨R, 0, none⟩), .int .i64 n, .int .i64 k, .int .i64 deep] w (Post b ok R Mb w (fun _ => .tuple #[]) (pDefined (pTyped d) n k p)) := by
  have hA : Below w.heap.size w (w.alloc (.cells #[.pointer (some ⟨R, 0, none⟩)] 94)) := (Below.refl _ _).alloc (Nat.le_refl _) _
  have hsA := h.fr hA
  have hbx : (w.alloc (.cells #[.pointer (some ⟨R, 0, none⟩)] 94)).heap[w.heap.size]? = some (.cells #[.pointer (some ⟨R, 0, none⟩)] 94 (0, 0)) := World.alloc_heap_new _ _
  have hc0 : (w.alloc (.cells #[.pointer (some ⟨R, 0, none⟩)] 94)).cell? ⟨w.heap.size, 0, none⟩ = some (.pointer (some ⟨R, 0, none⟩)) := (blk_cell hbx 0).trans rfl
  have HN := name_reads hsA 119 #[.pointer (some ⟨w.heap.size, 0, none⟩)] (fun s => decide (0 ≤ p.called s)) (fun _ _ => by go_simp) (fun W s hW hs => defined1_calls (hsA.fr hW) w.heap.size ((hW.cell (p := ⟨w.heap.size, 0, none⟩) (by simp)).trans hc0) s hs)
  replace hfr := Aside0.mk hfr
  replace HT := Aside0.mk HT
  replace HG := Aside0.mk HG
  replace hd := Aside0.mk hd
  replace hA := Aside0.mk hA
  have hsA := Aside0.mk hsA
  have hbxA := Aside0.mk hbx
  clear h hbx
  cases hr : p.name (fun s => decide (0 ≤ p.called s)) with
  | error e =>
    rw [hr] at HN
    have E : Aside0 (pDefined (pTyped d) n k p = .error (e.1, e.2)) := ⟨by unfold pDefined; rw [hr]⟩
    replace HN := Aside0.mk HN
    clear hr hc0
    go_enter Tryz.func86, Tryz.ntmps86
    go_wp2_with (fail)
    refine HN.out.mono ?_
    rintro _ w1 ⟨rfl, hf⟩
    exact ⟨rfl, Post.bad E.out ((Fr.of_below hA.out).trans hf)⟩
  | ok r =>
    obtain ⟨s, q⟩ := r
    obtain ⟨nl1, nl2, -, nl3, nl4⟩ := name_len hr
    rw [hr] at HN
    replace HN := Aside0.mk HN
    rw [pDefined_ok _ _ _ _ _ _ hr]
    have hx : q.nodes[n]? = some (newNod k) := by rw [nl2]; exact hn
    have hcl : q.called s < 0 := by
      have : decide (0 ≤ p.called s) = false := nl4
      have e : q.called s = p.called s := by unfold PS.called; rw [nl2]
      rw [e]
      simpa using this
    replace hcl := Aside0.mk hcl
    replace nl3 := Aside0.mk nl3
    have hk9 : Aside0 (9 ≤ (newNod k).f0) := ⟨by show 9 ≤ k; omega⟩
    replace hx := Aside0.mk hx
    clear hr hc0 nl1 nl2 nl4 hn
    generalize hspec : defRest (pTyped d) n k (q.mod n fun y => { y with f1 := s }) = spec
    replace hspec := Aside0.mk hspec
    rcases hk with rfl | rfl | rfl
    · go_enter Tryz.func86, Tryz.ntmps86
      go_wp2_with (fail)
      refine HN.out.mono ?_
      rintro _ w1 ⟨rfl, hs1, hf1⟩
      have hbx1 := hf1.cell hsA.out hbxA.out (by decide)
      have hc1 : w1.cell? ⟨w.heap.size, 0, none⟩ = some (.pointer (some ⟨R, 0, none⟩)) := (blk_cell hbx1 0).trans rfl
      have hf01 := Aside0.mk ((Fr.of_below hA.out).trans hf1)
      obtain ⟨gn, C, v, m, D, r1, r2, r3, hgR, r4, hown, hmx, hkey, hpe, hnI, fin⟩ := hs1.rename n _ hx.out s nl3.out hk9.out rfl hcl.out
      replace hs1 := Aside0.mk hs1
      replace hbx1 := Aside0.mk hbx1
      clear hf1 HN
      go_wp2_with (first | (at_mapUpdate; refine wpList_mapUpdate_own _ rfl _ _ _ 95 rfl 9 3 (Maps.string_keyed Tryz.underlying9) Tryz.underlying95 _ Mb m D rfl hown hmx _ _ _ rfl rfl hkey _ [] hpe ?_; intro w2 hown2 hgrow2; have hfin := fin.out w2 hown2 hgrow2; have hbx2 := hfin.2.cell hs1.out hbx1.out (by decide); have hc2 : w2.cell? ⟨w.heap.size, 0, none⟩ = some (.pointer (some ⟨R, 0, none⟩)) := (blk_cell hbx2 0).trans rfl; replace hbx2 := Aside0.mk hbx2; have hs2 := Aside0.mk hfin.1; have hf02 := Aside0.mk (hf01.out.trans hfin.2); obtain ⟨g, off, ln, cc, xx, yy, d0, dc, d1, d2, d3, d4, d5, dsz, _, dR, dg⟩ := hfin.1.tok; clear hown2 hgrow2 fin hfin hown hmx hkey hpe r1 r2 r3 r4 hgR hnI))
      have hnQ : n < (q.mod n fun y => { y with f1 := s }).nodes.length := by rw [(mod_len q n _).2]; exact (List.getElem?_eq_some_iff.1 hx.out).1
      replace hs2 := hs2.out
      clear hs1 hbx1 hc1 hf01 hx hcl nl3 hk9
      generalize (q.mod n fun y => { y with f1 := s }) = Q at hs2 hnQ hspec d1 d2 d3 dsz ⊢
      have HC : Calls Tryz.prog 120 #[.pointer (some ⟨R, 0, none⟩), .int .i64 n] w2 (Post b ok R Mb w2 (fun _ => .tuple #[]) (defRest (pTyped d) n 9 Q)) := syms_calls (fun i hi => hfr.out i (Nat.le_trans hf02.out.size hi)) hs2 n hnQ
      rw [hspec.out] at HC
      replace HC := Aside0.mk HC
      clear hs2 hspec d0 dc d1 d2 d3 d4 d5 dsz dR dg
      cases spec with
      | error e =>
        (refine HC.out.mono ?_; rintro _ w3 ⟨rfl, hf3⟩; go_wp2)
        exact ⟨rfl, rfl, hf02.out.trans hf3⟩
      | ok r =>
        (refine HC.out.mono ?_; rintro _ w3 ⟨rfl, hs3, hf3⟩; replace hs3 := Aside0.mk hs3; go_wp2)
        go_end0
        exact ⟨rfl, hs3.out, hf02.out.trans hf3⟩
    · go_enter Tryz.func86, Tryz.ntmps86
      go_wp2_with (fail)
      refine HN.out.mono ?_
      rintro _ w1 ⟨rfl, hs1, hf1⟩
      have hbx1 := hf1.cell hsA.out hbxA.out (by decide)
      have hc1 : w1.cell? ⟨w.heap.size, 0, none⟩ = some (.pointer (some ⟨R, 0, none⟩)) := (blk_cell hbx1 0).trans rfl
      have hf01 := Aside0.mk ((Fr.of_below hA.out).trans hf1)
      obtain ⟨gn, C, v, m, D, r1, r2, r3, hgR, r4, hown, hmx, hkey, hpe, hnI, fin⟩ := hs1.rename n _ hx.out s nl3.out hk9.out rfl hcl.out
      replace hs1 := Aside0.mk hs1
      replace hbx1 := Aside0.mk hbx1
      clear hf1 HN
      go_wp2_with (first | (at_mapUpdate; refine wpList_mapUpdate_own _ rfl _ _ _ 95 rfl 9 3 (Maps.string_keyed Tryz.underlying9) Tryz.underlying95 _ Mb m D rfl hown hmx _ _ _ rfl rfl hkey _ [] hpe ?_; intro w2 hown2 hgrow2; have hfin := fin.out w2 hown2 hgrow2; have hbx2 := hfin.2.cell hs1.out hbx1.out (by decide); have hc2 : w2.cell? ⟨w.heap.size, 0, none⟩ = some (.pointer (some ⟨R, 0, none⟩)) := (blk_cell hbx2 0).trans rfl; replace hbx2 := Aside0.mk hbx2; have hs2 := Aside0.mk hfin.1; have hf02 := Aside0.mk (hf01.out.trans hfin.2); obtain ⟨g, off, ln, cc, xx, yy, d0, dc, d1, d2, d3, d4, d5, dsz, _, dR, dg⟩ := hfin.1.tok; clear hown2 hgrow2 fin hfin hown hmx hkey hpe r1 r2 r3 r4 hgR hnI))
      have hnQ : n < (q.mod n fun y => { y with f1 := s }).nodes.length := by rw [(mod_len q n _).2]; exact (List.getElem?_eq_some_iff.1 hx.out).1
      replace hs2 := hs2.out
      clear hs1 hbx1 hc1 hf01 hx hcl nl3 hk9
      generalize (q.mod n fun y => { y with f1 := s }) = Q at hs2 hnQ hspec d1 d2 d3 dsz ⊢
      have hspec2 : (match isNumber Q.tok.f1 with
        | none => Q.fail 4
        | some z => if Q.tok.f0 ≠ 1 then Q.fail 4 else .ok ((), Q.next.mod n fun y => { y with f2 := z }) : PR Unit) = spec := hspec.out
      clear hspec
      have HNu := number_calls Q.tok.f1 w2 (by omega)
      cases hz : isNumber Q.tok.f1 with
      | none =>
        rw [hz, show numV none = .tuple #[.int .i64 0, .bool false] from rfl] at HNu
        rw [hz] at hspec2
        have E : Aside0 (spec = .error (Q.tok.f2, 4)) := ⟨hspec2.symm⟩
        replace HNu := Aside0.mk HNu
        replace hs2 := Aside0.mk hs2
        clear hspec2 hz
        refine HNu.out.mono ?_
        rintro _ w3 ⟨rfl, hb3⟩
        have hs3 := hs2.out.fr hb3
        have hc3 : w3.cell? ⟨w.heap.size, 0, none⟩ = some (.pointer (some ⟨R, 0, none⟩)) := (blk_cell ((hb3.block _ (blk_lt hbx2.out)).trans hbx2.out) 0).trans rfl
        have HF := Aside0.mk (fail_calls hs3 4)
        have hf03 := Aside0.mk (hf02.out.trans (Fr.of_below hb3))
        obtain ⟨g, off, ln, cc, xx, yy, d0, dc, d1, d2, d3, d4, d5, dsz, _, dR, dg⟩ := hs3.tok
        clear hs3 hb3
        by_cases h1 : Q.tok.f0 = 1
        · have hb : (Q.tok.f0 != 1) = false := by simp [h1]
          replace h1 := Aside0.mk h1
          go_wp2_with (go_at_call 60; refine HF.out.mono ?_; rintro _ w4 ⟨rfl, hd4⟩)
          exact ⟨rfl, Post.bad E.out (hf03.out.trans (Fr.of_drawn hd4))⟩
        · have hb : (Q.tok.f0 != 1) = true := by simp [h1]
          replace h1 := Aside0.mk h1
          go_wp2_with (go_at_call 60; refine HF.out.mono ?_; rintro _ w4 ⟨rfl, hd4⟩)
          exact ⟨rfl, Post.bad E.out (hf03.out.trans (Fr.of_drawn hd4))⟩
      | some z =>
        rw [hz, show numV (some z) = .tuple #[.int .i64 z, .bool true] from rfl] at HNu
        rw [hz] at hspec2
        replace HNu := Aside0.mk HNu
        replace hs2 := Aside0.mk hs2
        clear hz
        simp only at hspec2
        replace hspec2 := Aside0.mk hspec2
        refine HNu.out.mono ?_
        rintro _ w3 ⟨rfl, hb3⟩
        have hs3 := hs2.out.fr hb3
        have hbx3 := (hb3.block _ (blk_lt hbx2.out)).trans hbx2.out
        have hc3 : w3.cell? ⟨w.heap.size, 0, none⟩ = some (.pointer (some ⟨R, 0, none⟩)) := (blk_cell hbx3 0).trans rfl
        have hf03 := Aside0.mk (hf02.out.trans (Fr.of_below hb3))
        by_cases h1 : Q.tok.f0 = 1
        · have E : Aside0 (spec = .ok ((), Q.next.mod n fun y => { y with f2 := z })) := ⟨by rw [← hspec2.out, if_neg (by simp [h1])]⟩
          have hb : (Q.tok.f0 != 1) = false := by simp [h1]
          have h3 : Q.tok.f0 ≠ 3 := by omega
          have hRb : R ≠ w.heap.size := by
            rintro rfl
            obtain ⟨_, _, _, _, _, _, hx⟩ := hs3
            have := hx.blk
            rw [hbx3] at this
            injection this with this
            injection this with _ e
            exact absurd e (by decide)
          obtain ⟨g, off, ln, cc, xx, yy, d0, dc, d1, d2, d3, d4, d5, dsz, _, dR, dg⟩ := hs3.tok
          replace hs3 := Aside0.mk hs3
          replace h1 := Aside0.mk h1
          replace h3 := Aside0.mk h3
          replace hb3 := Aside0.mk hb3
          clear hbx3
          go_wp2_with (fail)
          clear d0 dc d1 d2 d3 d4 d5 dsz dR dg
          have hD : Below w3.heap.size w3 w3.drew := (Below.refl _ _).drew
          obtain ⟨g, off, ln, cc, xx, yy, d0, df, dc1, dc, dl, d1, d2, d3, d4, d5, hs4⟩ := (hs3.out.fr hD).step h3.out
          have hcD : w3.drew.cell? ⟨w.heap.size, 0, none⟩ = some (.pointer (some ⟨R, 0, none⟩)) := hc3
          obtain ⟨gn4, C4, v4, e1, e2, e3, e4, e5, e6, e7, e8, fin⟩ := hs4.put n 2 hnQ (by decide)
          have hfin := fin _ (fun y => { y with f2 := z }) (.int .i64 z) (Below.refl _ _) (fun x cs ok' _ hM => putNum z x cs ok' hM) (fun D hD => hD.mod (fun _ => ⟨rfl, rfl⟩))
          replace hfin := Aside0.mk hfin
          have hf04 := Aside0.mk ((hf03.out.trans (Fr.of_below hD)).setR 0 (.slice (some ⟨g, off + 3, none⟩) ln (cc - 1)))
          have hi0 : (0 : Int) ≤ (n : Int) := by omega
          have hi1 : (n : Int) < (Q.next.nodes.length : Int) := by have : n < Q.next.nodes.length := hnQ; omega
          have hcE : (w3.drew.setCell ⟨R, 0, none⟩ (.slice (some ⟨g, off + 3, none⟩) ln (cc - 1))).cell? ⟨w.heap.size, 0, none⟩ = some (.pointer (some ⟨R, 0, none⟩)) := (World.cell?_setCell_far _ _ _ _ hRb).trans hcD
          clear hs3 hs4 fin hD
          go_region
          all_goals rw [show w3.drew.setCell ⟨R, 0, none⟩ (.slice (some ⟨g, off + 3, none⟩) ln (cc - 1)) = (w3.setCell ⟨R, 0, none⟩ (.slice (some ⟨g, off + 3, none⟩) ln (cc - 1))).drew from rfl] at e1 e2 e3 e4 e5 e6 e8 hfin hf04 hcE
          all_goals generalize (w3.setCell ⟨R, 0, none⟩ (.slice (some ⟨g, off + 3, none⟩) ln (cc - 1))).drew = W4 at e1 e2 e3 e4 e5 e6 e8 hfin hf04 hcE ⊢
          all_goals clear d0 d1 d2 d3 d4 d5 df hcD hc3
          all_goals go_wp2_with (fail)
          all_goals go_end0
          all_goals exact Post.good (x := ()) E.out hfin.out.1 (hf04.out.trans hfin.out.2)
        · have E : Aside0 (spec = .error (Q.tok.f2, 4)) := ⟨by rw [← hspec2.out, if_pos h1]; rfl⟩
          have hb : (Q.tok.f0 != 1) = true := by simp [h1]
          replace h1 := Aside0.mk h1
          have HF := Aside0.mk (fail_calls hs3 4)
          obtain ⟨g, off, ln, cc, xx, yy, d0, dc, d1, d2, d3, d4, d5, dsz, _, dR, dg⟩ := hs3.tok
          clear hs3 hb3
          go_wp2_with (go_at_call 60; refine HF.out.mono ?_; rintro _ w4 ⟨rfl, hd4⟩)
          exact ⟨rfl, Post.bad E.out (hf03.out.trans (Fr.of_drawn hd4))⟩
    · go_enter Tryz.func86, Tryz.ntmps86
      go_wp2_with (fail)
      refine HN.out.mono ?_
      rintro _ w1 ⟨rfl, hs1, hf1⟩
      have hbx1 := hf1.cell hsA.out hbxA.out (by decide)
      have hc1 : w1.cell? ⟨w.heap.size, 0, none⟩ = some (.pointer (some ⟨R, 0, none⟩)) := (blk_cell hbx1 0).trans rfl
      have hf01 := Aside0.mk ((Fr.of_below hA.out).trans hf1)
      obtain ⟨gn, C, v, m, D, r1, r2, r3, hgR, r4, hown, hmx, hkey, hpe, hnI, fin⟩ := hs1.rename n _ hx.out s nl3.out hk9.out rfl hcl.out
      replace hs1 := Aside0.mk hs1
      replace hbx1 := Aside0.mk hbx1
      clear hf1 HN
      go_wp2_with (first | (at_mapUpdate; refine wpList_mapUpdate_own _ rfl _ _ _ 95 rfl 9 3 (Maps.string_keyed Tryz.underlying9) Tryz.underlying95 _ Mb m D rfl hown hmx _ _ _ rfl rfl hkey _ [] hpe ?_; intro w2 hown2 hgrow2; have hfin := fin.out w2 hown2 hgrow2; have hbx2 := hfin.2.cell hs1.out hbx1.out (by decide); have hc2 : w2.cell? ⟨w.heap.size, 0, none⟩ = some (.pointer (some ⟨R, 0, none⟩)) := (blk_cell hbx2 0).trans rfl; replace hbx2 := Aside0.mk hbx2; have hs2 := Aside0.mk hfin.1; have hf02 := Aside0.mk (hf01.out.trans hfin.2); obtain ⟨g, off, ln, cc, xx, yy, d0, dc, d1, d2, d3, d4, d5, dsz, _, dR, dg⟩ := hfin.1.tok; clear hown2 hgrow2 fin hfin hown hmx hkey hpe r1 r2 r3 r4 hgR hnI))
      have hnQ : n < (q.mod n fun y => { y with f1 := s }).nodes.length := by rw [(mod_len q n _).2]; exact (List.getElem?_eq_some_iff.1 hx.out).1
      replace hs2 := hs2.out
      clear hs1 hbx1 hc1 hf01 hx hcl nl3 hk9
      generalize (q.mod n fun y => { y with f1 := s }) = Q at hs2 hnQ hspec d1 d2 d3 dsz ⊢
      have HC : Calls Tryz.prog 122 #[.pointer (some ⟨R, 0, none⟩), .int .i64 n, .int .i64 deep] w2 (Post b ok R Mb w2 (fun _ => .tuple #[]) (defRest (pTyped d) n 11 Q)) := fields_calls HT.out HG.out (fun i hi => hfr.out i (Nat.le_trans hf02.out.size hi)) hs2 n hnQ deep h0 h1 hd.out
      rw [hspec.out] at HC
      replace HC := Aside0.mk HC
      clear hs2 hspec d0 dc d1 d2 d3 d4 d5 dsz dR dg
      cases spec with
      | error e =>
        (refine HC.out.mono ?_; rintro _ w3 ⟨rfl, hf3⟩; go_wp2)
        exact ⟨rfl, rfl, hf02.out.trans hf3⟩
      | ok r =>
        (refine HC.out.mono ?_; rintro _ w3 ⟨rfl, hs3, hf3⟩; replace hs3 := Aside0.mk hs3; go_wp2)
        go_end0
        exact ⟨rfl, hs3.out, hf02.out.trans hf3⟩
end Go.Proofs.YtkafikdjhiienaaGreatDoor
