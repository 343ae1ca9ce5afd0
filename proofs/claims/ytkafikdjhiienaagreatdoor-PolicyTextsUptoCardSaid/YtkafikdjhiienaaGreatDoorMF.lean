/- The policies: contracts of the layer's functions; what a row's laid variables give. -/
import Derived.Test.YtkafikdjhiienaaGreatDoorME
import Derived.Test.YtkafikdjhiienaaGreatDoorMD
import Derived.WideKeyEntry
import Derived.Deep.LoopGhost
import Derived.StillTailTactics
import Derived.Deep.RegionHeld3
import Derived.BigQuiet
import Derived.Test.YtkafikdjhiienaaGreatDoorCards
import Derived.Test.YtkafikdjhiienaaGreatDoorTie
import Derived.WalkKit
import Derived.ProofKit
import Derived.OpenShut
import Derived.SliceStrings
import Derived.Deep.DeepHandedRow
import Derived.Lib.LaidTab
set_option linter.unusedVariables false
set_option linter.unusedSimpArgs false
/- res4 -/
namespace Go.Proofs.YtkafikdjhiienaaGreatDoor
open Go.RowKit Go.Proofs.YtkafikdjhiienaaGreatDoorW.PrintWords

theorem setBlock_two (w : World) (b : Nat) (o o' : Obj) : ChangeMaps.setBlock (ChangeMaps.setBlock w b o) b o' = ChangeMaps.setBlock w b o' := by
  unfold ChangeMaps.setBlock
  simp
theorem setBlock_at {w : World} {b : Nat} {o o' : Obj} (h : w.heap[b]? = some o) : (ChangeMaps.setBlock w b o').heap[b]? = some o' := by
  have := blk_lt h
  simp [ChangeMaps.setBlock, this]
theorem setBlock_grown (w : World) (b : Nat) (o : Obj) : w.grownBy (ChangeMaps.setBlock w b o) (some b) := ⟨rfl, rfl, rfl, by simp [ChangeMaps.setBlock], fun k _ hk => by
  have : k ≠ b := fun e => hk (by rw [e])
  simp [ChangeMaps.setBlock, Array.getElem?_setIfInBounds, this.symm]⟩

set_option maxRecDepth 100000 in
/-- 'x.not[pair{r, k}] = true', as the translation has it: an entry, then its store. -/
theorem NotIs.strike {w : World} {Mb m : Nat} {N : Pairs} (h : NotIs w Mb m N) (hm : m < maxLen) {r k : Int} (hr : (Lit.int .i64 r).wf = true) (hk : (Lit.int .i64 k).wf = true) :
    ∃ (v0 : Value) (st : Nat) (w1 w2 : World), (Instr.mapEntry 149 (.map (some Mb)) (pairV r k)).run Tryz.prog w = .ok (.tuple #[v0, .int .i64 st]) w1 ∧
      (Instr.entryStore 149 (.map (some Mb)) (.int .i64 st) (.bool true)).run Tryz.prog w1 = .ok () w2 ∧ NotIs w2 Mb (m + 1) (N ++ [(r, k)]) ∧ w.grownBy w1 (some Mb) ∧ w.grownBy w2 (some Mb) := by
  obtain ⟨D, hown, hD, hat⟩ := h
  have hup := hown.update keyedPair Tryz.underlying149 hm (keyOf_pair hr hk) (plainElem_bool Tryz.underlying4 true)
  obtain ⟨w', hrun', hown', hgr'⟩ := hup
  obtain ⟨es, clock, hb, F, hs, rfl⟩ := hown
  obtain ⟨v0, st, es1, clock1, h1, _, h2⟩ := WideElems.entry_then_store lawPair Tryz.underlying149 zeroBool hb F (keyOf_pair hr hk)
  obtain ⟨es', clock', h3, h4⟩ := h2 (ChangeMaps.setBlock w Mb (.map es1 clock1)) (.bool true) (setBlock_at hb)
  rw [setBlock_two] at h3
  have hw : ChangeMaps.setBlock w Mb (.map es' clock') = w' := by
    rw [h4] at hrun'
    injection hrun'
  refine ⟨v0, st, _, _, h1, h3, ?_, setBlock_grown _ _ _, setBlock_grown _ _ _⟩
  rw [hw]
  refine ⟨_, hown', hD.put _ _, fun r' k' hr' hk' z => ?_⟩
  by_cases he : (r', k') = (r, k)
  · injection he with e1 e2
    subst e1 e2
    rw [Maps.atKey_put_same hD (by trivial)]
    simp
  · rw [Maps.atKey_put_other (fun e => he (by obtain ⟨a, b⟩ := pairKey_inj hr' hk' hr hk e; rw [a, b])), hat r' k' hr' hk']
    have : (N ++ [(r, k)]).contains (r', k') = N.contains (r', k') := by
      rw [List.contains_eq_any_beq, List.contains_eq_any_beq, List.any_append]
      simp only [List.any_cons, List.any_nil, Bool.or_false]
      have : ((r', k') == (r, k)) = false := by simpa using he
      rw [this, Bool.or_false]
    rw [this]

/-- The relation, and the two boxes that hold the schemas. -/
structure RW (w wr : World) (X Mb : Nat) (A1 : Option Addr) (c1 : Nat) (o1 : List Nod) (A2 : Option Addr) (c2 : Nat) (o2 : List Nod) (N : Pairs) : Prop where
  rel : RelIs wr X Mb N.length A1 c1 o1 A2 c2 o2 N
  bel : Below w.heap.size w wr
  b0 : wr.heap[w.heap.size]? = some (.cells #[.slice A1 o1.length c1] 54 (0, 0))
  b1 : wr.heap[w.heap.size + 1]? = some (.cells #[.slice A2 o2.length c2] 54 (0, 0))
  base1 : kNod.C w A1 o1.length o1
  base2 : kNod.C w A2 o2.length o2
  new : w.heap.size ≤ Mb
section
variable {w wr : World} {X Mb : Nat} {A1 : Option Addr} {c1 : Nat} {o1 : List Nod} {A2 : Option Addr} {c2 : Nat} {o2 : List Nod} {N : Pairs}
theorem RW.below {w' : World} (h : RW w wr X Mb A1 c1 o1 A2 c2 o2 N) (hb : Below wr.heap.size wr w') : RW w w' X Mb A1 c1 o1 A2 c2 o2 N :=
  ⟨h.rel.below hb, below_of h.bel hb, (hb.block _ (blk_lt h.b0)).trans h.b0, (hb.block _ (blk_lt h.b1)).trans h.b1, h.base1, h.base2, h.new⟩
theorem RW.strike (h : RW w wr X Mb A1 c1 o1 A2 c2 o2 N) (hN : N.length < maxLen) {r k : Int} (hr : (Lit.int .i64 r).wf = true) (hk : (Lit.int .i64 k).wf = true) :
    ∃ (v0 : Value) (st : Nat) (w1 w2 : World), (Instr.mapEntry 149 (.map (some Mb)) (pairV r k)).run Tryz.prog wr = .ok (.tuple #[v0, .int .i64 st]) w1 ∧
      (Instr.entryStore 149 (.map (some Mb)) (.int .i64 st) (.bool true)).run Tryz.prog w1 = .ok () w2 ∧ RW w w2 X Mb A1 c1 o1 A2 c2 o2 (N ++ [(r, k)]) := by
  obtain ⟨v0, st, w1, w2, e1, e2, hN2, g1, g2⟩ := h.rel.map.strike hN hr hk
  refine ⟨v0, st, w1, w2, e1, e2, ?_⟩
  have hM : ∃ es cl, wr.heap[Mb]? = some (.map es cl) := by
    obtain ⟨_, ⟨es, cl, hm, _⟩, _⟩ := h.rel.map
    exact ⟨es, cl, hm⟩
  obtain ⟨es, cl, hM⟩ := hM
  have hne : ∀ {j : Nat} {cs : Array Value} {t : Nat}, wr.heap[j]? = some (.cells cs t (0, 0)) → some j ≠ some Mb := by
    intro j cs t hj e
    injection e with e
    subst e
    rw [hj] at hM
    cases hM
  have hbel : Below w.heap.size w w2 := h.bel.grown g2 h.bel.size (fun j hj => by injection hj with hj; subst hj; exact h.new)
  refine ⟨⟨blk_grown h.rel.blk g2 (hne h.rel.blk), Kd.C_below h.base1 hbel, Kd.C_below h.base2 hbel, by simpa using hN2⟩, hbel, blk_grown h.b0 g2 (hne h.b0), blk_grown h.b1 g2 (hne h.b1), h.base1, h.base2, h.new⟩
end
def OutRel (o1 o2 : List Nod) (fin : Pairs) (f : Nat) (ag : Bool) (N : Pairs) : Prop :=
  Grid o1.length o2.length N ∧ (ag = true → relR o1 o2 f N = fin ∧ o1.length * o2.length + 1 ≤ N.length + f) ∧ (ag = false → N = fin)
theorem rowR_succ (o1 o2 : List Nod) (i m k : Nat) (st : Pairs × Bool) : rowR o1 o2 i (m + 1) k st = rowR o1 o2 i m (k + 1) (stepR o1 o2 i k st) := rfl
theorem sweepR_succ (o1 o2 : List Nod) (m i : Nat) (st : Pairs × Bool) : sweepR o1 o2 (m + 1) i st = sweepR o1 o2 m (i + 1) (rowR o1 o2 i o2.length 0 st) := rfl
theorem OutRel.round {o1 o2 : List Nod} {fin : Pairs} {f : Nat} {N : Pairs} (h : OutRel o1 o2 fin f true N) : ∃ f', f = f' + 1 ∧ ∀ st, sweepR o1 o2 o1.length 0 (N, false) = st → OutRel o1 o2 fin f' st.2 st.1 := by
  obtain ⟨hg, h1, _⟩ := h
  obtain ⟨h1, h2⟩ := h1 rfl
  have hle := hg.le
  obtain ⟨f', rfl⟩ : ∃ f', f = f' + 1 := ⟨f - 1, by omega⟩
  refine ⟨f', rfl, fun st hst => ?_⟩
  obtain ⟨a, b, c⟩ := sweep_good o1 o2 (n := o1.length) o1.length 0 (N, false) (by omega) hg
  rw [hst] at a b c
  have h3 : (if st.2 = true then relR o1 o2 f' st.1 else st.1) = fin := by rw [← h1, relR, hst]
  refine ⟨a, fun e => ?_, fun e => ?_⟩
  · rw [if_pos e] at h3
    refine ⟨h3, ?_⟩
    rcases c e with c | c
    · cases c
    · simp only at c; omega
  · rw [if_neg (by rw [e]; simp)] at h3
    exact h3
theorem Grid.small {n m : Nat} {N : Pairs} (h : Grid n m N) (hn : n ≤ 200) (hm : m ≤ 200) : N.length < maxLen := by
  have h1 := h.le
  have h2 := Nat.mul_le_mul hn hm
  unfold maxLen
  omega
def yOf (b : Bool) : Int := if b = true then 0 else 1
/-- What 'related' comes to. -/
def RelatedPost (w : World) (A1 : Option Addr) (c1 : Nat) (o1 : List Nod) (A2 : Option Addr) (c2 : Nat) (o2 : List Nod) (e : Ending) (w' : World) : Prop :=
  if (showSpec o1).isSome = true ∧ (showSpec o2).isSome = true then ∃ X Mb, e = .returned (.pointer (some ⟨X, 0, none⟩)) ∧ RelIs w' X Mb (relOf o1 o2).length A1 c1 o1 A2 c2 o2 (relOf o1 o2) ∧ Below w.heap.size w w'
  else e = .returned (.pointer none) ∧ Below w.heap.size w w'

set_option maxRecDepth 100000 in
set_option maxHeartbeats 8000000 in
theorem related_calls {o1 o2 : List Nod} (s1 : SchemaOk o1) (s2 : SchemaOk o2) {A1 A2 : Option Addr} {c1 c2 : Nat} {w : World} (hL : LaidAt w) (h1 : kNod.C w A1 o1.length o1) (h2 : kNod.C w A2 o2.length o2) :
    Calls Tryz.prog 87 #[.agg #[.slice A1 o1.length c1], .agg #[.slice A2 o2.length c2]] w (RelatedPost w A1 c1 o1 A2 c2 o2) := by
  have hA : Below w.heap.size w ((w.alloc (.cells #[.slice A1 o1.length c1] 54)).alloc (.cells #[.slice A2 o2.length c2] 54)) := ((Below.refl _ _).alloc (Nat.le_refl _) _).alloc (by simp) _
  have g0 := two_b w (.cells #[.slice A1 o1.length c1] 54) (.cells #[.slice A2 o2.length c2] 54)
  have g1 := two_a w (.cells #[.slice A1 o1.length c1] 54) (.cells #[.slice A2 o2.length c2] 54)
  have HS1 : Aside0 (∀ W, Below w.heap.size w W → Calls Tryz.prog 56 #[.agg #[.slice A1 o1.length c1]] W fun e w' => e = .returned (.tuple #[.string ((showSpec o1).getD ⟨#[]⟩), .int .i64 (yOf (showSpec o1).isSome)]) ∧ Below W.heap.size W w') := ⟨fun W hW => Show_calls o1 _ s1.nods A1 c1 W (hL.below hW) (Kd.C_below h1 hW)⟩
  have HS2 : Aside0 (∀ W, Below w.heap.size w W → Calls Tryz.prog 56 #[.agg #[.slice A2 o2.length c2]] W fun e w' => e = .returned (.tuple #[.string ((showSpec o2).getD ⟨#[]⟩), .int .i64 (yOf (showSpec o2).isSome)]) ∧ Below W.heap.size W w') := ⟨fun W hW => Show_calls o2 _ s2.nods A2 c2 W (hL.below hW) (Kd.C_below h2 hW)⟩
  have hl1 := s1.len
  have hl2 := s2.len
  have hP : ∀ e w', RelatedPost w A1 c1 o1 A2 c2 o2 e w' = RelatedPost w A1 c1 o1 A2 c2 o2 e w' := fun _ _ => rfl
  clear hP
  generalize hfin : relOf o1 o2 = fin
  have hPn : ∀ e w', ((showSpec o1).isSome && (showSpec o2).isSome) = false → (e = .returned (.pointer none) ∧ Below w.heap.size w w') → RelatedPost w A1 c1 o1 A2 c2 o2 e w' := fun e w' hq h => by
    unfold RelatedPost
    rw [if_neg (by rintro ⟨h1, h2⟩; rw [h1, h2] at hq; cases hq)]
    exact h
  have hPy : ∀ e w' X Mb, (showSpec o1).isSome = true → (showSpec o2).isSome = true → e = .returned (.pointer (some ⟨X, 0, none⟩)) → RelIs w' X Mb fin.length A1 c1 o1 A2 c2 o2 fin → Below w.heap.size w w' → RelatedPost w A1 c1 o1 A2 c2 o2 e w' := fun e w' X Mb q1 q2 h1 h2 h3 => by
    unfold RelatedPost
    rw [if_pos ⟨q1, q2⟩, hfin]
    exact ⟨X, Mb, h1, h2, h3⟩
  generalize RelatedPost w A1 c1 o1 A2 c2 o2 = P at hPn hPy ⊢
  generalize (showSpec o1).getD ⟨#[]⟩ = x1 at HS1
  generalize (showSpec o2).getD ⟨#[]⟩ = x2 at HS2
  generalize (showSpec o1).isSome = q1 at HS1 hPn hPy
  generalize (showSpec o2).isSome = q2 at HS2 hPn hPy
  replace hA := Aside0.mk hA
  replace g0 := Aside0.mk g0
  replace g1 := Aside0.mk g1
  replace h1 := Aside0.mk h1
  replace h2 := Aside0.mk h2
  replace hL := Aside0.mk hL
  replace hfin := Aside0.mk hfin
  replace hPn := Aside0.mk hPn
  replace hPy := Aside0.mk hPy
  have a0 := (blk_cell g0.out 0).trans rfl
  have hmk : ∀ (t : TypeId) (w : World), (Instr.makeMap t none).run Tryz.prog w = .ok (.map (some w.heap.size)) (w.alloc (.map #[] 0)) := fun _ _ => rfl
  go_enter Tryz.func87, Tryz.ntmps87
  go_wp2_with (fail)
  generalize (w.alloc (.cells #[.slice A1 o1.length c1] 54)).alloc (.cells #[.slice A2 o2.length c2] 54) = wA at *
  refine (HS1.out _ hA.out).mono ?_
  rintro _ wB ⟨rfl, hbB⟩
  have hB := Aside0.mk (below_of hA.out hbB)
  have gB0 := Aside0.mk ((hbB.block _ (blk_lt g0.out)).trans g0.out)
  have gB1 := Aside0.mk ((hbB.block _ (blk_lt g1.out)).trans g1.out)
  have a1 := (blk_cell gB1.out 0).trans rfl
  clear hbB a0 HS1
  cases q1 with
  | false =>
    rw [show yOf false = 1 from rfl]
    go_wp2_with (fail)
    exact hPn.out _ _ rfl ⟨rfl, hB.out⟩
  | true =>
  rw [show yOf true = 0 from rfl]
  go_wp2_with (fail)
  refine (HS2.out _ hB.out).mono ?_
  rintro _ wC ⟨rfl, hbC⟩
  have hC := Aside0.mk (below_of hB.out hbC)
  have gC0 := Aside0.mk ((hbC.block _ (blk_lt gB0.out)).trans gB0.out)
  have gC1 := Aside0.mk ((hbC.block _ (blk_lt gB1.out)).trans gB1.out)
  have a0 := (blk_cell gC0.out 0).trans rfl
  have a1 := (blk_cell gC1.out 0).trans rfl
  clear hbC HS2
  cases q2 with
  | false =>
    rw [show yOf false = 1 from rfl]
    go_wp2_with (fail)
    exact hPn.out _ _ rfl ⟨rfl, hC.out⟩
  | true =>
  rw [show yOf true = 0 from rfl]
  go_wp2_with (fail)
  have hW0 : Aside0 (RW w ((wC.alloc (.map #[] 0)).alloc (.cells #[.slice A1 o1.length c1, .slice A2 o2.length c2, .map (some wC.heap.size)] 151)) (wC.heap.size + 1) wC.heap.size A1 c1 o1 A2 c2 o2 []) := ⟨by
    have hb1 : Below wC.heap.size wC (wC.alloc (.map #[] 0)) := (Below.refl _ _).alloc (Nat.le_refl _) _
    have hb2 : Below wC.heap.size wC ((wC.alloc (.map #[] 0)).alloc (.cells #[.slice A1 o1.length c1, .slice A2 o2.length c2, .map (some wC.heap.size)] 151)) := hb1.alloc (by simp) _
    have hb3 := below_of hC.out hb2
    refine ⟨⟨two_new1' wC _ _, Kd.C_below h1.out hb3, Kd.C_below h2.out hb3, (NotIs.made wC).below ((Below.refl _ _).alloc (Nat.le_refl _) _)⟩, hb3, (hb2.block _ (blk_lt gC0.out)).trans gC0.out, (hb2.block _ (blk_lt gC1.out)).trans gC1.out, h1.out, h2.out, hC.out.size⟩⟩
  have hO0 : Aside0 (OutRel o1 o2 fin (o1.length * o2.length + 1) true []) := ⟨⟨⟨List.nodup_nil, by simp⟩, fun _ => ⟨hfin.out, by simp⟩, fun h => by cases h⟩⟩
  generalize wC.heap.size = Mb at hW0 ⊢
  generalize hX : Mb + 1 = X at hW0 ⊢
  generalize (wC.alloc (.map #[] 0)).alloc (.cells #[.slice A1 o1.length c1, .slice A2 o2.length c2, .map (some Mb)] 151) = wD at hW0 ⊢
  clear a0 a1 hX
  go_loopg [10] (o1.length * o2.length + 1) (fun f v wr => ∃ (ag : Bool) (N : Pairs), v = .bool ag ∧ Aside0 (OutRel o1 o2 fin f ag N) ∧ Aside0 (RW w wr X Mb A1 c1 o1 A2 c2 o2 N))
  case atStart => exact ⟨true, [], rfl, hO0, hW0⟩
  case round =>
    obtain ⟨ag, N, rfl, hO, hW⟩ := hrel
    cases ag with
    | false =>
      have E : N = fin := hO.out.2.2 rfl
      subst E
      go_wp2_with (fail)
      exact hPy.out _ _ X Mb trivial trivial rfl hW.out.rel hW.out.bel
    | true =>
      obtain ⟨f', rfl, hnext⟩ := hO.out.round
      generalize hst : sweepR o1 o2 o1.length 0 (N, false) = stf
      have hnx := Aside0.mk (hnext stf hst)
      replace hst := Aside0.mk hst
      have a0 := (blk_cell hW.out.b0 0).trans rfl
      have hg0 := Aside0.mk hO.out.1
      clear hnext
      go_wp2_with (fail)
      clear a0
      go_loopw [10, 36] (fun s10 s36 wr2 => ∃ (i : Nat) (ag : Bool) (N2 : Pairs), s36 = .int .i64 i ∧ s10 = .bool ag ∧ i ≤ o1.length ∧ Aside0 (sweepR o1 o2 (o1.length - i) i (N2, ag) = stf) ∧ Aside0 (Grid o1.length o2.length N2) ∧ Aside0 (RW w wr2 X Mb A1 c1 o1 A2 c2 o2 N2)) (fun _ s36 _ => o1.length - (intOf s36).toNat)
      case atStart => exact ⟨0, false, N, rfl, rfl, Nat.zero_le _, hst, hg0, hW⟩
      case round =>
        clear hW hst hg0
        obtain ⟨i, ag, N2, rfl, rfl, hi, hsw, hg, hW2⟩ := hrel
        by_cases hlt : i < o1.length
        · generalize hrow : rowR o1 o2 i o2.length 0 (N2, ag) = str
          have hsw2 : Aside0 (sweepR o1 o2 (o1.length - (i + 1)) (i + 1) str = stf) := ⟨by
            have := hsw.out
            rw [show o1.length - i = (o1.length - (i + 1)) + 1 by omega, sweepR_succ, hrow] at this
            exact this⟩
          have hgs : Aside0 (Grid o1.length o2.length str.1) := ⟨by rw [← hrow]; exact (row_good o1 o2 i hlt o2.length 0 (N2, ag) (by omega) hg.out).1⟩
          replace hrow := Aside0.mk hrow
          have a1 := (blk_cell hW2.out.b1 0).trans rfl
          clear hsw
          go_wp2_with (fail)
          clear a1
          go_loopw [10, 42] (fun s10 s42 wr3 => ∃ (k : Nat) (ag3 : Bool) (N3 : Pairs), s42 = .int .i64 k ∧ s10 = .bool ag3 ∧ k ≤ o2.length ∧ Aside0 (rowR o1 o2 i (o2.length - k) k (N3, ag3) = str) ∧ Aside0 (Grid o1.length o2.length N3) ∧ Aside0 (RW w wr3 X Mb A1 c1 o1 A2 c2 o2 N3)) (fun _ s42 _ => o2.length - (intOf s42).toNat)
          case atStart => exact ⟨0, ag, N2, rfl, rfl, Nat.zero_le _, hrow, hg, hW2⟩
          case round =>
            clear hW2 hrow hg
            obtain ⟨k, ag3, N3, rfl, rfl, hk, hro, hg3, hW3⟩ := hrel
            by_cases hkl : k < o2.length
            · have wi : (Lit.int .i64 (i : Int)).wf = true := wf_small (by omega) (by omega)
              have wk : (Lit.int .i64 (k : Int)).wf = true := wf_small (by omega) (by omega)
              have HR := reads_calls hW3.out.rel wi wk
              have HH := holds_calls hW3.out.rel s1 s2 i k hlt hkl
              have hg4 := Aside0.mk (hg3.out.step (o1 := o1) (o2 := o2) (st := (N3, ag3)) hlt hkl)
              have hro2 : rowR o1 o2 i (o2.length - (k + 1)) (k + 1) (stepR o1 o2 i k (N3, ag3)) = str := by
                have := hro.out
                rw [show o2.length - k = (o2.length - (k + 1)) + 1 by omega, rowR_succ] at this
                exact this
              have hstep : stepR o1 o2 i k (N3, ag3) = if readsB N3 i k = true ∧ holdsB (readsB N3) (PPolicyHolds.rd_T110 o1 i) (PPolicyHolds.rd_T110 o2 k) i k = false then (N3 ++ [((i : Int), (k : Int))], true) else (N3, ag3) := rfl
              generalize stepR o1 o2 i k (N3, ag3) = stk at hg4 hro2 hstep
              have hsmall := hg3.out.small (by omega) (by omega)
              replace hro2 := Aside0.mk hro2
              clear hro
              cases hr : readsB N3 i k with
              | false =>
                have Ek : Aside0 (stk = (N3, ag3)) := ⟨by rw [hstep, hr]; rfl⟩
                rw [hr] at HR
                replace HR := Aside0.mk HR
                replace hr := Aside0.mk hr
                clear hstep HH hsmall wi wk
                go_wp2_with (go_at_call 88; refine HR.out.mono ?_; rintro _ wx ⟨rfl, hxe⟩; subst hxe)
                go_roundw
                case rel => exact ⟨k + 1, ag3, N3, by go_num, rfl, by omega, ⟨by rw [← Ek.out]; exact hro2.out⟩, hg3, hW3⟩
                case measure => simp [intOf]; omega
              | true =>
                rw [hr] at HR
                cases hh : holdsB (readsB N3) (PPolicyHolds.rd_T110 o1 i) (PPolicyHolds.rd_T110 o2 k) i k with
                | true =>
                  have Ek : Aside0 (stk = (N3, ag3)) := ⟨by rw [hstep, if_neg (by rw [hh]; simp)]⟩
                  rw [hh] at HH
                  replace HR := Aside0.mk HR
                  replace HH := Aside0.mk HH
                  replace hr := Aside0.mk hr
                  replace hh := Aside0.mk hh
                  clear hstep hsmall wi wk
                  go_wp2_with (first | (go_at_call 88; refine HR.out.mono ?_; rintro _ wx ⟨rfl, hxe⟩; subst hxe) | (go_at_call 123; refine HH.out.mono ?_; rintro _ wy ⟨rfl, hby⟩; have hW5 := Aside0.mk (hW3.out.below hby); clear hby))
                  go_roundw
                  case rel => exact ⟨k + 1, ag3, N3, by go_num, rfl, by omega, ⟨by rw [← Ek.out]; exact hro2.out⟩, hg3, hW5⟩
                  case measure => simp [intOf]; omega
                | false =>
                  have Ek : Aside0 (stk = (N3 ++ [((i : Int), (k : Int))], true)) := ⟨by rw [hstep, if_pos ⟨hr, hh⟩]⟩
                  rw [hh] at HH
                  replace HR := Aside0.mk HR
                  replace HH := Aside0.mk HH
                  replace hr := Aside0.mk hr
                  replace hh := Aside0.mk hh
                  replace hsmall := Aside0.mk hsmall
                  replace wi := Aside0.mk wi
                  replace wk := Aside0.mk wk
                  clear hstep
                  go_wp2_with (first | (go_at_call 88; refine HR.out.mono ?_; rintro _ wx ⟨rfl, hxe⟩; subst hxe) | (go_at_call 123; refine HH.out.mono ?_; rintro _ wy ⟨rfl, hby⟩; have hW5 := Aside0.mk (hW3.out.below hby); have m2 : wy.cell? ⟨X, 2, none⟩ = some (.map (some Mb)) := blk_cell hW5.out.rel.blk 2; obtain ⟨v0, sn, wE, wS, hE, hS, hWS⟩ := hW5.out.strike hsmall.out wi.out wk.out; replace hWS := Aside0.mk hWS; clear hby))
                  go_roundw
                  case rel => exact ⟨k + 1, true, _, by go_num, rfl, by omega, ⟨by have := hro2.out; rw [Ek.out] at this; exact this⟩, ⟨by have := hg4.out; rw [Ek.out] at this; exact this⟩, hWS⟩
                  case measure => simp [intOf]; omega
            · obtain rfl : k = o2.length := by omega
              have Er : (N3, ag3) = str := by have := hro.out; rwa [Nat.sub_self] at this
              subst Er
              go_wp2_with (fail)
              go_roundw
              case rel => exact ⟨i + 1, ag3, N3, by go_num, rfl, by omega, hsw2, hg3, hW3⟩
              case measure => simp [intOf]; omega
        · obtain rfl : i = o1.length := by omega
          have Es : (N2, ag) = stf := by have := hsw.out; rwa [Nat.sub_self] at this
          subst Es
          go_wp2_with (fail)
          go_roundg f'
          case measure => omega
          case rel => exact ⟨ag, N2, rfl, hnx, hW2⟩

set_option maxRecDepth 100000 in
set_option maxHeartbeats 4000000 in
theorem can_calls {o1 o2 : List Nod} (s1 : SchemaOk o1) (s2 : SchemaOk o2) {A1 A2 : Option Addr} {c1 c2 : Nat} {w : World} (hL : LaidAt w) (h1 : kNod.C w A1 o1.length o1) (h2 : kNod.C w A2 o2.length o2) :
    Calls Tryz.prog 61 #[.agg #[.slice A1 o1.length c1], .agg #[.slice A2 o2.length c2]] w fun e w' => e = .returned (.bool (canB o1 o2)) ∧ Below w.heap.size w w' := by
  have hA : Below w.heap.size w ((w.alloc (.cells #[.slice A1 o1.length c1] 54)).alloc (.cells #[.slice A2 o2.length c2] 54)) := ((Below.refl _ _).alloc (Nat.le_refl _) _).alloc (by simp) _
  have a0 := (blk_cell (two_b w (.cells #[.slice A1 o1.length c1] 54) (.cells #[.slice A2 o2.length c2] 54)) 0).trans rfl
  have a1 := (blk_cell (two_a w (.cells #[.slice A1 o1.length c1] 54) (.cells #[.slice A2 o2.length c2] 54)) 0).trans rfl
  have HR := related_calls (c1 := c1) (c2 := c2) s1 s2 (hL.below hA) (Kd.C_below h1 hA) (Kd.C_below h2 hA)
  have E : canB o1 o2 = ((showSpec o1).isSome && (showSpec o2).isSome && readsB (relOf o1 o2) 0 0) := rfl
  by_cases hq : (showSpec o1).isSome = true ∧ (showSpec o2).isSome = true
  · have HR2 := HR.mono (R' := fun e w' => ∃ X Mb, e = .returned (.pointer (some ⟨X, 0, none⟩)) ∧ RelIs w' X Mb (relOf o1 o2).length A1 c1 o1 A2 c2 o2 (relOf o1 o2) ∧ Below w.heap.size w w') (fun e w' h => by
      unfold RelatedPost at h
      rw [if_pos hq] at h
      obtain ⟨X, Mb, x, y, z⟩ := h
      exact ⟨X, Mb, x, y, below_of hA z⟩)
    rw [hq.1, hq.2] at E
    simp only [Bool.true_and] at E
    have E2 := Aside0.mk E
    replace HR2 := Aside0.mk HR2
    clear hq E HR hA
    go_enter Tryz.func61, Tryz.ntmps61
    go_wp2_with (fail)
    refine HR2.out.mono ?_
    rintro _ w2 ⟨X, Mb, rfl, hR, hb⟩
    have HC := Aside0.mk (reads_calls hR (r := 0) (k := 0) (by decide) (by decide))
    have hXl := blk_lt hR.blk
    replace hb := Aside0.mk hb
    clear hR a0 a1
    go_wp2_with (fail)
    refine HC.out.mono ?_
    rintro _ w3 ⟨rfl, hxe⟩
    subst hxe
    go_wp2_with (fail)
    go_ret
    exact ⟨by rw [E2.out]; rfl, hb.out⟩
  · have HR2 := HR.mono (R' := fun e w' => e = .returned (.pointer none) ∧ Below w.heap.size w w') (fun e w' h => by
      unfold RelatedPost at h
      rw [if_neg hq] at h
      exact ⟨h.1, below_of hA h.2⟩)
    have E2 : Aside0 (canB o1 o2 = false) := ⟨by
      rw [E]
      cases h1 : (showSpec o1).isSome <;> cases h2 : (showSpec o2).isSome <;> first | rfl | exact absurd ⟨h1, h2⟩ hq⟩
    replace HR2 := Aside0.mk HR2
    clear hq E HR hA
    go_enter Tryz.func61, Tryz.ntmps61
    go_wp2_with (fail)
    refine HR2.out.mono ?_
    rintro _ w2 ⟨rfl, hb⟩
    replace hb := Aside0.mk hb
    clear a0 a1
    go_wp2_with (fail)
    go_ret
    exact ⟨by rw [E2.out]; rfl, hb.out⟩
set_option maxHeartbeats 1000000 in
theorem Can_calls {o1 o2 : List Nod} (s1 : SchemaOk o1) (s2 : SchemaOk o2) {A1 A2 : Option Addr} {c1 c2 : Nat} {w : World} (hL : LaidAt w) (h1 : kNod.C w A1 o1.length o1) (h2 : kNod.C w A2 o2.length o2) :
    Calls Tryz.prog 49 #[.agg #[.slice A1 o1.length c1], .agg #[.slice A2 o2.length c2]] w fun e w' => e = .returned (.bool (canB o1 o2)) ∧ Below w.heap.size w w' := by
  have hA : Below w.heap.size w ((w.alloc (.cells #[.slice A1 o1.length c1] 54)).alloc (.cells #[.slice A2 o2.length c2] 54)) := ((Below.refl _ _).alloc (Nat.le_refl _) _).alloc (by simp) _
  have a0 := (blk_cell (two_b w (.cells #[.slice A1 o1.length c1] 54) (.cells #[.slice A2 o2.length c2] 54)) 0).trans rfl
  have a1 := (blk_cell (two_a w (.cells #[.slice A1 o1.length c1] 54) (.cells #[.slice A2 o2.length c2] 54)) 0).trans rfl
  have HR := Aside0.mk (can_calls (c1 := c1) (c2 := c2) s1 s2 (hL.below hA) (Kd.C_below h1 hA) (Kd.C_below h2 hA))
  generalize canB o1 o2 = q at HR ⊢
  replace hA := Aside0.mk hA
  go_enter Tryz.func49, Tryz.ntmps49
  go_wp2_with (fail)
  refine HR.out.mono ?_
  rintro _ w2 ⟨rfl, hb⟩
  replace hb := Aside0.mk hb
  clear a0 a1
  go_wp2_with (fail)
  go_ret
  exact ⟨rfl, below_of hA.out hb.out⟩
end Go.Proofs.YtkafikdjhiienaaGreatDoor

/- pol1 -/
namespace Go.Proofs.YtkafikdjhiienaaGreatDoor
open Go.RowKit Go.Proofs.YtkafikdjhiienaaGreatDoorW.PrintWords

abbrev Sch := PPolicyHolds.S54
abbrev kSch := PPolicyHolds.k54
def asksB (p : Int) : Int × Bool := if 3 < p then (p - 3, true) else (p, false)
def followsB (bits : Int) (elder o : Sch) : Bool := (decide (bits % 2 = 0) || canB o.f0 elder.f0) && (decide (bits / 2 % 2 = 0) || canB elder.f0 o.f0)
def nextB (p : Int) (l : List Sch) (o : Sch) : Bool :=
  !((if (asksB p).2 = false ∧ 1 < l.length then l.drop (l.length - 1) else l).any fun elder => !followsB (asksB p).1 elder o)
/-- Of n versions from the i-th on. -/
def holdsFrom (p : Int) (l : List Sch) : Nat → Nat → Bool
  | 0, _ => true
  | n + 1, i => nextB p (l.take i) (PPolicyHolds.rd_T54 l i) && holdsFrom p l n (i + 1)
def holdsL (p : Int) (l : List Sch) : Bool := holdsFrom p l l.length 0
def isB (p : Int) : Bool := decide (0 ≤ p) && decide (p < 7)
def schemasB (l : List ByteArray) : Bool := l.all canonIs
def schemasL (l : List ByteArray) : List Sch := l.map fun s => ⟨(parseSpec s).1⟩
def HoldsB (p : Int) (l : List ByteArray) : Bool := schemasB l && isB p && holdsL p (schemasL l)
def NextB (p : Int) (l : List ByteArray) (s : ByteArray) : Bool := schemasB l && canonIs s && isB p && nextB p (schemasL l) ⟨(parseSpec s).1⟩

def SchOk (l : List Sch) : Prop := ∀ x ∈ l, SchemaOk x.f0

set_option maxRecDepth 100000 in
set_option maxHeartbeats 2000000 in
theorem follows_calls (bits : Int) (hb : 0 ≤ bits ∧ bits ≤ 3) (a o : Sch) (ha : SchemaOk a.f0) (ho : SchemaOk o.f0) {A1 A2 : Option Addr} {c1 c2 : Nat} {w : World} (hL : LaidAt w) (h1 : kNod.C w A1 a.f0.length a.f0) (h2 : kNod.C w A2 o.f0.length o.f0) :
    Calls Tryz.prog 42 #[.int .i64 bits, .agg #[.slice A1 a.f0.length c1], .agg #[.slice A2 o.f0.length c2]] w fun e w' => e = .returned (.bool (followsB bits a o)) ∧ Below w.heap.size w w' := by
  have hA : Below w.heap.size w ((w.alloc (.cells #[.slice A1 a.f0.length c1] 54)).alloc (.cells #[.slice A2 o.f0.length c2] 54)) := ((Below.refl _ _).alloc (Nat.le_refl _) _).alloc (by simp) _
  have g0 := two_b w (.cells #[.slice A1 a.f0.length c1] 54) (.cells #[.slice A2 o.f0.length c2] 54)
  have g1 := two_a w (.cells #[.slice A1 a.f0.length c1] 54) (.cells #[.slice A2 o.f0.length c2] 54)
  have HC : Aside0 (∀ W, Below w.heap.size w W → Calls Tryz.prog 49 #[.agg #[.slice A2 o.f0.length c2], .agg #[.slice A1 a.f0.length c1]] W fun e w' => e = .returned (.bool (canB o.f0 a.f0)) ∧ Below W.heap.size W w') := ⟨fun W hW => Can_calls ho ha (hL.below hW) (Kd.C_below h2 hW) (Kd.C_below h1 hW)⟩
  have HD : Aside0 (∀ W, Below w.heap.size w W → Calls Tryz.prog 49 #[.agg #[.slice A1 a.f0.length c1], .agg #[.slice A2 o.f0.length c2]] W fun e w' => e = .returned (.bool (canB a.f0 o.f0)) ∧ Below W.heap.size W w') := ⟨fun W hW => Can_calls ha ho (hL.below hW) (Kd.C_below h1 hW) (Kd.C_below h2 hW)⟩
  have E : followsB bits a o = ((decide (bits % 2 = 0) || canB o.f0 a.f0) && (decide (bits / 2 % 2 = 0) || canB a.f0 o.f0)) := rfl
  generalize followsB bits a o = spec at E ⊢
  generalize canB o.f0 a.f0 = q1 at HC E
  generalize canB a.f0 o.f0 = q2 at HD E
  have a0 := (blk_cell g0 0).trans rfl
  have a1 := (blk_cell g1 0).trans rfl
  replace hA := Aside0.mk hA
  replace g0 := Aside0.mk g0
  replace g1 := Aside0.mk g1
  replace h1 := Aside0.mk h1
  replace h2 := Aside0.mk h2
  replace hL := Aside0.mk hL
  have hc : bits = 0 ∨ bits = 1 ∨ bits = 2 ∨ bits = 3 := by omega
  rcases hc with rfl | rfl | rfl | rfl
  · replace E : spec = (true && true) := E
    replace E := Aside0.mk E
    clear HC HD
    go_enter Tryz.func42, Tryz.ntmps42
    go_wp2_with (fail)
    go_ret
    exact ⟨by rw [E.out]; rfl, hA.out⟩
  · replace E : spec = (q1 && true) := E
    clear HD
    cases q1 <;> (
      replace E := Aside0.mk E
      go_enter Tryz.func42, Tryz.ntmps42
      go_wp2_with (go_at_call 49; refine (HC.out _ hA.out).mono ?_; rintro _ wx ⟨rfl, hbx⟩; have hA2 := Aside0.mk (below_of hA.out hbx); clear hbx)
      go_ret
      exact ⟨by rw [E.out]; rfl, hA2.out⟩)
  · replace E : spec = (true && q2) := E
    clear HC
    cases q2 <;> (
      replace E := Aside0.mk E
      go_enter Tryz.func42, Tryz.ntmps42
      go_wp2_with (go_at_call 49; refine (HD.out _ hA.out).mono ?_; rintro _ wx ⟨rfl, hbx⟩; have hA2 := Aside0.mk (below_of hA.out hbx); clear hbx)
      go_ret
      exact ⟨by rw [E.out]; rfl, hA2.out⟩)
  · replace E : spec = (q1 && q2) := E
    cases q1 with
    | false =>
      replace E := Aside0.mk E
      go_enter Tryz.func42, Tryz.ntmps42
      go_wp2_with (go_at_call 49; refine (HC.out _ hA.out).mono ?_; rintro _ wx ⟨rfl, hbx⟩; have hA2 := Aside0.mk (below_of hA.out hbx); clear hbx)
      go_ret
      exact ⟨by rw [E.out]; rfl, hA2.out⟩
    | true =>
      cases q2 <;> (
        replace E := Aside0.mk E
        go_enter Tryz.func42, Tryz.ntmps42
        go_wp2_with (first | (go_at_call 49; refine (HC.out _ hA.out).mono ?_; rintro _ wx ⟨rfl, hbx⟩; have hA2 := Aside0.mk (below_of hA.out hbx); have b0 := (blk_cell ((hbx.block _ (blk_lt g0.out)).trans g0.out) 0).trans rfl; have b1 := (blk_cell ((hbx.block _ (blk_lt g1.out)).trans g1.out) 0).trans rfl; clear hbx) | (go_at_call 49; refine (HD.out _ hA2.out).mono ?_; rintro _ wy ⟨rfl, hby⟩; have hA3 := Aside0.mk (below_of hA2.out hby); clear hby))
        go_ret
        exact ⟨by rw [E.out]; rfl, hA3.out⟩)
end Go.Proofs.YtkafikdjhiienaaGreatDoor

/- pol2 -/
namespace Go.Proofs.YtkafikdjhiienaaGreatDoor
open Go.RowKit Go.Proofs.YtkafikdjhiienaaGreatDoorW.PrintWords

set_option maxHeartbeats 400000 in
theorem idxFunc_sch (gf : Nat) (cap : Array Value) (q : Sch → Bool) (l : List Sch) (A : Option Addr) (c : Nat) (w : World) (hC : kSch.C w A l.length l)
    (hcall : ∀ (w : World) (v : Value), (callFunc gf (#[.agg #[v]] ++ cap)).run Tryz.prog w = .ok (.enter gf (#[.agg #[v]] ++ cap)) w)
    (hq : ∀ (W : World) (x : Sch) (A1 : Option Addr) (c1 : Nat), Below w.heap.size w W → x ∈ l → kNod.C W A1 x.f0.length x.f0 → Calls Tryz.prog gf (#[.agg #[.slice A1 x.f0.length c1]] ++ cap) W fun e w' => e = .returned (.bool (q x)) ∧ Below W.heap.size W w') :
    Calls Tryz.prog 48 #[.slice A l.length c, .func (.func gf) #[] cap] w fun e w' => e = .returned (.int .i64 (findI q l)) ∧ Below w.heap.size w w' := by
  have HQ := Aside0.mk hq
  have HC := Aside0.mk hC
  have hmax := Kd.C_max hC
  clear hq hC
  go_enter Tryz.func48, Tryz.ntmps48
  go_wp2
  go_loopw [8] (fun v wr => ∃ k : Nat, v = .int .i64 k ∧ k ≤ l.length ∧ Aside0 ((l.take k).any q = false) ∧ Aside0 (Below w.heap.size w wr)) (fun v _ => l.length - (intOf v).toNat)
  case atStart => exact ⟨0, rfl, Nat.zero_le _, ⟨by simp⟩, ⟨Below.refl _ _⟩⟩
  case round =>
    obtain ⟨k, rfl, hk, ha, hb⟩ := hrel
    by_cases hlt : k < l.length
    · obtain ⟨ad, A1, c1, hA, hcell, hle, hN⟩ := PPolicyHolds.at_T54 (Kd.C_below HC.out hb.out) k (by omega) (by omega)
      have hx : Aside0 (l[k]? = some (PPolicyHolds.rd_T54 l k)) := ⟨by simp [PPolicyHolds.rd_T54, List.getD_eq_getElem?_getD, List.getElem?_eq_getElem hlt]⟩
      subst hA
      rw [Int.toNat_natCast] at hcell
      have hm : Aside0 (PPolicyHolds.rd_T54 l k ∈ l) := ⟨List.mem_of_getElem? hx.out⟩
      replace hN := Aside0.mk hN
      replace hle := Aside0.mk hle
      generalize PPolicyHolds.rd_T54 l k = x at *
      cases hqx : q x with
      | true =>
        have HQ2 : Aside0 (Calls Tryz.prog gf (#[.agg #[.slice A1 x.f0.length c1]] ++ cap) wr fun e w' => e = .returned (.bool true) ∧ Below wr.heap.size wr w') := ⟨by have := HQ.out wr _ A1 c1 hb.out hm.out hN.out; rw [hqx] at this; exact this⟩
        have E := Aside0.mk (findI_hit q l k _ hx.out ha.out hqx)
        clear hqx
        go_wp2_with (refine HQ2.out.mono ?_; rintro e w1 ⟨rfl, hb1⟩)
        go_ret
        exact ⟨by rw [E.out]; rfl, below_of hb.out hb1⟩
      | false =>
        have HQ2 : Aside0 (Calls Tryz.prog gf (#[.agg #[.slice A1 x.f0.length c1]] ++ cap) wr fun e w' => e = .returned (.bool false) ∧ Below wr.heap.size wr w') := ⟨by have := HQ.out wr _ A1 c1 hb.out hm.out hN.out; rw [hqx] at this; exact this⟩
        have E := Aside0.mk (any_take_succ q l k _ hx.out ha.out hqx)
        clear hqx
        go_wp2_with (refine HQ2.out.mono ?_; rintro e w1 ⟨rfl, hb1⟩)
        go_roundw
        case rel => exact ⟨k + 1, by go_num, by omega, E, ⟨below_of hb.out hb1⟩⟩
        case measure => simp [intOf]; omega
    · obtain rfl : k = l.length := by omega
      have E := Aside0.mk (findI_miss q l ha.out)
      go_wp2
      go_ret
      exact ⟨by rw [E.out]; rfl, hb.out⟩

set_option maxHeartbeats 400000 in
theorem contFunc_sch (gf : Nat) (cap : Array Value) (q : Sch → Bool) (l : List Sch) (A : Option Addr) (c : Nat) (w : World) (hC : kSch.C w A l.length l)
    (hcall : ∀ (w : World) (v : Value), (callFunc gf (#[.agg #[v]] ++ cap)).run Tryz.prog w = .ok (.enter gf (#[.agg #[v]] ++ cap)) w)
    (hq : ∀ (W : World) (x : Sch) (A1 : Option Addr) (c1 : Nat), Below w.heap.size w W → x ∈ l → kNod.C W A1 x.f0.length x.f0 → Calls Tryz.prog gf (#[.agg #[.slice A1 x.f0.length c1]] ++ cap) W fun e w' => e = .returned (.bool (q x)) ∧ Below W.heap.size W w') :
    Calls Tryz.prog 40 #[.slice A l.length c, .func (.func gf) #[] cap] w fun e w' => e = .returned (.bool (l.any q)) ∧ Below w.heap.size w w' := by
  have H := Aside0.mk (idxFunc_sch gf cap q l A c w hC hcall hq)
  have E := Aside0.mk (findI_neg q l)
  clear hq hcall hC
  go_enter Tryz.func40, Tryz.ntmps40
  go_wp2_with (go_at_call 48; refine H.out.mono ?_; rintro e w1 ⟨rfl, hb1⟩)
  go_ret
  exact ⟨by rw [← E.out]; rfl, hb1⟩

/-- asks: one walk, two arms. -/
theorem asks_calls (p : Int) (hp : 0 ≤ p ∧ p ≤ 6) (w : World) : Calls Tryz.prog 35 #[.int .i64 p] w fun e w' => e = .returned (.tuple #[.int .i64 (asksB p).1, .bool (asksB p).2]) ∧ w' = w := by
  unfold asksB
  by_cases h : 3 < p
  · rw [if_pos h]
    go_enter Tryz.func35, Tryz.ntmps35
    go_wp2_with (fail)
    go_ret2
    exact ⟨rfl, rfl⟩
  · rw [if_neg h]
    go_enter Tryz.func35, Tryz.ntmps35
    go_wp2_with (fail)
    go_ret2
    exact ⟨rfl, rfl⟩

theorem is_p_calls (p : Int) (w : World) : Calls Tryz.prog 28 #[.int .i64 p] w fun e w' => e = .returned (.bool (isB p)) ∧ w' = w := by
  unfold isB
  by_cases h0 : 0 ≤ p
  · by_cases h1 : p < 7
    · rw [decide_eq_true h0, decide_eq_true h1]
      go_enter Tryz.func28, Tryz.ntmps28
      go_wp2_with (fail)
      go_ret
      exact ⟨rfl, rfl⟩
    · rw [decide_eq_true h0, decide_eq_false h1]
      go_enter Tryz.func28, Tryz.ntmps28
      go_wp2_with (fail)
      go_ret
      exact ⟨rfl, rfl⟩
  · rw [decide_eq_false h0]
    go_enter Tryz.func28, Tryz.ntmps28
    go_wp2_with (fail)
    go_ret
    exact ⟨rfl, rfl⟩

set_option maxRecDepth 100000 in
theorem next1_calls (bits : Int) (hbits : 0 ≤ bits ∧ bits ≤ 3) (a o : Sch) (ha : SchemaOk a.f0) (ho : SchemaOk o.f0) {A1 A2 : Option Addr} {c1 c2 bB oB : Nat} {w : World} (hL : LaidAt w) (h1 : kNod.C w A1 a.f0.length a.f0) (h2 : kNod.C w A2 o.f0.length o.f0)
    (hbB : w.cell? ⟨bB, 0, none⟩ = some (.int .i64 bits)) (hoB : w.cell? ⟨oB, 0, none⟩ = some (.slice A2 o.f0.length c2)) :
    Calls Tryz.prog 41 #[.agg #[.slice A1 a.f0.length c1], .pointer (some ⟨bB, 0, none⟩), .pointer (some ⟨oB, 0, none⟩)] w fun e w' => e = .returned (.bool (!followsB bits a o)) ∧ Below w.heap.size w w' := by
  have hA : Below w.heap.size w (w.alloc (.cells #[.slice A1 a.f0.length c1] 54)) := (Below.refl _ _).alloc (Nat.le_refl _) _
  have hxb := pw_cell_below hA hbB
  have hxo := pw_cell_below hA hoB
  have hxe := (blk_cell (World.alloc_heap_new w (.cells #[.slice A1 a.f0.length c1] 54)) 0).trans rfl
  have HF := Aside0.mk (follows_calls bits hbits a o ha ho (c1 := c1) (c2 := c2) (hL.below hA) (Kd.C_below h1 hA) (Kd.C_below h2 hA))
  replace hA := Aside0.mk hA
  generalize followsB bits a o = q at *
  clear hL h1 h2 hbits
  go_enter Tryz.func41, Tryz.ntmps41
  go_wp2_with (fail)
  refine HF.out.mono ?_
  rintro _ w1 ⟨rfl, hb⟩
  replace hb := Aside0.mk hb
  clear hxb hxo hxe
  go_wp2_with (fail)
  go_ret
  exact ⟨rfl, below_of hA.out hb.out⟩

theorem asks_bits (p : Int) (hp : 0 ≤ p ∧ p ≤ 6) : 0 ≤ (asksB p).1 ∧ (asksB p).1 ≤ 3 := by
  unfold asksB
  split <;> simp only <;> omega

set_option maxRecDepth 100000 in
set_option maxHeartbeats 1000000 in
theorem next_calls (p : Int) (hp : 0 ≤ p ∧ p ≤ 6) (l : List Sch) (o : Sch) (hl : SchOk l) (ho : SchemaOk o.f0) {A A2 : Option Addr} {c c2 : Nat} {w : World} (hL : LaidAt w) (hC : kSch.C w A l.length l) (hc : l.length ≤ c) (h2 : kNod.C w A2 o.f0.length o.f0) :
    Calls Tryz.prog 33 #[.int .i64 p, .slice A l.length c, .agg #[.slice A2 o.f0.length c2]] w fun e w' => e = .returned (.bool (nextB p l o)) ∧ Below w.heap.size w w' := by
  have HA := Aside0.mk (asks_calls p hp (w.alloc (.cells #[.slice A2 o.f0.length c2] 54)))
  have E : nextB p l o = !((if (asksB p).2 = false ∧ 1 < l.length then l.drop (l.length - 1) else l).any fun elder => !followsB (asksB p).1 elder o) := rfl
  have hb3 := asks_bits p hp
  generalize asksB p = ab at *
  obtain ⟨bits, all⟩ := ab
  simp only at E HA hb3
  have hA : Below w.heap.size w ((w.alloc (.cells #[.slice A2 o.f0.length c2] 54)).alloc (.cells #[.int .i64 bits] 3)) := ((Below.refl _ _).alloc (Nat.le_refl _) _).alloc (by simp) _
  have a0 := (blk_cell (two_b w (.cells #[.slice A2 o.f0.length c2] 54) (.cells #[.int .i64 bits] 3)) 0).trans rfl
  have a1 := (blk_cell (two_a w (.cells #[.slice A2 o.f0.length c2] 54) (.cells #[.int .i64 bits] 3)) 0).trans rfl
  have HF : Aside0 (∀ (l' : List Sch) (A' : Option Addr) (c' : Nat), SchOk l' → kSch.C w A' l'.length l' → Calls Tryz.prog 40 #[.slice A' l'.length c', .func (.func 41) #[] #[.pointer (some ⟨w.heap.size + 1, 0, none⟩), .pointer (some ⟨w.heap.size, 0, none⟩)]] ((w.alloc (.cells #[.slice A2 o.f0.length c2] 54)).alloc (.cells #[.int .i64 bits] 3))
      fun e w' => e = .returned (.bool (l'.any fun elder => !followsB bits elder o)) ∧ Below w.heap.size w w') := ⟨fun l' A' c' hl' hC' =>
    (contFunc_sch 41 #[.pointer (some ⟨w.heap.size + 1, 0, none⟩), .pointer (some ⟨w.heap.size, 0, none⟩)] (fun elder => !followsB bits elder o) l' A' c' _ (Kd.C_below hC' hA) (fun w v => rfl)
      (fun W x A1 c1 hW hx hN => next1_calls bits hb3 x o (hl' x hx) ho (hL.below (below_of hA hW)) hN (Kd.C_below h2 (below_of hA hW)) (pw_cell_below hW a1) (pw_cell_below hW a0))).mono fun e w' h => ⟨h.1, below_of hA h.2⟩⟩
  have hmax := Kd.C_max hC
  clear a0 a1 hb3 ho h2 hL
  replace hA := Aside0.mk hA
  by_cases hq : all = false ∧ 1 < l.length
  · obtain ⟨rfl, hlen⟩ := hq
    rw [if_pos ⟨rfl, hlen⟩] at E
    have hD := Kd.C_drop hC (m := l.length - 1) (by omega) hc
    obtain ⟨ad, A1, c1, hAd, -⟩ := PPolicyHolds.at_T54 hC 0 (by omega) (by omega)
    subst hAd
    have HF2 := HF.out _ _ (c - (l.length - 1)) (fun x hx => hl x (List.mem_of_mem_drop hx)) hD
    rw [if_neg (show ¬ c = l.length - 1 by omega), List.length_drop, Option.map_some, show ad.add ((l.length - 1) * kSch.sz) = ad.add (l.length - 1) from congrArg ad.add (Nat.mul_one _)] at HF2
    generalize ((l.drop (l.length - 1)).any fun elder => !followsB bits elder o) = q at *
    replace HF2 := Aside0.mk HF2
    replace E := Aside0.mk E
    clear hD HF hl hC
    go_enter Tryz.func33, Tryz.ntmps33
    go_wp2_with (go_at_call 35; refine HA.out.mono ?_; rintro _ wx ⟨rfl, hxe⟩; subst hxe)
    refine HF2.out.mono ?_
    rintro _ w1 ⟨rfl, hb1⟩
    replace hb1 := Aside0.mk hb1
    go_wp2_with (fail)
    go_ret
    exact ⟨by rw [E.out]; rfl, hb1.out⟩
  · rw [if_neg hq] at E
    have HF2 := HF.out _ _ c hl hC
    generalize (l.any fun elder => !followsB bits elder o) = q at *
    replace HF2 := Aside0.mk HF2
    replace E := Aside0.mk E
    clear HF hl hC
    have ht : all = true ∨ (all = false ∧ ¬ 1 < l.length) := by cases all <;> simp_all
    clear hq
    rcases ht with rfl | ⟨rfl, hlen⟩
    all_goals (
      go_enter Tryz.func33, Tryz.ntmps33
      go_wp2_with (first | (go_at_call 35; refine HA.out.mono ?_; rintro _ wx ⟨rfl, hxe⟩; subst hxe) | (refine HF2.out.mono ?_; rintro _ w1 ⟨rfl, hb1⟩))
      go_ret
      exact ⟨by rw [E.out]; rfl, hb1⟩)
end Go.Proofs.YtkafikdjhiienaaGreatDoor

/- pol3 -/
namespace Go.Proofs.YtkafikdjhiienaaGreatDoor
open Go.RowKit Go.Proofs.YtkafikdjhiienaaGreatDoorW.PrintWords

set_option maxRecDepth 100000 in
set_option maxHeartbeats 1000000 in
theorem holds_p_calls (p : Int) (hp : 0 ≤ p ∧ p ≤ 6) (l : List Sch) (hl : SchOk l) {A : Option Addr} {c : Nat} {w : World} (hL : LaidAt w) (hC : kSch.C w A l.length l) (hc : l.length ≤ c) :
    Calls Tryz.prog 29 #[.int .i64 p, .slice A l.length c] w fun e w' => e = .returned (.bool (holdsL p l)) ∧ Below w.heap.size w w' := by
  have hmax := Kd.C_max hC
  generalize hspec : holdsL p l = spec
  have hN : Aside0 (∀ (W : World) (x : Sch) (k c' : Nat) (A2 : Option Addr) (c2 : Nat), x ∈ l → k ≤ l.length → k ≤ c' → Below w.heap.size w W → kNod.C W A2 x.f0.length x.f0 → Calls Tryz.prog 33 #[.int .i64 p, .slice A k c', .agg #[.slice A2 x.f0.length c2]] W fun e w' => e = .returned (.bool (nextB p (l.take k) x)) ∧ Below W.heap.size W w') := ⟨fun W x k c' A2 c2 hx hk hkc hW h2 => by
    have hT := Kd.C_take (Kd.C_below hC hW) hk
    have hle : (l.take k).length = k := by simp; omega
    have := next_calls p hp (l.take k) x (fun y hy => hl y (List.mem_of_mem_take hy)) (hl x hx) (c := c') (c2 := c2) (hL.below hW) hT (by omega) h2
    rwa [hle] at this⟩
  unfold holdsL at hspec
  replace hspec := Aside0.mk hspec
  replace hC := Aside0.mk hC
  replace hL := Aside0.mk hL
  replace hl := Aside0.mk hl
  go_enter Tryz.func29, Tryz.ntmps29
  go_wp2_with (fail)
  go_loopw [9] (fun v wr => ∃ k : Nat, v = .int .i64 k ∧ k ≤ l.length ∧ Aside0 (holdsFrom p l (l.length - k) k = spec) ∧ Aside0 (Below w.heap.size w wr)) (fun v _ => l.length - (intOf v).toNat)
  case atStart => exact ⟨0, rfl, Nat.zero_le _, hspec, ⟨Below.refl _ _⟩⟩
  case round =>
    obtain ⟨k, rfl, hk, hr, hb⟩ := hrel
    by_cases hlt : k < l.length
    · obtain ⟨ad, A1, c1, hA, hcell, hle, hNd⟩ := PPolicyHolds.at_T54 (Kd.C_below hC.out hb.out) k (by omega) (by omega)
      subst hA
      rw [Int.toNat_natCast] at hcell
      have hm : Aside0 (PPolicyHolds.rd_T54 l k ∈ l) := ⟨List.mem_of_getElem? (i := k) (by simp [PPolicyHolds.rd_T54, List.getD_eq_getElem?_getD, List.getElem?_eq_getElem hlt])⟩
      have hstep : Aside0 ((nextB p (l.take k) (PPolicyHolds.rd_T54 l k) && holdsFrom p l (l.length - (k + 1)) (k + 1)) = spec) := ⟨by
        have := hr.out
        rw [show l.length - k = (l.length - (k + 1)) + 1 by omega] at this
        exact this⟩
      generalize PPolicyHolds.rd_T54 l k = x at *
      have hAr : Below wr.heap.size wr (wr.alloc (.cells #[.slice A1 x.f0.length c1] 54)) := (Below.refl _ _).alloc (Nat.le_refl _) _
      have hxe : World.cell? (wr.alloc (.cells #[.slice A1 x.f0.length c1] 54)) ⟨wr.heap.size, 0, none⟩ = some (.slice A1 x.f0.length c1) := blk_cell (World.alloc_heap_new _ _) 0
      have HN2 := hN.out (wr.alloc (.cells #[.slice A1 x.f0.length c1] 54)).drew x k c A1 c1 hm.out hk (by omega) (below_of hb.out hAr.drew) (Kd.C_below hNd hAr.drew)
      replace HN2 := HN2.mono (R' := fun e w' => e = .returned (.bool (nextB p (l.take k) x)) ∧ Below w.heap.size w w') fun e w' h => ⟨h.1, below_of (below_of hb.out hAr.drew) h.2⟩
      generalize nextB p (l.take k) x = q at *
      replace HN2 := Aside0.mk HN2
      replace hle := Aside0.mk hle
      clear hNd hAr
      replace hr := Aside0.mk trivial
      go_wp2_with (fail)
      generalize wr.alloc (.cells #[.slice A1 x.f0.length c1] 54) = wA at *
      have hx : ∀ (W : World) (a : Addr), World.cell? { heap := W.heap, tape := W.tape, drawn := W.drawn + 1, os := W.os, output := W.output } a = W.cell? a := fun _ _ => rfl
      have hkc : k ≤ c := by omega
      go_still_tail 5, (by kernel_rfl)
      change wpList _ _ _ _ _ wA.drew
      clear hx hxe
      go_wp2_with (fail)
      refine HN2.out.mono ?_
      rintro _ w2 ⟨rfl, hb2⟩
      replace hb2 := Aside0.mk hb2
      clear hcell
      cases q with
      | true =>
        have hs2 : Aside0 (holdsFrom p l (l.length - (k + 1)) (k + 1) = spec) := ⟨by have := hstep.out; rwa [Bool.true_and] at this⟩
        go_wp2_with (fail)
        go_roundw
        case rel => exact ⟨k + 1, by go_num, by omega, hs2, hb2⟩
        case measure => simp [intOf]; omega
      | false =>
        have hs2 : Aside0 (spec = false) := ⟨by have := hstep.out; rw [Bool.false_and] at this; exact this.symm⟩
        go_wp2_with (fail)
        go_ret
        exact ⟨by rw [hs2.out]; rfl, hb2.out⟩
    · obtain rfl : k = l.length := by omega
      have hs2 : Aside0 (spec = true) := ⟨by have := hr.out; rw [Nat.sub_self] at this; exact this.symm⟩
      go_wp2_with (fail)
      go_ret
      exact ⟨by rw [hs2.out]; rfl, hb.out⟩
end Go.Proofs.YtkafikdjhiienaaGreatDoor

/- pol4 -/
namespace Go.Proofs.YtkafikdjhiienaaGreatDoor
open Go.RowKit Go.Proofs.YtkafikdjhiienaaGreatDoorW.PrintWords

theorem infoSch : (Tryz.prog.info? 54).map (fun i => (i.zero, i.size, i.bytes)) = some (some (.agg #[.slice none 0 0]), 1, 24) := by kernel_rfl

def SchemasPost (l : List ByteArray) (w : World) (e : Ending) (w' : World) : Prop :=
  ∃ (xs : List Sch) (A : Option Addr) (c : Nat), xs = (if schemasB l then schemasL l else []) ∧ e = .returned (.tuple #[.slice A xs.length c, .bool (schemasB l)]) ∧ xs.length ≤ c ∧ kSch.C w' A xs.length xs ∧ Below w.heap.size w w'

set_option maxRecDepth 100000 in
set_option maxHeartbeats 2000000 in
theorem schemas_calls (l : List ByteArray) (hs : ∀ s ∈ l, s.size ≤ 140737488351232) (hn : l.length ≤ 1000) {A : Option Addr} {c : Nat} {w : World} (hL : LaidAt w) (hC : Kd.string.C w A l.length l) :
    Calls Tryz.prog 27 #[.slice A l.length c] w (SchemasPost l w) := by
  have HS : Aside0 (∀ W s, s ∈ l → Below w.heap.size w W → Calls Tryz.prog 32 #[.string s] W (SchemaPost s W)) := ⟨fun W s hm hW => Schema_calls s W (hs s hm) (hL.below hW)⟩
  have hpn : Aside0 (∀ w', schemasB l = false → Below w.heap.size w w' → SchemasPost l w (.returned (.tuple #[.slice none 0 0, .bool false])) w') := ⟨fun w' hf hb => ⟨[], none, 0, by rw [hf]; rfl, by rw [hf]; rfl, Nat.le_refl _, (Kd.R_reads' (Kd.R_nil kSch 54 w' 0 (fun _ => True))).2.2, hb⟩⟩
  have hpy : Aside0 (∀ w' A' c', schemasB l = true → (schemasL l).length ≤ c' → kSch.C w' A' (schemasL l).length (schemasL l) → Below w.heap.size w w' → SchemasPost l w (.returned (.tuple #[.slice A' (schemasL l).length c', .bool true])) w') := ⟨fun w' A' c' hf hle hc hb => ⟨_, A', c', by rw [hf]; rfl, by rw [hf], hle, hc, hb⟩⟩
  replace hC := Aside0.mk hC
  have hsl : ∀ m : List ByteArray, (schemasL m).length = m.length := fun m => by simp [schemasL]
  generalize SchemasPost l w = P at *
  go_enter Tryz.func27, Tryz.ntmps27
  go_wp2_with (fail)
  go_loopw [4, 11] (fun v4 v11 wr => ∃ (k : Nat) (A1 : Option Addr) (c1 : Nat), v11 = .int .i64 k ∧ v4 = .slice A1 k c1 ∧ k ≤ l.length ∧ Aside0 (schemasB (l.take k) = true) ∧ Aside0 (kSch.R 54 wr w.heap.size (fun i => w.heap.size ≤ i) (.slice A1 k c1) (schemasL (l.take k))) ∧ Aside0 (Below w.heap.size w wr)) (fun _ v _ => l.length - (intOf v).toNat)
  case atStart => exact ⟨0, none, 0, rfl, rfl, Nat.zero_le _, ⟨rfl⟩, ⟨Kd.R_nil _ _ _ _ _⟩, ⟨Below.refl _ _⟩⟩
  case round =>
    obtain ⟨k, A1, c1, rfl, rfl, hk, hall, hrow, hb⟩ := hrel
    by_cases hlt : k < l.length
    · obtain ⟨b, off, rfl, hbl, hc⟩ := C_strings (Kd.C_below hC.out hb.out) (by omega)
      have hcell := hc k hlt
      have hx : Aside0 (l[k]? = some (l.getD k ByteArray.empty)) := ⟨by simp [List.getD_eq_getElem?_getD, List.getElem?_eq_getElem hlt]⟩
      have hm : Aside0 (l.getD k ByteArray.empty ∈ l) := ⟨List.mem_of_getElem? hx.out⟩
      clear hc
      generalize l.getD k ByteArray.empty = s at hcell hx hm
      have htk : l.take (k + 1) = l.take k ++ [s] := by rw [List.take_add_one, hx.out]; rfl
      have HS2 := HS.out wr s hm.out hb.out
      have hq1 : schemasB (l.take (k + 1)) = canonIs s := by
        rw [htk]; have := hall.out; unfold schemasB at this ⊢; rw [List.all_append, this]; simp
      have hq2 : canonIs s = true → schemasL (l.take (k + 1)) = schemasL (l.take k) ++ [⟨schemaSpec s⟩] := fun h => by
        rw [htk]; unfold schemasL schemaSpec; rw [List.map_append, if_pos h]; rfl
      have hq3 : canonIs s = false → schemasB l = false := fun h => by
        unfold schemasB
        rw [List.all_eq_false]
        exact ⟨s, hm.out, by rw [h]; simp⟩
      have HS3 := HS2.mono (R' := fun e w' => ∃ v, e = .returned (.tuple #[.agg #[v], .bool (canonIs s)]) ∧ kNod.R 110 w' wr.heap.size (fun _ => True) v (schemaSpec s) ∧ Below wr.heap.size wr w') fun e w' h => h
      have hfr : ∀ i, (Value.slice A1 k c1).ownBlock = some i → i < wr.heap.size := fun i hi => Kd.R_lt hrow.out i hi
      generalize canonIs s = ok at *
      generalize schemaSpec s = nodes at *
      clear HS2
      replace HS3 := Aside0.mk HS3
      replace hfr := Aside0.mk hfr
      replace hq2 := Aside0.mk hq2
      replace hq3 := Aside0.mk hq3
      replace hq1 := Aside0.mk hq1
      go_wp2_with (fail)
      refine HS3.out.mono ?_
      rintro _ w1 ⟨v, rfl, hN, hb1⟩
      obtain ⟨An, cn, rfl, hnl, hnC⟩ := Kd.R_reads hN
      have hA2 : Below w1.heap.size w1 (w1.alloc (.cells #[.slice An nodes.length cn] 54)) := (Below.refl _ _).alloc (Nat.le_refl _) _
      have hw2 := Aside0.mk (below_of (below_of hb.out hb1) hA2)
      have hbx : (w1.alloc (.cells #[.slice An nodes.length cn] 54)).cell? ⟨w1.heap.size, 0, none⟩ = some (.slice An nodes.length cn) := blk_cell (World.alloc_heap_new _ _) 0
      have hrow2 := Aside0.mk (Kd.R_below (Kd.R_below hrow.out hb1) hA2)
      have hM : Aside0 (kSch.M (w1.alloc (.cells #[.slice An nodes.length cn] 54)) w.heap.size (fun i => wr.heap.size ≤ i) ⟨nodes⟩ [.slice An nodes.length cn]) := ⟨PPolicyHolds.k54_mkM _ _ _ _ (Kd.R_below (Kd.R_lower (Kd.R_mono (Kd.R_bound hN) (fun i hi => hi.2.1)) hb.out.size) hA2)⟩
      have hgs : w.heap.size ≤ wr.heap.size := hb.out.size
      have hgs2 : w.heap.size ≤ (w1.alloc (.cells #[.slice An nodes.length cn] 54)).heap.size := hw2.out.size
      clear hnC hnl hN hb1 hA2 hcell
      cases ok with
      | false =>
        go_wp2_with (fail)
        exact hpn.out _ (hq3.out (by trivial)) hw2.out
      | true =>
        have hll : (schemasL (l.take k)).length = k := by rw [hsl]; simp; omega
        have hfr2 : ∀ i, wr.heap.size ≤ i → w.heap.size ≤ i ∧ some i ≠ (Value.slice A1 k c1).ownBlock := fun i hi => ⟨by omega, fun e => by have := hfr.out i e.symm; omega⟩
        replace hfr2 := Aside0.mk hfr2
        go_wp2_with (at_builtin; go_loud (refine Kd.R_append kSch (w0 := w) w.heap.size rfl (.tmp 22) (.tmp 24) 45 54 _ 24 rfl Tryz.underlying45 infoSch rfl (by decide) (by omega) (.slice A1 k c1) (schemasL (l.take k)) ⟨nodes⟩ [.slice An nodes.length cn] (fun i => w.heap.size ≤ i) (fun i => wr.heap.size ≤ i) rfl (by go_simp) hM.out hfr2.out ?aF hrow2.out hw2.out hgs2 ?aL ?_; (case aF => exact fun i hi => Nat.le_trans hgs2 hi); (case aL => rw [hll]; omega); intro v3 w3 hR3 hB3 hg3 hat3; rw [← hq2.out trivial] at hR3; obtain ⟨A3, c3, rfl⟩ := Kd.R_slice hR3; replace hR3 := Aside0.mk hR3; replace hB3 := Aside0.mk hB3; clear hg3 hat3))
        have hl3 : (schemasL (l.take (k + 1))).length = k + 1 := by rw [hsl]; simp; omega
        rw [hl3] at hR3
        go_roundw
        case rel => exact ⟨k + 1, A3, c3, by go_num, rfl, by omega, hq1, hR3, hB3⟩
        case measure => simp [intOf]; omega
    · obtain rfl : k = l.length := by omega
      have e1 := hall.out
      have e2 := hrow.out
      rw [List.take_length] at e1 e2
      have hle := (Kd.R_reads' e2).2
      have he := Aside0.mk ((hsl l).symm : l.length = (schemasL l).length)
      replace hle := Aside0.mk hle
      clear e2 hsl
      replace e1 := Aside0.mk e1
      go_wp2_with (fail)
      have := hpy.out wr A1 c1 e1.out (he.out ▸ hle.out.1) hle.out.2 hb.out
      rw [← he.out] at this
      exact this

theorem canon_schema {s : ByteArray} (h : canonIs s = true) : SchemaOk (parseSpec s).1 := by
  refine parse_schema s ?_ (words_good s)
  unfold canonIs canonText at h
  rcases hp : parseSpec s with ⟨o, t, y⟩
  rw [hp] at h
  simp only at h ⊢
  by_cases hy : y = 0
  · exact hy
  · rw [if_pos hy] at h; simp [hy] at h
theorem schemas_ok {l : List ByteArray} (h : schemasB l = true) : SchOk (schemasL l) := by
  intro x hx
  unfold schemasL at hx
  obtain ⟨s, hs, rfl⟩ := List.mem_map.1 hx
  exact canon_schema (List.all_eq_true.1 h s hs)

set_option maxRecDepth 100000 in
set_option maxHeartbeats 2000000 in
theorem Holds_calls (p : Int) (l : List ByteArray) (hs : ∀ s ∈ l, s.size ≤ 140737488351232) (hn : l.length ≤ 1000) {A : Option Addr} {c : Nat} {w : World} (hL : LaidAt w) (hC : Kd.string.C w A l.length l) :
    Calls Tryz.prog 11 #[.int .i64 p, .slice A l.length c] w fun e w' => e = .returned (.bool (HoldsB p l)) ∧ Below w.heap.size w w' := by
  have HS := schemas_calls l hs hn (c := c) hL hC
  have E : HoldsB p l = (schemasB l && isB p && holdsL p (schemasL l)) := rfl
  have HI : Aside0 (∀ W, Calls Tryz.prog 28 #[.int .i64 p] W fun e w' => e = .returned (.bool (isB p)) ∧ w' = W) := ⟨fun W => is_p_calls p W⟩
  have hip : isB p = true → 0 ≤ p ∧ p ≤ 6 := fun h => by unfold isB at h; simp at h; omega
  replace hL := Aside0.mk hL
  cases h0 : schemasB l with
  | false =>
    rw [h0] at E
    have HS2 := Aside0.mk (HS.mono (R' := fun e w' => ∃ v, e = .returned (.tuple #[v, .bool false]) ∧ Below w.heap.size w w') fun e w' h => by obtain ⟨xs, A1, c1, _, a, _, _, b⟩ := h; rw [h0] at a; exact ⟨_, a, b⟩)
    clear HS h0 hip
    replace E := Aside0.mk E
    go_enter Tryz.func11, Tryz.ntmps11
    go_wp2_with (fail)
    refine HS2.out.mono ?_
    rintro _ w1 ⟨v, rfl, hb⟩
    replace hb := Aside0.mk hb
    go_wp2_with (fail)
    go_ret
    exact ⟨by rw [E.out]; rfl, hb.out⟩
  | true =>
    have hok := schemas_ok h0
    rw [h0] at E
    have HS2 := Aside0.mk (HS.mono (R' := fun e w' => ∃ A1 c1, e = .returned (.tuple #[.slice A1 (schemasL l).length c1, .bool true]) ∧ (schemasL l).length ≤ c1 ∧ kSch.C w' A1 (schemasL l).length (schemasL l) ∧ Below w.heap.size w w') fun e w' h => by obtain ⟨xs, A1, c1, hx, a, b, c, d⟩ := h; rw [h0] at a hx; subst hx; exact ⟨A1, c1, a, b, c, d⟩)
    clear HS h0
    generalize schemasL l = xs at *
    cases hi : isB p with
    | false =>
      rw [hi] at E HI
      clear hip hi
      replace E := Aside0.mk E
      replace hok := Aside0.mk hok
      go_enter Tryz.func11, Tryz.ntmps11
      go_wp2_with (fail)
      refine HS2.out.mono ?_
      rintro _ w1 ⟨A1, c1, rfl, hle, hX, hb⟩
      replace hb := Aside0.mk hb
      clear hle hX
      go_wp2_with (go_at_call 28; refine (HI.out _).mono ?_; rintro _ wx ⟨rfl, hxe⟩; subst hxe)
      go_ret
      exact ⟨by rw [E.out]; rfl, hb.out⟩
    | true =>
      have hp := hip hi
      rw [hi] at E HI
      have HH : Aside0 (∀ W A1 c1, Below w.heap.size w W → kSch.C W A1 xs.length xs → xs.length ≤ c1 → Calls Tryz.prog 29 #[.int .i64 p, .slice A1 xs.length c1] W fun e w' => e = .returned (.bool (holdsL p xs)) ∧ Below W.heap.size W w') := ⟨fun W A1 c1 hW hX hle => holds_p_calls p hp xs hok (hL.out.below hW) hX hle⟩
      generalize holdsL p xs = q at *
      clear hip hi
      replace E := Aside0.mk E
      replace hok := Aside0.mk hok
      go_enter Tryz.func11, Tryz.ntmps11
      go_wp2_with (fail)
      refine HS2.out.mono ?_
      rintro _ w1 ⟨A1, c1, rfl, hle, hX, hb⟩
      have HH2 := Aside0.mk (HH.out w1 A1 c1 hb hX hle)
      replace hb := Aside0.mk hb
      clear hle hX
      go_wp2_with (first | (go_at_call 28; refine (HI.out _).mono ?_; rintro _ wx ⟨rfl, hxe⟩; subst hxe) | (go_at_call 29; refine HH2.out.mono ?_; rintro _ w2 ⟨rfl, hb2⟩))
      go_ret
      exact ⟨by rw [E.out]; simp, below_of hb.out hb2⟩
end Go.Proofs.YtkafikdjhiienaaGreatDoor

/- pol5 -/
namespace Go.Proofs.YtkafikdjhiienaaGreatDoor
open Go.RowKit Go.Proofs.YtkafikdjhiienaaGreatDoorW.PrintWords

set_option maxRecDepth 100000 in
set_option maxHeartbeats 4000000 in
theorem Next_calls (p : Int) (l : List ByteArray) (s : ByteArray) (hs : ∀ s ∈ l, s.size ≤ 140737488351232) (hs1 : s.size ≤ 140737488351232) (hn : l.length ≤ 1000) {A : Option Addr} {c : Nat} {w : World} (hL : LaidAt w) (hC : Kd.string.C w A l.length l) :
    Calls Tryz.prog 13 #[.int .i64 p, .slice A l.length c, .string s] w fun e w' => e = .returned (.bool (NextB p l s)) ∧ Below w.heap.size w w' := by
  have E : NextB p l s = (schemasB l && canonIs s && isB p && nextB p (schemasL l) ⟨(parseSpec s).1⟩) := rfl
  have HI : Aside0 (∀ W, Calls Tryz.prog 28 #[.int .i64 p] W fun e w' => e = .returned (.bool (isB p)) ∧ w' = W) := ⟨fun W => is_p_calls p W⟩
  have hip : isB p = true → 0 ≤ p ∧ p ≤ 6 := fun h => by unfold isB at h; simp at h; omega
  have HS2 := (schemas_calls l hs hn (c := c) hL hC).mono (R' := fun e w' => ∃ xs : List Sch, ∃ A1 c1, e = .returned (.tuple #[.slice A1 xs.length c1, .bool (schemasB l)]) ∧ (schemasB l = true → xs = schemasL l) ∧ xs.length ≤ c1 ∧ kSch.C w' A1 xs.length xs ∧ Below w.heap.size w w') fun e w' h => by
    obtain ⟨xs, A1, c1, hx, a, b, c, d⟩ := h
    exact ⟨xs, A1, c1, a, fun h => by rw [hx, h]; rfl, b, c, d⟩
  have HX : ∀ W, Below w.heap.size w W → Calls Tryz.prog 32 #[.string s] W fun e w' => ∃ (v : Value), e = .returned (.tuple #[.agg #[v], .bool (canonIs s)]) ∧ (∃ A1 c1, v = .slice A1 (schemaSpec s).length c1 ∧ kNod.C w' A1 (schemaSpec s).length (schemaSpec s)) ∧ Below W.heap.size W w' := fun W hW =>
    (Schema_calls s W hs1 (hL.below hW)).mono fun e w' h => by
      obtain ⟨v, a, b, c⟩ := h
      obtain ⟨A1, c1, rfl, _, d⟩ := Kd.R_reads b
      exact ⟨_, a, ⟨A1, c1, rfl, d⟩, c⟩
  have hq : ∀ (xs : List Sch), (schemasB l = true → xs = schemasL l) → schemasB l = true → canonIs s = true → SchOk xs ∧ SchemaOk (schemaSpec s) ∧ nextB p (schemasL l) ⟨(parseSpec s).1⟩ = nextB p xs ⟨schemaSpec s⟩ := fun xs hx h0 h1 => by
    rw [hx h0]
    refine ⟨schemas_ok h0, ?_, ?_⟩
    · unfold schemaSpec; rw [if_pos h1]; exact canon_schema h1
    · unfold schemaSpec; rw [if_pos h1]
  have HN : ∀ W (xs : List Sch) A1 c1 A2 c2, 0 ≤ p ∧ p ≤ 6 → SchOk xs → SchemaOk (schemaSpec s) → Below w.heap.size w W → kSch.C W A1 xs.length xs → xs.length ≤ c1 → kNod.C W A2 (schemaSpec s).length (schemaSpec s) → Calls Tryz.prog 33 #[.int .i64 p, .slice A1 xs.length c1, .agg #[.slice A2 (schemaSpec s).length c2]] W fun e w' => e = .returned (.bool (nextB p xs ⟨schemaSpec s⟩)) ∧ Below W.heap.size W w' := fun W xs A1 c1 A2 c2 hp h1 h2 hW hX hle h3 => next_calls p hp xs ⟨schemaSpec s⟩ h1 h2 (hL.below hW) hX hle h3
  generalize nextB p (schemasL l) ⟨(parseSpec s).1⟩ = q at *
  generalize schemasL l = xs0 at *
  generalize schemasB l = b0 at *
  generalize canonIs s = b1 at *
  generalize isB p = b2 at *
  generalize schemaSpec s = o at *
  replace HS2 := Aside0.mk HS2
  replace HX := Aside0.mk HX
  replace HN := Aside0.mk HN
  replace hq := Aside0.mk hq
  replace hip := Aside0.mk hip
  generalize NextB p l s = spec at *
  replace E := Aside0.mk E
  replace hL := Aside0.mk hL
  replace hs := Aside0.mk hs
  replace hC := Aside0.mk hC
  go_enter Tryz.func13, Tryz.ntmps13
  go_wp2_with (fail)
  refine HS2.out.mono ?_
  rintro _ w1 ⟨xs, A1, c1, rfl, hx, hle, hX, hb⟩
  have HX1 := Aside0.mk (HX.out w1 hb)
  replace hx := Aside0.mk hx
  replace hle := Aside0.mk hle
  replace hX := Aside0.mk hX
  replace hb := Aside0.mk hb
  go_wp2_with (fail)
  refine HX1.out.mono ?_
  rintro _ w2 ⟨v, rfl, ⟨A2, c2, rfl, ho⟩, hb2⟩
  have hA2 : Below w2.heap.size w2 (w2.alloc (.cells #[.slice A2 o.length c2] 54)) := (Below.refl _ _).alloc (Nat.le_refl _) _
  have hb3 := Aside0.mk (below_of (below_of hb.out hb2) hA2)
  have hX3 := Aside0.mk (Kd.C_below (Kd.C_below hX.out hb2) hA2)
  have ho3 := Aside0.mk (Kd.C_below ho hA2)
  have hcell : (w2.alloc (.cells #[.slice A2 o.length c2] 54)).cell? ⟨w2.heap.size, 0, none⟩ = some (.slice A2 o.length c2) := blk_cell (World.alloc_heap_new _ _) 0
  have HN2 : b0 = true → b1 = true → b2 = true → Calls Tryz.prog 33 #[.int .i64 p, .slice A1 xs.length c1, .agg #[.slice A2 o.length c2]] (w2.alloc (.cells #[.slice A2 o.length c2] 54)) fun e w' => e = .returned (.bool q) ∧ Below w.heap.size w w' := fun h0 h1 h2 => by
    obtain ⟨k1, k2, k3⟩ := hq.out xs hx.out h0 h1
    have := HN.out _ xs A1 c1 A2 c2 (hip.out h2) k1 k2 hb3.out hX3.out hle.out ho3.out
    rw [k3]
    exact this.mono fun e w' h => ⟨h.1, below_of hb3.out h.2⟩
  replace HN2 := Aside0.mk HN2
  clear HN hq HS2 HX HX1 ho hb2 hA2
  cases b0 with
  | false =>
    have E2 : Aside0 (spec = false) := ⟨by rw [E.out]; simp⟩
    clear E
    go_wp2_with (fail)
    go_ret
    exact ⟨by rw [E2.out]; rfl, hb3.out⟩
  | true =>
    cases b1 with
    | false =>
      have E2 : Aside0 (spec = false) := ⟨by rw [E.out]; simp⟩
      clear E
      go_wp2_with (fail)
      go_ret
      exact ⟨by rw [E2.out]; rfl, hb3.out⟩
    | true =>
      cases b2 with
      | false =>
        have E2 : Aside0 (spec = false) := ⟨by rw [E.out]; simp⟩
        clear E
        go_wp2_with (go_at_call 28; refine (HI.out _).mono ?_; rintro _ wx ⟨rfl, hxe⟩; subst hxe)
        go_ret
        exact ⟨by rw [E2.out]; rfl, hb3.out⟩
      | true =>
        have E2 : Aside0 (spec = q) := ⟨by rw [E.out]; simp⟩
        have HN3 := Aside0.mk (HN2.out rfl rfl rfl)
        clear E
        go_wp2_with (first | (go_at_call 28; refine (HI.out _).mono ?_; rintro _ wx ⟨rfl, hxe⟩; subst hxe) | (go_at_call 33; refine HN3.out.mono ?_; rintro _ w4 ⟨rfl, hb4⟩))
        go_ret
        exact ⟨by rw [E2.out]; rfl, hb4⟩
end Go.Proofs.YtkafikdjhiienaaGreatDoor

/- pol6 -/
namespace Go.Proofs.YtkafikdjhiienaaGreatDoor
open Go.RowKit Go.Proofs.YtkafikdjhiienaaGreatDoorW.PrintWords

theorem holds_live : HoldsB 1 [⟨#[105, 110, 116]⟩, ⟨#[108, 111, 110, 103]⟩] = true := by decide +kernel
theorem holds_live2 : HoldsB 2 [⟨#[105, 110, 116]⟩, ⟨#[108, 111, 110, 103]⟩] = false := by decide +kernel

def namesL : List ByteArray := [⟨#[110, 111, 110, 101]⟩, ⟨#[98, 97, 99, 107, 119, 97, 114, 100]⟩, ⟨#[102, 111, 114, 119, 97, 114, 100]⟩, ⟨#[102, 117, 108, 108]⟩, ⟨#[98, 97, 99, 107, 119, 97, 114, 100, 45, 97, 108, 108]⟩, ⟨#[102, 111, 114, 119, 97, 114, 100, 45, 97, 108, 108]⟩, ⟨#[102, 117, 108, 108, 45, 97, 108, 108]⟩]
def NamesAt (w : World) : Prop := ∀ j, j < 7 → w.cell? ⟨0, j, none⟩ = some (.string (namesL.getD j ByteArray.empty))
theorem NamesAt.below {w w' : World} (h : NamesAt w) (hb : Below w.heap.size w w') : NamesAt w' := fun j hj => pw_cell_below hb (h j hj)

theorem Name_full (w : World) (h : NamesAt w) : Calls Tryz.prog 18 #[.int .i64 6] w fun e w' => e = .returned (.string ⟨#[102, 117, 108, 108, 45, 97, 108, 108]⟩) ∧ w' = w := by
  have h6 : w.cell? ⟨0, 6, none⟩ = some (.string ⟨#[102, 117, 108, 108, 45, 97, 108, 108]⟩) := h 6 (by decide)
  have HI := Aside0.mk (is_p_calls 6 w)
  rw [show isB 6 = true from by decide] at HI
  replace h := Aside0.mk h
  go_enter Tryz.func18, Tryz.ntmps18
  go_wp2_with (go_at_call 28; refine HI.out.mono ?_; rintro _ wx ⟨rfl, hxe⟩; subst hxe)
  go_ret
  exact ⟨rfl, rfl⟩

theorem C_two (w : World) : Kd.string.C (w.alloc (.cells #[.string ⟨#[105, 110, 116]⟩, .string ⟨#[108, 111, 110, 103]⟩] 9)) (some ⟨w.heap.size, 0, none⟩) 2 [⟨#[105, 110, 116]⟩, ⟨#[108, 111, 110, 103]⟩] :=
  ⟨rfl, by decide, fun _ => ⟨_, rfl, fun j p hj => by
    have hb := World.alloc_heap_new w (.cells #[.string ⟨#[105, 110, 116]⟩, .string ⟨#[108, 111, 110, 103]⟩] 9)
    match j, hj with
    | 0, hj => obtain rfl := Option.some.inj hj; exact ⟨[_], rfl, rfl, fun i u hi => by match i, hi with | 0, hi => obtain rfl := Option.some.inj hi; exact (blk_cell hb 0).trans rfl⟩
    | 1, hj => obtain rfl := Option.some.inj hj; exact ⟨[_], rfl, rfl, fun i u hi => by match i, hi with | 0, hi => obtain rfl := Option.some.inj hi; exact (blk_cell hb 1).trans rfl⟩⟩⟩

set_option maxRecDepth 100000 in
set_option maxHeartbeats 1000000 in
theorem lives_calls (w : World) (hL : LaidAt w) (hN : NamesAt w) : Calls Tryz.prog 15 #[] w fun e w' => e = .returned (.bool true) ∧ Below w.heap.size w w' := by
  have hA : Below w.heap.size w (w.alloc (.cells #[.string ⟨#[105, 110, 116]⟩, .string ⟨#[108, 111, 110, 103]⟩] 9)) := (Below.refl _ _).alloc (Nat.le_refl _) _
  have HH : Aside0 (∀ p b W, HoldsB p [⟨#[105, 110, 116]⟩, ⟨#[108, 111, 110, 103]⟩] = b → Below w.heap.size w W → Kd.string.C W (some ⟨w.heap.size, 0, none⟩) 2 [⟨#[105, 110, 116]⟩, ⟨#[108, 111, 110, 103]⟩] → Calls Tryz.prog 11 #[.int .i64 p, .slice (some ⟨w.heap.size, 0, none⟩) 2 2] W fun e w' => e = .returned (.bool b) ∧ Below W.heap.size W w') := ⟨fun p b W hb hW hC => hb ▸ Holds_calls p _ (by simp; decide) (by decide) (hL.below hW) hC⟩
  have H1 := Aside0.mk (HH.out 1 true _ holds_live hA (C_two w))
  have HN : Aside0 (∀ W, Below w.heap.size w W → Calls Tryz.prog 18 #[.int .i64 6] W fun e w' => e = .returned (.string ⟨#[102, 117, 108, 108, 45, 97, 108, 108]⟩) ∧ w' = W) := ⟨fun W hW => Name_full W (hN.below hW)⟩
  have hC := Aside0.mk (C_two w)
  replace hA := Aside0.mk hA
  clear hL hN
  go_enter Tryz.func15, Tryz.ntmps15
  go_wp2_with (fail)
  refine H1.out.mono ?_
  rintro _ w1 ⟨rfl, hb1⟩
  have H2 := Aside0.mk (HH.out 2 false _ holds_live2 (below_of hA.out hb1) (Kd.C_below hC.out hb1))
  replace hb1 := Aside0.mk hb1
  go_wp2_with (fail)
  refine H2.out.mono ?_
  rintro _ w2 ⟨rfl, hb2⟩
  have hb3 := Aside0.mk (below_of (below_of hA.out hb1.out) hb2)
  have H3 := Aside0.mk (HN.out w2 hb3.out)
  go_wp2_with (fail)
  refine H3.out.mono ?_
  rintro _ w3 ⟨rfl, hxe⟩
  subst hxe
  go_wp2_with (fail)
  go_ret
  exact ⟨rfl, hb3.out⟩

/-- few: six at most. -/
theorem few_calls (l : List ByteArray) {A : Option Addr} {c : Nat} (w : World) (hC : Kd.string.C w A l.length l) (hc : l.length ≤ c) :
    Calls Tryz.prog 10 #[.slice A l.length c] w fun e w' => e = .returned (.slice A (l.take 6).length c) ∧ w' = w := by
  have hmax := Kd.C_max hC
  replace hC := Aside0.mk hC
  by_cases h : 6 < l.length
  · have h6 : (l.take 6).length = 6 := by simp; omega
    have hc6 : 6 ≤ c := by omega
    obtain ⟨b, off, rfl, -, -⟩ := C_strings hC.out (by omega)
    rw [h6]
    go_enter Tryz.func10, Tryz.ntmps10
    go_wp2_with (fail)
    go_ret
    exact ⟨rfl, rfl⟩
  · have h6 : (l.take 6).length = l.length := by simp; omega
    rw [h6]
    go_enter Tryz.func10, Tryz.ntmps10
    go_wp2_with (fail)
    go_ret
    exact ⟨rfl, rfl⟩
end Go.Proofs.YtkafikdjhiienaaGreatDoor

/- pol7 -/
namespace Go.Proofs.YtkafikdjhiienaaGreatDoor
open Go.RowKit Go.Proofs.YtkafikdjhiienaaGreatDoorW.PrintWords

theorem holdsFrom_append (p : Int) (xs : List Sch) (x : Sch) : ∀ (m i : Nat), i + m = xs.length → holdsFrom p (xs ++ [x]) (m + 1) i = (holdsFrom p xs m i && nextB p xs x)
  | 0, i, h => by
    obtain rfl : i = xs.length := by omega
    show (nextB p ((xs ++ [x]).take xs.length) (PPolicyHolds.rd_T54 (xs ++ [x]) xs.length) && true) = (true && nextB p xs x)
    rw [List.take_left, Bool.and_true, Bool.true_and]
    congr 1
    simp [PPolicyHolds.rd_T54, List.getD_eq_getElem?_getD]
  | m + 1, i, h => by
    show (nextB p ((xs ++ [x]).take i) (PPolicyHolds.rd_T54 (xs ++ [x]) i) && holdsFrom p (xs ++ [x]) (m + 1) (i + 1)) = ((nextB p (xs.take i) (PPolicyHolds.rd_T54 xs i) && holdsFrom p xs m (i + 1)) && nextB p xs x)
    rw [holdsFrom_append p xs x m (i + 1) (by omega), List.take_append_of_le_length (by omega)]
    have : PPolicyHolds.rd_T54 (xs ++ [x]) i = PPolicyHolds.rd_T54 xs i := by
      simp only [PPolicyHolds.rd_T54, List.getD_eq_getElem?_getD, Int.toNat_natCast]
      rw [List.getElem?_append_left (by omega)]
    rw [this, Bool.and_assoc]
theorem holdsL_append (p : Int) (xs : List Sch) (x : Sch) : holdsL p (xs ++ [x]) = (holdsL p xs && nextB p xs x) := by
  unfold holdsL
  rw [List.length_append, List.length_singleton]
  exact holdsFrom_append p xs x xs.length 0 (by omega)

/-- What the law has added up behind n versions. -/
def wantB (p : Int) (l : List ByteArray) : Nat → Bool
  | 0 => isB p
  | n + 1 => wantB p l n && NextB p (l.take n) (l.getD n ByteArray.empty)
theorem wantB_eq (p : Int) (l : List ByteArray) : ∀ n, n ≤ l.length → wantB p l n = HoldsB p (l.take n)
  | 0, _ => by
    show isB p = HoldsB p (l.take 0)
    unfold HoldsB
    rw [List.take_zero]
    show isB p = (true && isB p && true)
    simp
  | n + 1, h => by
    show (wantB p l n && NextB p (l.take n) (l.getD n ByteArray.empty)) = _
    rw [wantB_eq p l n (by omega)]
    have hx : l.take (n + 1) = l.take n ++ [l.getD n ByteArray.empty] := by
      rw [List.take_add_one, List.getElem?_eq_getElem (by omega)]
      simp [List.getD_eq_getElem?_getD, List.getElem?_eq_getElem (show n < l.length by omega)]
    rw [hx]
    generalize l.getD n ByteArray.empty = s
    generalize l.take n = m
    unfold HoldsB NextB
    have h1 : schemasB (m ++ [s]) = (schemasB m && canonIs s) := by unfold schemasB; rw [List.all_append]; simp
    have h2 : schemasL (m ++ [s]) = schemasL m ++ [⟨(parseSpec s).1⟩] := by unfold schemasL; rw [List.map_append]; rfl
    rw [h1, h2, holdsL_append]
    cases schemasB m <;> cases canonIs s <;> cases isB p <;> cases holdsL p (schemasL m) <;> simp
theorem steps_law (p : Int) (l : List ByteArray) : HoldsB p l = wantB p l l.length := by
  rw [wantB_eq p l l.length (Nat.le_refl _), List.take_length]

theorem infoStr12 : (Tryz.prog.info? 9).map (fun i => (i.zero, i.size, i.bytes)) = some (some (.string ByteArray.empty), 1, 16) := by kernel_rfl
theorem R_empty (w : World) (base : Nat) (hb : base ≤ w.heap.size) : Kd.string.R 9 (w.alloc (.cells #[] 9)) base (fun i => w.heap.size ≤ i) (.slice (some ⟨w.heap.size, 0, none⟩) 0 0) [] :=
  ⟨fun k hk => by have : w.heap.size = k := by simpa [Value.ownBlock] using hk
                  omega, [], by have h := World.ownsRow_lit (base := base) (e := 9) (size := 1) w #[] 0 hb (by decide) (by simp); exact h, Reps.none _ _⟩

set_option maxRecDepth 100000 in
set_option maxHeartbeats 4000000 in
theorem steps_calls (p : Int) (l0 : List ByteArray) (hs : ∀ s ∈ l0, s.size ≤ 140737488351232) {A : Option Addr} {c : Nat} (w : World) (hL : LaidAt w) (hNm : NamesAt w) (hC : Kd.string.C w A l0.length l0) (hc : l0.length ≤ c) :
    Calls Tryz.prog 4 #[.int .i64 p, .slice A l0.length c] w fun e w' => e = .returned (.bool true) ∧ Below w.heap.size w w' := by
  have HF := few_calls l0 (c := c) w hC hc
  have hC6 := Kd.C_take hC (m := (l0.take 6).length) (by simp; omega)
  have ht : l0.take (l0.take 6).length = l0.take 6 := by simp [List.take_eq_take_iff]
  rw [ht] at hC6
  have hs6 : ∀ s ∈ l0.take 6, s.size ≤ 140737488351232 := fun s h => hs s (List.mem_of_mem_take h)
  have hc6 : (l0.take 6).length ≤ c := by simp; omega
  have hl6 : (l0.take 6).length ≤ 6 := by simp; omega
  generalize l0.take 6 = l at *
  have HN : Aside0 (∀ (W : World) (k : Nat) (A' : Option Addr) (c' : Nat), k < l.length → Below w.heap.size w W → Kd.string.C W A' k (l.take k) → Calls Tryz.prog 13 #[.int .i64 p, .slice A' k c', .string (l.getD k ByteArray.empty)] W fun e w' => e = .returned (.bool (NextB p (l.take k) (l.getD k ByteArray.empty))) ∧ Below W.heap.size W w') := ⟨fun W k A' c' hk hW hT => by
    have hle : (l.take k).length = k := by simp; omega
    have := Next_calls p (l.take k) (l.getD k ByteArray.empty) (fun s h => hs6 s (List.mem_of_mem_take h)) (by rw [List.getD_eq_getElem?_getD, List.getElem?_eq_getElem hk]; exact hs6 _ (List.getElem_mem _)) (by omega) (c := c') (hL.below hW) (by rw [hle]; exact hT)
    rwa [hle] at this⟩
  have HH : Aside0 (∀ (W : World) (A' : Option Addr) (c' : Nat), Below w.heap.size w W → Kd.string.C W A' l.length l → Calls Tryz.prog 11 #[.int .i64 p, .slice A' l.length c'] W fun e w' => e = .returned (.bool (HoldsB p l)) ∧ Below W.heap.size W w') := ⟨fun W A' c' hW hT => Holds_calls p l hs6 (by omega) (hL.below hW) hT⟩
  have HLv : Aside0 (∀ W, Below w.heap.size w W → Calls Tryz.prog 15 #[] W fun e w' => e = .returned (.bool true) ∧ Below W.heap.size W w') := ⟨fun W hW => lives_calls W (hL.below hW) (hNm.below hW)⟩
  replace HF := Aside0.mk HF
  replace hL := Aside0.mk hL
  replace hs := Aside0.mk hs
  replace hs6 := Aside0.mk hs6
  replace hC := Aside0.mk hC
  replace hC6 := Aside0.mk hC6
  replace hNm := Aside0.mk hNm
  have hw0 : wantB p l 0 = (decide (0 ≤ p) && decide (p ≤ 6)) := by show isB p = _; unfold isB; congr 1; rw [decide_eq_decide]; omega
  by_cases h0 : 0 ≤ p
  all_goals (
    have h0' := Aside0.mk h0
    go_enter Tryz.func4, Tryz.ntmps4
    go_upto_region 4 with (go_at_call 10; refine HF.out.mono ?_; rintro _ wx ⟨rfl, hxe⟩; subst hxe)
    go_loopw [5, 6] (fun v5 v6 wr => ∃ k : Nat, v6 = .int .i64 k ∧ v5 = .bool (wantB p l k) ∧ k ≤ l.length ∧ Aside0 (Below wx.heap.size wx wr)) (fun _ v _ => l.length - (intOf v).toNat)
    case atStart => exact ⟨0, rfl, by rw [hw0]; first | (simp [h0'.out]; done) | (rw [show decide (0 ≤ p) = false from decide_eq_false (by omega)]; rfl), Nat.zero_le _, ⟨Below.refl _ _⟩⟩
    case round =>
      obtain ⟨k, rfl, rfl, hk, hb⟩ := hrel
      by_cases hlt : k < l.length
      · obtain ⟨b, off, rfl, hbl, hcs⟩ := C_strings (Kd.C_below hC6.out hb.out) (by omega)
        have hcell := hcs k hlt
        clear hcs
        have hstep : Aside0 (wantB p l (k + 1) = (wantB p l k && NextB p (l.take k) (l.getD k ByteArray.empty))) := ⟨rfl⟩
        have HN2 := fun W A' c' => HN.out W k A' c' hlt
        generalize NextB p (l.take k) (l.getD k ByteArray.empty) = q at *
        generalize l.getD k ByteArray.empty = s at *
        cases hwt : wantB p l k with
        | false =>
          replace HN2 := Aside0.mk HN2
          go_wp2_with (fail)
          have hs2 : wantB p l (k + 1) = false := by rw [hstep.out, hwt]; rfl
          go_quiet (fail)
          all_goals go_wp2_with (fail)
          all_goals exact ⟨⟨k + 1, by go_num, by rw [hs2], by omega, ⟨below_of hb.out (pw_below_drewN (Below.refl _ _) _)⟩⟩, by simp [intOf]; omega⟩
        | true =>
          have HR : Aside0 (Kd.string.C wr.drew (some ⟨b, off, none⟩) k (l.take k)) := ⟨by
            have := Kd.C_take (Kd.C_below hC6.out hb.out.drew) (m := k) hk
            rwa [show (l.take k).length = k by simp; omega] at this⟩
          have hE := Aside0.mk (R_empty wr.drew wx.heap.size hb.out.size)
          have hB6 : Aside0 (Below wx.heap.size wx (wr.drew.alloc (.cells #[] 9))) := ⟨hb.out.drew.alloc hb.out.size _⟩
          have hgs : wx.heap.size ≤ wr.heap.size := hb.out.size
          have hqc : (wr.drew.alloc (.cells #[] 9)).cell? ⟨b, off + k, none⟩ = some (.string s) := ((below_alloc (Below.refl _ _) _).cell (p := ⟨b, off + k, none⟩) hbl).trans hcell
          have hkc : k ≤ c := by omega
          have hlk : (l.take k).length = k := by simp; omega
          have hbl2 : b ≠ wr.heap.size := by omega
          replace HN2 := Aside0.mk HN2
          go_wp2_with (fail)
          go_region_held3 (fun w' => w'.cell? ⟨b, off + k, none⟩ = some (.string s)) (first | go_keep | exact hqc | exact hq3 | exact hq4) (first
            | (refine Kd.R_append_rows_step Kd.string (Rr := fun x cs => cs = [.string x]) (w0 := wx) wx.heap.size (by rfl) (.tmp 24) (.tmp 27) 22 9 _ 16 (by rfl) Tryz.underlying22 infoStr12 rfl (by decide) (by omega) (.slice (some ⟨wr.heap.size, 0, none⟩) 0 0) [] (l.take k) (some ⟨b, off, none⟩) k c (fun i => wr.heap.size ≤ i) (fun _ => False) (by rfl) (by rfl) hE.out (Kd.C_alloc HR.out _) ?aK (fun _ hk => hk.elim) ?aF hB6.out hB6.out.size ?aL ?_; (case aK => exact fun x cs h => h); (case aF => exact fun i hi => Nat.le_trans (by simp) hi); (case aL => simp; omega); intro v3 w3 hR3 hB3 hg3 hat3; rw [List.nil_append] at hR3; obtain ⟨A3, c3, rfl, -, hC3⟩ := Kd.R_reads hR3; rw [hlk] at hC3; have hq3 : w3.cell? ⟨b, off + k, none⟩ = some (.string s) := (World.cell?_of_block (w := wr.drew.alloc (.cells #[] 9)) (hg3.block b (by simp; omega) (by simp [Value.ownBlock]; omega))).trans hqc; have HN3 := Aside0.mk (HN2.out w3 A3 c3 hB3 hC3); replace hB3 := Aside0.mk hB3; clear hR3 hg3 hat3 hC3)
            | (go_at_call 13; refine HN3.out.mono ?_; rintro _ w4 ⟨rfl, hb4⟩; have hB4 := Aside0.mk (below_of hB3.out hb4); have hq4 := pw_cell_below hb4 hq3; clear hb4))
          all_goals go_wp2_with (fail)
          all_goals exact ⟨⟨k + 1, by go_num, by rw [hstep.out, hwt, Bool.true_and], by omega, hB4⟩, by simp [intOf]; omega⟩
      · obtain rfl : k = l.length := by omega
        have hE := Aside0.mk (R_empty wr wx.heap.size hb.out.size)
        have hB6 : Aside0 (Below wx.heap.size wx (wr.alloc (.cells #[] 9))) := ⟨hb.out.alloc hb.out.size _⟩
        have hR6 := Aside0.mk (Kd.C_below hC6.out hB6.out)
        have hlaw := Aside0.mk (steps_law p l)
        generalize wantB p l l.length = q at *
        go_wp2_with (first
          | (at_builtin; refine Kd.R_append_rows Kd.string (Rr := fun x cs => cs = [.string x]) (w0 := wx) wx.heap.size rfl (.tmp 36) (.tmp 37) 22 9 _ 16 rfl Tryz.underlying22 infoStr12 rfl (by decide) (by omega) (.slice (some ⟨wr.heap.size, 0, none⟩) 0 0) [] l A l.length c (fun i => wr.heap.size ≤ i) (fun _ => False) rfl rfl hE.out hR6.out ?aK (fun _ hk => hk.elim) ?aF hB6.out hB6.out.size ?aL ?_; (case aK => exact fun x cs h => h); (case aF => exact fun i hi => Nat.le_trans (by simp) hi); (case aL => simp; omega); intro v3 w3 hR3 hB3 hg3 hat3; rw [List.nil_append] at hR3; obtain ⟨A3, c3, rfl, -, hC3⟩ := Kd.R_reads hR3; have HH3 := Aside0.mk (HH.out w3 A3 c3 hB3 hC3); replace hB3 := Aside0.mk hB3; clear hR3 hg3 hat3 hC3)
          | (go_at_call 11; refine HH3.out.mono ?_; rintro _ w4 ⟨rfl, hb4⟩; have hB4 := Aside0.mk (below_of hB3.out hb4); rw [hlaw.out]; clear hb4)
          | (go_at_call 15; refine (HLv.out _ hB4.out).mono ?_; rintro _ w5 ⟨rfl, hb5⟩))
        go_ret
        exact ⟨rfl, below_of hB4.out hb5⟩)
end Go.Proofs.YtkafikdjhiienaaGreatDoor

/- row -/
namespace Go.Proofs.YtkafikdjhiienaaGreatDoor
open Go.ChangeShapes Go.WideShapes Go.ChangeAt Go.RowKit Go.Proofs.YtkafikdjhiienaaGreatDoorW.PrintWords

def strsData {H : Type} (ss : List ByteArray) : DataW H := .agg (ss.map fun s => .lit (.string s.data.toList))
theorem cells_of_strs {H : Type} {enc : TypeId × Value → H} {P : Program} {w : World} {base : Nat} {sp : Nat → Bool} {held : Bool} {fuel : Nat} {t e : TypeId} {n : Nat} {cs : List Value} {ss : List ByteArray} {p : List MemPlace}
    (ht : P.underlying t = some (.array n e)) (he : P.underlying e = some .string) (hce : P.cellsOf e = 1) (hct : P.cellsOf t = n)
    (h : DataW.trod enc P w base sp held fuel t cs = some (strsData ss, p)) : cs = ss.map fun s => Value.string s := by
  cases fuel with
  | zero => simp [DataW.trod] at h
  | succ fuel =>
    simp only [DataW.trod, ht, hce, hct, Nat.mul_one] at h
    split at h
    · rename_i hl
      obtain ⟨xs, hm, hx⟩ := Option.map_eq_some_iff.1 h
      have hxs : xs.map (·.1) = ss.map fun s => (DataW.lit (.string s.data.toList) : DataW H) := by
        have := congrArg Prod.fst hx
        simpa [strsData] using this
      have hxl : xs.length = n := by simpa using Lib.mapM_length hm
      have hzl : ss.length = n := by
        have := congrArg List.length hxs
        simp at this
        omega
      apply List.ext_getElem?
      intro i
      by_cases hi : i < n
      · obtain ⟨b, hb, hf⟩ := Lib.mapM_at hm i i (by simp [hi])
        obtain ⟨z, hc, rfl, _⟩ := DataW.trod_string he hf
        have h1 : cs[i]? = some (.string z) := by
          have := congrArg (·[0]?) hc
          simpa [List.getElem?_take, List.getElem?_drop] using this
        have h2 : (xs.map (·.1))[i]? = some (DataW.lit (.string z.data.toList) : DataW H) := by simp [hb]
        rw [hxs] at h2
        simp only [List.getElem?_map, Option.map_eq_some_iff, DataW.lit.injEq, Lit.string.injEq] at h2
        obtain ⟨z', hz', e⟩ := h2
        have e2 : z' = z := by
          cases z; cases z'
          congr 1
          exact Array.toList_inj.1 e
        simp [h1, hz', e2]
      · rw [List.getElem?_eq_none (by omega), List.getElem?_eq_none (by simp; omega)]
    · cases h

def laidList : List (String × DataW Unit) := [("math/bits.deBruijn32tab", Rows.laid_math_bits_deBruijn32tab), ("math/bits.deBruijn64tab", Rows.laid_math_bits_deBruijn64tab), ("internal/strconv.uint64pow10", Rows.laid_internal_strconv_uint64pow10), ("suffragan/parse.words", Rows.laid_suffragan_parse_words), ("suffragan/policy.names", Rows.laid_suffragan_policy_names)]
theorem g_names : Tryz.prog.globalNamed "suffragan/policy.names" = some 0 := by kernel_rfl
theorem g_words : Tryz.prog.globalNamed "suffragan/parse.words" = some 1 := by kernel_rfl
theorem g_tab64 : Tryz.prog.globalNamed "math/bits.deBruijn64tab" = some 5 := by kernel_rfl
theorem t_names : (Tryz.prog.globals[0]?).map (·.type) = some 61 := by kernel_rfl
theorem t_words : (Tryz.prog.globals[1]?).map (·.type) = some 144 := by kernel_rfl
theorem t_pow10 : (Tryz.prog.globals[3]?).map (·.type) = some 181 := by kernel_rfl
theorem c_7 : Tryz.prog.cellsOf 61 = 7 := by kernel_rfl
theorem c_12 : Tryz.prog.cellsOf 144 = 12 := by kernel_rfl
theorem c_20 : Tryz.prog.cellsOf 181 = 20 := by kernel_rfl
theorem c_s : Tryz.prog.cellsOf 9 = 1 := by kernel_rfl
theorem c_u : Tryz.prog.cellsOf 62 = 1 := by kernel_rfl

theorem laid_gives {W : World} (h : laidMet Tryz.prog laidList W) : LaidAt W ∧ NamesAt W := by
  obtain ⟨ps, ⟨_, _, _, _, _, _, _, _, _, _, ⟨g2, _, cs2, _, _, _, hg2, _, hv2, _, ⟨g3, t3, cs3, fuel3, p3, _, hg3, ht3, hv3, hd3, ⟨g4, t4, cs4, fuel4, p4, _, hg4, ht4, hv4, hd4, ⟨g5, t5, cs5, fuel5, p5, _, hg5, ht5, hv5, hd5, _⟩, _⟩, _⟩, _⟩, _⟩, _⟩ := h
  obtain rfl := Option.some.inj (g_tab64.symm.trans hg2)
  obtain rfl := Option.some.inj (pow10_named.symm.trans hg3)
  obtain rfl := Option.some.inj (g_words.symm.trans hg4)
  obtain rfl := Option.some.inj (g_names.symm.trans hg5)
  obtain rfl := Option.some.inj (t_pow10.symm.trans ht3)
  obtain rfl := Option.some.inj (t_words.symm.trans ht4)
  obtain rfl := Option.some.inj (t_names.symm.trans ht5)
  have e3 := Lib.cells_of_tab (k := .u64) (zs := Lib.pow10Tab) Tryz.underlying181 Tryz.underlying62 c_u c_20 hd3
  have e4 := cells_of_strs (ss := wordsL) Tryz.underlying144 Tryz.underlying9 c_s c_12 hd4
  have e5 := cells_of_strs (ss := namesL) Tryz.underlying61 Tryz.underlying9 c_s c_7 hd5
  refine ⟨⟨?_, fun j hj => ?_, ?_⟩, fun j hj => ?_⟩
  · unfold World.var? at hv2
    rw [g_tab64] at hv2
    simp only [Option.bind_some] at hv2
    have : 5 < W.heap.size := by
      rcases Nat.lt_or_ge 5 W.heap.size with h | h
      · exact h
      · rw [Array.getElem?_eq_none h] at hv2; cases hv2
    exact this
  · have := World.var?_cell g_words hv4 j
    rw [this, ← Array.getElem?_toList, e4]
    have hl : j < wordsL.length := hj
    rw [List.getElem?_map, List.getElem?_eq_getElem hl]
    simp [List.getD_eq_getElem?_getD, List.getElem?_eq_getElem hl]
  · unfold Lib.TabIs
    rw [hv3, ← e3]
  · have := World.var?_cell g_names hv5 j
    rw [this, ← Array.getElem?_toList, e5]
    have hl : j < namesL.length := hj
    rw [List.getElem?_map, List.getElem?_eq_getElem hl]
    simp [List.getD_eq_getElem?_getD, List.getElem?_eq_getElem hl]

theorem strs_weigh {H : Type} (P : Program) (e : TypeId) : ∀ (ss : List ByteArray) (s : ByteArray), s ∈ ss → s.size ∈ DataW.weightsAll P e (strs ss : List (DataW H))
  | x :: ss, s, h => by
    have e1 : (strs (x :: ss) : List (DataW H)) = .lit (.string x.data.toList) :: strs ss := rfl
    rw [e1]
    simp only [DataW.weightsAll, List.mem_append]
    rcases List.mem_cons.1 h with rfl | h
    · exact .inl (by simp [DataW.weights])
    · exact .inr (strs_weigh P e ss s h)

/-- An argument of strings, opened. -/
theorem open_strs_arg {H : Type} {enc : TypeId × Value → H} {W : World} {a : Option Addr} {len cap j : Nat} {ts : List TypeId} {ds : List (DataW H)} {d : DataW H} {ps : List MemPlace}
    (hsz : (DataW.weightsEach Tryz.prog ts ds).all (· ≤ reachBytes) = true) (hj : ts[j]? = some 22) (hdj : ds[j]? = some d)
    (h : DataW.Trod enc Tryz.prog W 0 (fun _ => true) true 22 (.slice a len cap) d ps) :
    ∃ l : List ByteArray, l.length = len ∧ len ≤ cap ∧ Kd.string.C W a len l ∧ ∀ s ∈ l, s.size ≤ 140737488351232 := by
  obtain ⟨fuel, hf⟩ := h
  rcases open_strings Tryz.underlying22 Tryz.underlying9 c_s hf with ⟨hcs, _⟩ | ⟨x, l, c, ss, hcs, _, hl, hm, hlen, hx, hcell, _⟩
  · simp [Value.cells] at hcs
    obtain ⟨rfl, rfl, rfl⟩ := hcs
    exact ⟨[], rfl, Nat.le_refl _, ⟨rfl, by omega, fun h => absurd h (by omega)⟩, by simp⟩
  · simp [Value.cells] at hcs
    obtain ⟨rfl, rfl, rfl⟩ := hcs
    simp at hlen
    have hll : (ss.take len).length = len := by simp; omega
    refine ⟨ss.take len, hll, hl, ⟨hll, by unfold maxLen at hm; omega, fun _ => ⟨x, rfl, fun i s hi => ?_⟩⟩, fun s hs => ?_⟩
    · have hi2 : i < len := by have := (List.getElem?_eq_some_iff.1 hi).1; omega
      refine ⟨[.string s], rfl, rfl, fun i' u hu => ?_⟩
      match i', hu with
      | 0, hu =>
        obtain rfl := Option.some.inj hu
        have := hcell i (by omega)
        rw [show ss.getD i ByteArray.empty = s by
          rw [List.getElem?_take_of_lt hi2] at hi
          simp [List.getD_eq_getElem?_getD, hi]] at this
        show W.cell? (x.add (i * 1 + 0)) = _
        rw [Nat.mul_one, Nat.add_zero]
        exact this
    · have hd : d = .slice (strs (ss.take len)) (strs (ss.drop len)) := congrArg Prod.fst hx
      subst hd
      have := List.all_eq_true.1 hsz _ (DataW.weights_mem_each hj hdj s.size (by
        simp only [DataW.weights, Tryz.underlying22, List.mem_cons, List.mem_append]
        exact .inr (.inl (strs_weigh _ _ _ _ hs))))
      have h2 : s.size ≤ reachBytes := of_decide_eq_true this
      exact h2
end Go.Proofs.YtkafikdjhiienaaGreatDoor
