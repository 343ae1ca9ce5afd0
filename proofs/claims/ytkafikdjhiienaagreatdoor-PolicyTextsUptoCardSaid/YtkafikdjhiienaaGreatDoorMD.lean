/- The writer of schemas, and the one form of a text. -/
import Derived.Test.YtkafikdjhiienaaGreatDoorMG
import Derived.Test.YtkafikdjhiienaaGreatDoorMA
import Derived.Lib.Builder
import Derived.Lib.AppendStr
import Derived.Lib.UnsafeStr
import Derived.Shelf.Strings.Builder1
import Derived.StillTailTactics
import Derived.Test.YtkafikdjhiienaaGreatDoorMB
import Derived.Deep.RegionHeldLaw
import Derived.Deep.RegionHeld3
import Derived.Lib.AppendIntMem
import Derived.BigQuiet
import Derived.Test.YtkafikdjhiienaaGreatDoorMC
set_option linter.unusedVariables false
set_option linter.unusedSimpArgs false
/- writer -/
namespace Go.Proofs.YtkafikdjhiienaaGreatDoor
open Go.RowKit Go.Proofs.YtkafikdjhiienaaGreatDoorW.PrintWords

/-- The writer in block R; made behind the world w0, from whose end on it makes memory; its schema's nodes nv. -/
structure WSx (w0 : World) (R : Nat) (nv : Value) (w : World) (s : WS) (p v : Value) : Prop where
  blk : w.heap[R]? = some (.cells #[p, v, nv, .int .i64 s.next, .bool s.bad] 138 (0, 0))
  adr : p = .pointer none ∨ p = .pointer (some ⟨R, 0, none⟩)
  row : w.ownsRow w0.heap.size 5 1 v s.buf.length (Lib.byteCells s.buf)
  low : w0.heap.size ≤ R
  bel : Below w0.heap.size w0 w
def WSr (w0 : World) (R : Nat) (nv : Value) (w : World) (s : WS) : Prop := ∃ p v, WSx w0 R nv w s p v

/-- What the writer may turn: itself, its rows of bytes; and what is new. -/
structure FrW (w0 : World) (R : Nat) (w w' : World) : Prop where
  os : w'.os = w.os
  tape : w'.tape = w.tape
  output : w'.output = w.output
  size : w.heap.size ≤ w'.heap.size
  block : ∀ k, k < w.heap.size → k ≠ R → (w0.heap.size ≤ k → ∀ cs fz, w.heap[k]? ≠ some (.cells cs 5 fz)) → w'.heap[k]? = w.heap[k]?
theorem FrW.refl (w0 : World) (R : Nat) (w : World) : FrW w0 R w w := ⟨rfl, rfl, rfl, Nat.le_refl _, fun _ _ _ _ => rfl⟩
theorem FrW.trans {w0 : World} {R : Nat} {w w1 w2 : World} (h : FrW w0 R w w1) (k : FrW w0 R w1 w2) : FrW w0 R w w2 :=
  ⟨k.os.trans h.os, k.tape.trans h.tape, k.output.trans h.output, Nat.le_trans h.size k.size, fun i hi h1 h3 => by
    have e := h.block i hi h1 h3
    exact (k.block i (Nat.lt_of_lt_of_le hi h.size) h1 (fun hb cs fz => by rw [e]; exact h3 hb cs fz)).trans e⟩
theorem FrW.of_below {w0 : World} {R : Nat} {w w' : World} (h : Below w.heap.size w w') : FrW w0 R w w' := ⟨h.os, h.tape, h.output, h.size, fun k hk _ _ => h.block k hk⟩
theorem FrW.setR {w0 : World} {R : Nat} {w w' : World} (h : FrW w0 R w w') (i : Nat) (v : Value) : FrW w0 R w (w'.setCell ⟨R, i, none⟩ v) :=
  h.trans ⟨rfl, rfl, rfl, by simp [World.setCell], fun k _ hR _ => Below.heap_setCell _ _ _ _ hR⟩
theorem FrW.cell {w0 : World} {R : Nat} {w w' : World} (h : FrW w0 R w w') {k t : Nat} {cs : Array Value} (hk : w.heap[k]? = some (.cells cs t (0, 0))) (hR : k ≠ R) (ht : t ≠ 5) : w'.heap[k]? = some (.cells cs t (0, 0)) :=
  (h.block k (blk_lt hk) hR (fun _ cs' fz e => by rw [hk] at e; injection e with e; injection e with _ e; exact ht e)).trans hk

theorem WSr.below {w0 : World} {R : Nat} {nv : Value} {w w' : World} {s : WS} (h : WSr w0 R nv w s) (hb : Below w.heap.size w w') : WSr w0 R nv w' s := by
  obtain ⟨p, v, hx⟩ := h
  refine ⟨p, v, (hb.block R (blk_lt hx.blk)).trans hx.blk, hx.adr, hx.row.kept (row := none) (grown_of_below hb none) (Classical.em _), hx.low, hx.bel.trans (hb.mono hx.bel.size)⟩

theorem info8 : (Tryz.prog.info? 5).map (fun i => (i.zero, i.size, i.bytes)) = some (some (.int .u8 0), 1, 1) := by kernel_rfl
theorem sizeBuilder : (Tryz.prog.info? 136).map (·.size) = some 2 := by kernel_rfl
theorem liesWriter : liesAt Tryz.prog Tryz.prog.depth 138 (5 / Tryz.prog.cellsOf 138) 0 136 1 = true := by kernel_rfl

set_option maxHeartbeats 1000000 in
set_option maxRecDepth 100000 in
theorem copyCheck_used (R : Nat) (w : World) (h0 : w.cell? ⟨R, 0, none⟩ = some (.pointer (some ⟨R, 0, none⟩))) :
    Calls Tryz.prog 149 #[.pointer (some ⟨R, 0, none⟩)] w fun e w' => e = .returned (.tuple #[]) ∧ w' = w := by
  obtain ⟨j, hj, _⟩ := Option.map_eq_some_iff.1 sizeBuilder
  go_enter Tryz.func149, Tryz.ntmps149
  go_wp2
  rw [Lib.run_neq_ptr_same w _ Tryz.underlying133 hj]
  go_wp2
  go_end0
  exact ⟨rfl, rfl⟩

set_option maxHeartbeats 1000000 in
set_option maxRecDepth 100000 in
theorem copyCheck_fresh (R : Nat) (w : World) (h0 : w.cell? ⟨R, 0, none⟩ = some (.pointer none)) (hsh : w.shape? R = some (138, 5)) (hfz : w.frozen? ⟨R, 0, none⟩ = false) :
    Calls Tryz.prog 149 #[.pointer (some ⟨R, 0, none⟩)] w fun e w' => e = .returned (.tuple #[]) ∧ w' = w.setCell ⟨R, 0, none⟩ (.pointer (some ⟨R, 0, none⟩)) := by
  obtain ⟨j, hj, hjs⟩ := Option.map_eq_some_iff.1 sizeBuilder
  go_enter Tryz.func149, Tryz.ntmps149
  go_wp2
  rw [Lib.run_to_unsafe w ⟨R, 0, none⟩ Tryz.underlying133 Tryz.underlying171 hj (by rw [hjs]; decide) hsh (Nat.zero_lt_succ 4)]
  simp only [Result.andThen]
  rw [Oper.upon_value]
  go_wp2
  rw [run_callFunc_extern Tryz.func156 (by kernel_rfl) (by kernel_rfl) (by kernel_rfl) (e := Extern.AbiNoEscape.same) (by kernel_rfl)]
  rw [Lib.run_noEscape]
  simp only [Result.andThen]
  rw [Oper.upon_value]
  go_wp2
  rw [Lib.run_from_unsafe w ⟨R, 0, none⟩ Tryz.underlying171 Tryz.underlying133 hj hsh liesWriter]
  simp only [Result.andThen]
  rw [Oper.upon_value]
  go_wp2
  go_end0
  exact ⟨rfl, rfl⟩

theorem WSx.used {w0 : World} {R : Nat} {nv : Value} {w : World} {s : WS} {p v : Value} (h : WSx w0 R nv w s p v) : WSx w0 R nv (w.setCell ⟨R, 0, none⟩ (.pointer (some ⟨R, 0, none⟩))) s (.pointer (some ⟨R, 0, none⟩)) v := by
  refine ⟨blk_set h.blk 0 _, .inr rfl, h.row.kept (grown_set w ⟨R, 0, none⟩ _) (.inr (Lib.ownBlock_ne h.row h.blk (by decide))), h.low, h.bel.trans ((Below.refl _ _).setCell (p := ⟨R, 0, none⟩) h.low _)⟩

theorem copyCheck_calls {w0 : World} {R : Nat} {nv : Value} {w : World} {s : WS} (h : WSr w0 R nv w s) :
    Calls Tryz.prog 149 #[.pointer (some ⟨R, 0, none⟩)] w fun e w' => e = .returned (.tuple #[]) ∧ (∃ v, WSx w0 R nv w' s (.pointer (some ⟨R, 0, none⟩)) v) ∧ FrW w0 R w w' := by
  obtain ⟨p, v, hx⟩ := h
  have c0 := (blk_cell hx.blk 0).trans rfl
  rcases hx.adr with rfl | rfl
  · refine (copyCheck_fresh R w c0 (by simp [World.shape?, hx.blk]) (blk_frozen hx.blk 0)).mono ?_
    rintro e w' ⟨rfl, rfl⟩
    exact ⟨rfl, ⟨v, hx.used⟩, (FrW.refl _ _ _).setR 0 _⟩
  · refine (copyCheck_used R w c0).mono ?_
    rintro e w' ⟨rfl, rfl⟩
    exact ⟨rfl, ⟨v, hx⟩, FrW.refl _ _ _⟩

theorem row_slice {w : World} {b e n : Nat} {v : Value} {xs : List Value} (h : w.ownsRow b e 1 v n xs) : ∃ ao cap, v = .slice ao n cap := by
  rcases h.2 with ⟨hv, h0⟩ | ⟨g, cap, cur, hv, _⟩
  · exact ⟨none, 0, by rw [hv, h0]⟩
  · exact ⟨_, _, hv⟩

set_option maxHeartbeats 1000000 in
set_option maxRecDepth 100000 in
theorem len_calls {w0 : World} {R : Nat} {nv : Value} {w : World} {s : WS} (h : WSr w0 R nv w s) :
    Calls Tryz.prog 127 #[.pointer (some ⟨R, 0, none⟩)] w fun e w' => e = .returned (.int .i64 s.buf.length) ∧ w' = w := by
  obtain ⟨p, v, hx⟩ := h
  obtain ⟨ao, cap, rfl⟩ := row_slice hx.row
  have c1 := (blk_cell hx.blk 1).trans rfl
  clear hx
  go_enter Tryz.func127, Tryz.ntmps127
  go_wp2
  go_ret
  exact ⟨rfl, rfl⟩

set_option maxHeartbeats 2000000 in
set_option maxRecDepth 100000 in
theorem write_calls {w0 : World} {R : Nat} {nv : Value} {w : World} {s : WS} (h : WSr w0 R nv w s) (t : ByteArray) (hlen : s.buf.length + t.size ≤ 140737488355328) :
    Calls Tryz.prog 128 #[.pointer (some ⟨R, 0, none⟩), .string t] w fun e w' => e = .returned (.tuple #[.int .i64 t.size, .nilIface]) ∧ WSr w0 R nv w' (s.put t) ∧ FrW w0 R w w' := by
  obtain ⟨i0, hi, hz0, hz1, hz2⟩ := info_parts info8
  have HC := Aside0.mk (copyCheck_calls h)
  clear h
  go_enter Tryz.func128, Tryz.ntmps128
  go_wp2_with (fail)
  refine HC.out.mono ?_
  rintro e w1 ⟨rfl, ⟨v, hx⟩, hf1⟩
  have c0 := (blk_cell hx.blk 0).trans rfl
  have c1 := (blk_cell hx.blk 1).trans rfl
  have hrow := hx.row
  have hsz := hx.bel.size
  replace hx := Aside0.mk hx
  replace hf1 := Aside0.mk hf1
  go_wp2_with (at_builtin; refine Lib.wpList_append_own_string _ rfl _ _ 134 9 rfl w0.heap.size 5 i0 Tryz.underlying134 Tryz.underlying9 hi hz0 hz1 hz2 _ _ _ rfl hrow t rfl ?c3 ?c4 ?c5 ?_)
  case c3 => unfold maxLen; omega
  case c4 => omega
  case c5 => omega
  intro v' w2 hown' hgrow _
  have hne := Lib.ownBlock_ne hrow hx.out.blk (by decide : (138 : Nat) ≠ 5)
  have hb2 : w2.heap[R]? = some (.cells #[.pointer (some ⟨R, 0, none⟩), v, nv, .int .i64 s.next, .bool s.bad] 138 (0, 0)) := (hgrow.block R (blk_lt hx.out.blk) (fun e => hne e.symm)).trans hx.out.blk
  have d0 := (blk_cell hb2 0).trans rfl
  have d1 := (blk_cell hb2 1).trans rfl
  have f1 := blk_frozen hb2 1
  have hbel := Aside0.mk (hx.out.bel.grown hgrow hsz (fun k hk => (hrow.lt k hk).1))
  have hfr : Aside0 (FrW w0 R w1 w2) := ⟨⟨hgrow.os, hgrow.tape, hgrow.output, hgrow.size, fun k hk _ h3 => hgrow.block k hk (fun e => by
    rcases hrow.2 with ⟨hv, _⟩ | ⟨g, cap, cur, hv, hbg, hg, _⟩
    · rw [hv] at e; simp [Value.ownBlock] at e
    · rw [hv] at e
      simp only [Value.ownBlock, Option.some.injEq] at e
      subst e
      exact h3 hbg _ _ hg)⟩⟩
  obtain ⟨ao, cap, rfl⟩ := row_slice hown'
  replace hown' := Aside0.mk hown'
  replace hgrow := Aside0.mk hgrow
  replace hb2 := Aside0.mk hb2
  clear c0 c1 hrow hne
  go_wp2
  go_ret2
  refine ⟨rfl, ⟨.pointer (some ⟨R, 0, none⟩), _, blk_set hb2.out 1 _, .inr rfl, ?_, hx.out.low, ?_⟩, (hf1.out.trans hfr.out).setR 1 _⟩
  · have hne2 := Lib.ownBlock_ne hown'.out hb2.out (by decide : (138 : Nat) ≠ 5)
    have := hown'.out.kept (grown_set w2 ⟨R, 1, none⟩ (.slice ao (s.buf.length + t.size) cap)) (.inr hne2)
    have e : (s.put t).buf.length = s.buf.length + t.size := by rw [WS.put]; simp only [List.length_append]; rw [← Lib.size_eq]
    rw [e]
    have e2 : Lib.byteCells (s.put t).buf = Lib.byteCells s.buf ++ Lib.strCells t := by simp [WS.put, Lib.byteCells, Lib.strCells]
    rw [e2]
    exact this
  · exact hbel.out.trans ((Below.refl _ _).setCell (p := ⟨R, 1, none⟩) hx.out.low _)
end Go.Proofs.YtkafikdjhiienaaGreatDoor

/- writer2 -/
namespace Go.Proofs.YtkafikdjhiienaaGreatDoor
open Go.RowKit Go.Proofs.YtkafikdjhiienaaGreatDoorW.PrintWords

theorem cells8 : Tryz.prog.cellsOf 5 = 1 := by kernel_rfl

set_option maxHeartbeats 2000000 in
set_option maxRecDepth 100000 in
theorem string_calls {w0 : World} {R : Nat} {nv : Value} {w : World} {s : WS} (h : WSr w0 R nv w s) :
    Calls Tryz.prog 100 #[.pointer (some ⟨R, 0, none⟩)] w fun e w' => e = .returned (.string (bs s.buf)) ∧ Below w0.heap.size w w' := by
  obtain ⟨p, v, hx⟩ := h
  have hown := hx.row
  have hsz := hx.bel.size
  have hbk := hx.blk
  clear hx
  generalize w0.heap.size = B at hown hsz ⊢
  rcases s with ⟨l, next, bad⟩
  simp only at hown hbk ⊢
  have hUS0 : ∀ (W : World) (q : Option Addr), (Builtin.unsafeString_ #[164, 3] 9 #[.pointer q, .int .i64 0]).run Tryz.prog W = .ok (.string .empty) W := fun W q => Lib.run_unsafeString_none W _ _ _ q
  rcases hown.2 with ⟨rfl, hz⟩ | ⟨g, cap, cur, rfl, hbg, hg, hnc, hcm, hcs, htake⟩
  · obtain rfl : l = [] := List.eq_nil_of_length_eq_zero hz
    have c1 : w.drew.cell? ⟨R, 1, none⟩ = some (.slice none 0 0) := (blk_cell (hbk : w.drew.heap[R]? = _) 1).trans rfl
    have hSD : (Builtin.unsafeSliceData_ #[134] 164 #[.slice none 0 0]).run Tryz.prog w.drew = .ok (.pointer none) w.drew := rfl
    clear hown hbk
    go_enter Tryz.func100, Tryz.ntmps100
    go_wp2
    go_region
    all_goals (go_wp2; go_ret; exact ⟨rfl, Below.drew (Below.refl B w)⟩)
  · by_cases h0 : l = []
    · subst h0
      by_cases hc0 : cap = 0
      · subst hc0
        have hlt := blk_lt hbk
        have c0 : w.cell? ⟨R, 1, none⟩ = some (.slice (some ⟨g, 0, none⟩) 0 0) := (blk_cell hbk 1).trans rfl
        have c1 : w.drew.cell? ⟨R, 1, none⟩ = some (.slice (some ⟨g, 0, none⟩) 0 0) := c0
        have hSD : (Builtin.unsafeSliceData_ #[134] 164 #[.slice (some ⟨g, 0, none⟩) 0 0]).run Tryz.prog w.drew = .ok (.pointer (some ⟨w.drew.heap.size, 0, none⟩)) (w.drew.alloc (.view ⟨g, 0, none⟩ 5)) :=
          Lib.run_unsafeSliceData_zero w.drew _ _ 5 Tryz.underlying164 ⟨g, 0, none⟩ 0 (5, cur.size) (by have hg' : w.drew.heap[g]? = some (.cells cur 5 (0, 0)) := hg; simp [World.shape?, hg'])
        have c2 : (w.drew.alloc (.view ⟨g, 0, none⟩ 5)).cell? ⟨R, 1, none⟩ = some (.slice (some ⟨g, 0, none⟩) 0 0) := (blk_cell (blk_alloc (hbk : w.drew.heap[R]? = _) _) 1).trans rfl
        have c3 : (w.alloc (.view ⟨g, 0, none⟩ 5)).drew.cell? ⟨R, 1, none⟩ = some (.slice (some ⟨g, 0, none⟩) 0 0) := c2
        clear hown hbk htake
        go_enter Tryz.func100, Tryz.ntmps100
        go_wp2
        go_region
        all_goals (go_wp2; go_ret; exact ⟨rfl, (Below.drew (Below.refl B w)).alloc hsz _⟩)
      · have c1 : w.drew.cell? ⟨R, 1, none⟩ = some (.slice (some ⟨g, 0, none⟩) 0 cap) := (blk_cell (hbk : w.drew.heap[R]? = _) 1).trans rfl
        have hSD : (Builtin.unsafeSliceData_ #[134] 164 #[.slice (some ⟨g, 0, none⟩) 0 cap]).run Tryz.prog w.drew = .ok (.pointer (some ⟨g, 0, none⟩)) w.drew := Lib.run_unsafeSliceData_row _ _ _ _ _ _ hc0
        clear hown hbk hc0 htake
        go_enter Tryz.func100, Tryz.ntmps100
        go_wp2
        go_region
        all_goals (go_wp2; go_ret; exact ⟨rfl, Below.drew (Below.refl B w)⟩)
    · have hl0 : l.length ≠ 0 := by simpa using h0
      have c1 : w.drew.cell? ⟨R, 1, none⟩ = some (.slice (some ⟨g, 0, none⟩) l.length cap) := (blk_cell (hbk : w.drew.heap[R]? = _) 1).trans rfl
      have hSD : (Builtin.unsafeSliceData_ #[134] 164 #[.slice (some ⟨g, 0, none⟩) l.length cap]).run Tryz.prog w.drew = .ok (.pointer (some ⟨g, 0, none⟩)) w.drew := Lib.run_unsafeSliceData_row _ _ _ _ _ _ (by omega)
      have hUS : (Builtin.unsafeString_ #[164, 3] 9 #[.pointer (some ⟨g, 0, none⟩), .int .i64 l.length]).run Tryz.prog w.drew = .ok (.string ⟨l.toArray⟩) (w.drew.freeze ⟨g, 0, none⟩ l.length) := by
        refine Lib.run_unsafeString_row w.drew 164 3 9 5 Tryz.underlying164 cells8 g cur.size (by have hg' : w.drew.heap[g]? = some (.cells cur 5 (0, 0)) := hg; simp [World.shape?, hg']) l h0 (by omega) (by unfold maxLen at hcm; omega) ?_
        intro j x hx
        have := hown.cells (g := g) rfl j (.int .u8 x.toNat) (by simp [Lib.byteCells, hx])
        exact this
      clear hown hbk hl0 htake hUS0
      go_enter Tryz.func100, Tryz.ntmps100
      go_wp2
      go_region
      all_goals (go_wp2; go_ret; exact ⟨rfl, Lib.below_freeze (Below.drew (Below.refl B w)) (p := ⟨g, 0, none⟩) hbg _⟩)
end Go.Proofs.YtkafikdjhiienaaGreatDoor

/- write3 -/
namespace Go.Proofs.YtkafikdjhiienaaGreatDoor
open Go.RowKit Go.Proofs.YtkafikdjhiienaaGreatDoorW.PrintWords

/-- The writer's typed is as the plain one says, d levels more. -/
def WTypedOK (w0 : World) (R : Nat) (nv : Value) (o : List Nod) (d : Nat) : Prop := ∀ (w : World) (s : WS) (n : Int), WSr w0 R nv w s → 0 ≤ s.next → s.next ≤ (o.length : Int) → s.buf.length ≤ 70368744177664 →
  Calls Tryz.prog 99 #[.pointer (some ⟨R, 0, none⟩), .int .i64 n, .int .i64 ((20 : Int) - d)] w fun e w' => e = .returned (.tuple #[]) ∧ WSr w0 R nv w' (wTyped o d n s) ∧ FrW w0 R w w'

theorem C_at {α : Type} {d : Kd α} {w0 w : World} {A : Option Addr} {n : Nat} {l : List α} (h : d.C w0 A n l) (hb : Below w0.heap.size w0 w) : d.C w A n l := Kd.C_below h hb
theorem add_zero' (a : Addr) : a.add 0 = a := by cases a; simp [Addr.add]
theorem WSr.bel {w0 : World} {R : Nat} {nv : Value} {w : World} {s : WS} (h : WSr w0 R nv w s) : Below w0.heap.size w0 w := by obtain ⟨_, _, hx⟩ := h; exact hx.bel

set_option maxRecDepth 100000 in
set_option maxHeartbeats 2000000 in
theorem items_calls {w0 : World} {R : Nat} {nv : Value} {o : List Nod} {d CB : Nat} (HO : NodsOk CB o) (hd : d ≤ 19) (HT : WTypedOK w0 R nv o d) {w : World} {s : WS} (h : WSr w0 R nv w s) (h0 : 0 ≤ s.next) (h1 : s.next ≤ (o.length : Int))
    (op sh : ByteArray) (l : List Int) (A : Option Addr) (c : Nat) (hC : (Kd.int .i64).C w0 A l.length l) (deep : Int) (hdp : (20 : Int) - d = deep + 1) (hdr : 0 ≤ deep ∧ deep ≤ 19)
    (hb : max (s.buf.length + op.size) (4096 + d * CB) + l.length + sh.size + 1 ≤ 70368744177664) :
    Calls Tryz.prog 129 #[.pointer (some ⟨R, 0, none⟩), .string op, .slice A l.length c, .string sh, .int .i64 deep] w fun e w' => e = .returned (.tuple #[]) ∧ WSr w0 R nv w' ((wItems (wTyped o d) true l (s.put op)).put sh) ∧ FrW w0 R w w' := by
  have HW := Aside0.mk (write_calls h op (by omega))
  have hpl := put_len s op
  have hmax := Kd.C_max hC
  replace HT := Aside0.mk HT
  replace hC := Aside0.mk hC
  replace hdp := Aside0.mk hdp
  replace h0 := Aside0.mk h0
  replace h1 := Aside0.mk h1
  generalize hspec : wItems (wTyped o d) true l (s.put op) = spec
  have hspecl : spec.buf.length + sh.size ≤ 140737488355328 := by
    have := wItems_len (wTyped_len HO d) l true (s.put op)
    rw [hspec, hpl] at this
    omega
  replace hspec := Aside0.mk hspec
  replace hspecl := Aside0.mk hspecl
  replace hb := Aside0.mk hb
  replace hpl := Aside0.mk hpl
  go_enter Tryz.func129, Tryz.ntmps129
  go_wp2_with (fail)
  refine HW.out.mono ?_
  rintro _ w1 ⟨rfl, hs1, hf1⟩
  replace hs1 := Aside0.mk hs1
  replace hf1 := Aside0.mk hf1
  go_wp2_with (fail)
  go_loopw [19] (fun v wr => ∃ (i : Nat) (si : WS), v = .int .i64 i ∧ i ≤ l.length ∧ Aside0 (wItems (wTyped o d) (decide (i = 0)) (l.drop i) si = spec) ∧ Aside0 (WSr w0 R nv wr si) ∧ Aside0 (FrW w0 R w wr) ∧ Aside0 (0 ≤ si.next ∧ si.next ≤ (o.length : Int) ∧ si.buf.length ≤ max (s.buf.length + op.size) (4096 + d * CB) + i)) (fun v _ => l.length - (intOf v).toNat)
  case atStart => exact ⟨0, s.put op, rfl, Nat.zero_le _, ⟨by simpa using hspec.out⟩, hs1, hf1, ⟨h0.out, h1.out, by have := hpl.out; omega⟩⟩
  case round =>
    obtain ⟨i, si, rfl, hi, hsp, hs, hf, hbd⟩ := hrel
    by_cases hlt : i < l.length
    · obtain ⟨ad, hA, hcell⟩ := Kd.at_int (C_at hC.out hs.out.bel) i (by omega) (by omega)
      subst hA
      rw [Int.toNat_natCast] at hcell
      have hdr2 : l.drop i = rd l i :: l.drop (i + 1) := by
        rw [List.drop_eq_getElem_cons hlt]
        simp [rd, List.getD_eq_getElem?_getD, List.getElem?_eq_getElem hlt]
      generalize rd l i = n at hcell hdr2
      by_cases hz : i = 0
      · subst hz
        have HC := HT.out wr si n hs.out hbd.out.1 hbd.out.2.1 (by have := hbd.out.2.2; have := hb.out; omega)
        rw [hdp.out] at HC
        have E : Aside0 (wItems (wTyped o d) false (l.drop 1) (wTyped o d n si) = spec) := ⟨by have := hsp.out; rw [hdr2] at this; simpa [wItems] using this⟩
        have hl := Aside0.mk (wTyped_len HO d n si)
        have hn := Aside0.mk (wTyped_next o d n si hbd.out.1 hbd.out.2.1)
        replace HC := Aside0.mk HC
        have hcell0 : wr.cell? ad = some (.int .i64 n) := by rwa [add_zero'] at hcell
        clear hdr2 hcell
        go_wp2_with (fail)
        refine HC.out.mono ?_
        rintro _ w2 ⟨rfl, hs2, hf2⟩
        replace hs2 := Aside0.mk hs2
        replace hf2 := Aside0.mk hf2
        go_wp2_with (fail)
        go_roundw
        case rel => exact ⟨1, _, by go_num, by omega, by simpa using E, hs2, ⟨hf.out.trans hf2.out⟩, ⟨by have := hn.out; have := hbd.out; omega, hn.out.2, by have := hl.out; have := hbd.out; omega⟩⟩
        case measure => simp [intOf]; omega
      · have hbl := hb.out
        have hbb := hbd.out
        have HB := Aside0.mk (write_calls hs.out sBar (by have e : sBar.size = 1 := rfl; omega))
        have E : Aside0 (wItems (wTyped o d) false (l.drop (i + 1)) (wTyped o d n (si.put sBar)) = spec) := ⟨by have := hsp.out; rw [hdr2] at this; simpa [wItems, hz] using this⟩
        have hl := Aside0.mk (wTyped_len HO d n (si.put sBar))
        have hn := Aside0.mk (wTyped_next o d n (si.put sBar) hbd.out.1 hbd.out.2.1)
        have hp := Aside0.mk (put_len si sBar)
        have hgt : (0 : Int) < (i : Int) := by omega
        clear hdr2 hbl hbb
        go_wp2_with (fail)
        refine HB.out.mono ?_
        rintro _ wb ⟨rfl, hsb, hfb⟩
        have HC := HT.out wb (si.put sBar) n hsb hbd.out.1 hbd.out.2.1 (by have := hbd.out.2.2; have := hb.out; have := hp.out; have e : sBar.size = 1 := rfl; omega)
        rw [hdp.out] at HC
        replace HC := Aside0.mk HC
        replace hsb := Aside0.mk hsb
        replace hfb := Aside0.mk hfb
        go_wp2_with (fail)
        refine HC.out.mono ?_
        rintro _ w2 ⟨rfl, hs2, hf2⟩
        replace hs2 := Aside0.mk hs2
        replace hf2 := Aside0.mk hf2
        go_wp2_with (fail)
        go_roundw
        case rel => exact ⟨i + 1, _, by go_num, by omega, by simpa using E, hs2, ⟨(hf.out.trans hfb.out).trans hf2.out⟩, ⟨by have := hn.out; have := hbd.out; have e := (put_next si sBar).1; omega, hn.out.2, by have := hl.out; have := hbd.out; have := hp.out; have e : sBar.size = 1 := rfl; omega⟩⟩
        case measure => simp [intOf]; omega
    · obtain rfl : i = l.length := by omega
      have E : si = spec := by have := hsp.out; rw [List.drop_length] at this; simpa [wItems] using this
      subst E
      have HB := Aside0.mk (write_calls hs.out sh hspecl.out)
      go_wp2_with (fail)
      refine HB.out.mono ?_
      rintro _ wb ⟨rfl, hsb, hfb⟩
      replace hsb := Aside0.mk hsb
      replace hfb := Aside0.mk hfb
      go_wp2_with (fail)
      go_end0
      exact ⟨rfl, hsb.out, hf.out.trans hfb.out⟩
end Go.Proofs.YtkafikdjhiienaaGreatDoor

/- write4 -/
namespace Go.Proofs.YtkafikdjhiienaaGreatDoor
open Go.RowKit Go.Proofs.YtkafikdjhiienaaGreatDoorW.PrintWords

theorem size_app (a b : ByteArray) : (a ++ b).size = a.size + b.size := ByteArray.size_append
theorem WSr.ne {w0 : World} {R : Nat} {nv : Value} {w : World} {s : WS} (h : WSr w0 R nv w s) {k t : Nat} {cs : Array Value} (hk : w.heap[k]? = some (.cells cs t (0, 0))) (ht : t ≠ 138) : k ≠ R := by
  obtain ⟨_, _, hx⟩ := h
  rintro rfl
  rw [hx.blk] at hk
  injection hk with hk
  injection hk with _ e
  exact ht e.symm
theorem put_app (s : WS) (a b c : ByteArray) : s.put (a ++ b ++ c) = { s with buf := s.buf ++ (a.data.toList ++ b.data.toList ++ c.data.toList) } := by
  simp [WS.put]

theorem ownF_drop (l : List Fld) : ∀ i, ownF (l.drop i) ≤ ownF l := by
  induction l with
  | nil => intro i; simp [ownF]
  | cons f r ih =>
    intro i
    cases i with
    | zero => simp
    | succ i => simp only [List.drop_succ_cons, ownF]; have := ih i; omega

set_option maxRecDepth 100000 in
set_option maxHeartbeats 4000000 in
theorem record_calls {w0 : World} {R : Nat} {nv : Value} {o : List Nod} {d CB : Nat} (HO : NodsOk CB o) (hd : d ≤ 19) (HT : WTypedOK w0 R nv o d) {w : World} {s : WS} (h : WSr w0 R nv w s) (h0 : 0 ≤ s.next) (h1 : s.next ≤ (o.length : Int))
    (name : ByteArray) (f0 f2 : Int) (v3 v4 : Value) (l : List Fld) (A : Option Addr) (c : Nat) (hC : kFld.C w0 A l.length l) (deep : Int) (hdp : (20 : Int) - d = deep + 1) (hdr : 0 ≤ deep ∧ deep ≤ 19)
    (hb : max (s.buf.length + name.size + 8) (4096 + d * CB) + ownF l + 1 ≤ 70368744177664) (hv3 : ∃ A3 n3 c3, v3 = .slice A3 n3 c3) (hv4 : ∃ A4 n4 c4, v4 = .slice A4 n4 c4) :
    Calls Tryz.prog 132 #[.pointer (some ⟨R, 0, none⟩), .agg #[.int .i64 f0, .string name, .int .i64 f2, v3, v4, .slice A l.length c], .int .i64 deep] w fun e w' => e = .returned (.tuple #[]) ∧ WSr w0 R nv w' ((wFields (wTyped o d) l { s with buf := s.buf ++ (sRecord.data.toList ++ name.data.toList ++ [123]) }).put sCc) ∧ FrW w0 R w w' := by
  have hA : Below w.heap.size w (w.alloc (.cells #[.int .i64 f0, .string name, .int .i64 f2, v3, v4, .slice A l.length c] 110)) := (Below.refl _ _).alloc (Nat.le_refl _) _
  have hbx : (w.alloc (.cells #[.int .i64 f0, .string name, .int .i64 f2, v3, v4, .slice A l.length c] 110)).heap[w.heap.size]? = some (.cells #[.int .i64 f0, .string name, .int .i64 f2, v3, v4, .slice A l.length c] 110 (0, 0)) := World.alloc_heap_new _ _
  obtain ⟨A3, n3, c3, rfl⟩ := hv3
  obtain ⟨A4, n4, c4, rfl⟩ := hv4
  have hsA := h.below hA
  have hD : Below w.heap.size w (w.alloc (.cells #[.int .i64 f0, .string name, .int .i64 f2, .slice A3 n3 c3, .slice A4 n4 c4, .slice A l.length c] 110)).drew := hA.drew
  have hsD := h.below hD
  have hrs : sRecord.size = 7 := rfl
  have hcs : sCo.size = 1 := rfl
  have HW := Aside0.mk (write_calls hsD (sRecord ++ name ++ sCo) (by rw [size_app, size_app]; omega))
  have eW : s.put (sRecord ++ name ++ sCo) = { s with buf := s.buf ++ (sRecord.data.toList ++ name.data.toList ++ [123]) } := put_app _ _ _ _
  rw [eW] at HW
  generalize hs0 : ({ s with buf := s.buf ++ (sRecord.data.toList ++ name.data.toList ++ [123]) } : WS) = s0 at HW ⊢
  have hl0 : s0.buf.length = s.buf.length + name.size + 8 := by
    rw [← hs0]; simp only [List.length_append, List.length_cons, List.length_nil]; rw [← Lib.size_eq, ← Lib.size_eq]; omega
  have hn0 : s0.next = s.next := by rw [← hs0]
  have hmax := Kd.C_max hC
  replace HT := Aside0.mk HT
  replace hC := Aside0.mk hC
  replace hdp := Aside0.mk hdp
  replace h0 := Aside0.mk h0
  replace h1 := Aside0.mk h1
  generalize hspec : wFields (wTyped o d) l s0 = spec
  have hspecl : spec.buf.length + sCc.size ≤ 140737488355328 := by
    have := wFields_len (wTyped_len HO d) l s0
    rw [hspec, hl0] at this
    have e : sCc.size = 1 := rfl
    omega
  replace hspec := Aside0.mk hspec
  replace hspecl := Aside0.mk hspecl
  replace hb := Aside0.mk hb
  replace hl0 := Aside0.mk hl0
  replace hn0 := Aside0.mk hn0
  replace hsA := Aside0.mk hsA
  replace hsD := Aside0.mk hsD
  have b1 := (blk_cell hbx 1).trans rfl
  replace hbx := Aside0.mk hbx
  replace hA := Aside0.mk hA
  clear hs0 eW hD
  go_enter Tryz.func132, Tryz.ntmps132
  go_wp2_with (fail)
  have hx : ∀ (W : World) (a : Addr), World.cell? { heap := W.heap, tape := W.tape, drawn := W.drawn + 1, os := W.os, output := W.output } a = W.cell? a := fun _ _ => rfl
  generalize w.alloc (.cells #[.int .i64 f0, .string name, .int .i64 f2, .slice A3 n3 c3, .slice A4 n4 c4, .slice A l.length c] 110) = wA at *
  have hq1 : ¬ 9223372036854775807 < 7 + name.size := by have := hb.out; omega
  have hq2 : ¬ 9223372036854775807 < 7 + name.size + 1 := by have := hb.out; omega
  go_still_tail 7, (by kernel_rfl)
  change wpList _ _ _ _ _ wA.drew
  clear hx hq1 hq2 b1
  go_wp2_with (fail)
  refine HW.out.mono ?_
  rintro _ w1 ⟨rfl, hs1, hf1⟩
  have hbx1 := hf1.cell (k := w.heap.size) (hbx.out : wA.drew.heap[w.heap.size]? = _) (hsD.out.ne (hbx.out : wA.drew.heap[w.heap.size]? = _) (by decide)) (by decide)
  have hf01 : Aside0 (FrW w0 R w w1) := ⟨(FrW.of_below hA.out.drew).trans hf1⟩
  have b5 := (blk_cell hbx1 5).trans rfl
  replace hs1 := Aside0.mk hs1
  clear hf1 HW hbx1
  go_wp2_with (fail)
  clear b5
  go_loopw [19] (fun v wr => ∃ (i : Nat) (si : WS), v = .int .i64 i ∧ i ≤ l.length ∧ Aside0 (wFields (wTyped o d) (l.drop i) si = spec) ∧ Aside0 (WSr w0 R nv wr si) ∧ Aside0 (FrW w0 R w wr) ∧ Aside0 (0 ≤ si.next ∧ si.next ≤ (o.length : Int) ∧ si.buf.length + ownF (l.drop i) ≤ max s0.buf.length (4096 + d * CB) + ownF l)) (fun v _ => l.length - (intOf v).toNat)
  case atStart => exact ⟨0, s0, rfl, Nat.zero_le _, ⟨by simpa using hspec.out⟩, hs1, hf01, ⟨by rw [hn0.out]; exact h0.out, by rw [hn0.out]; exact h1.out, by simp only [List.drop_zero]; omega⟩⟩
  case round =>
    obtain ⟨i, si, rfl, hi, hsp, hs, hf, hbd⟩ := hrel
    by_cases hlt : i < l.length
    · obtain ⟨ad, hA, hcell, hcell1, hcell2⟩ := PPolicyHolds.at_T155 (C_at hC.out hs.out.bel) i (by omega) (by omega)
      subst hA
      rw [Int.toNat_natCast] at hcell hcell1 hcell2
      have hdr2 : l.drop i = PPolicyHolds.rd_T155 l i :: l.drop (i + 1) := by
        rw [List.drop_eq_getElem_cons hlt]
        simp [PPolicyHolds.rd_T155, List.getD_eq_getElem?_getD, List.getElem?_eq_getElem hlt]
      generalize PPolicyHolds.rd_T155 l i = f at hcell hcell1 hcell2 hdr2
      replace hdr2 := Aside0.mk hdr2
      have hAr : Below wr.heap.size wr (wr.alloc (.cells #[.string f.f0, .bool f.f1, .int .i64 f.f2] 155)) := (Below.refl _ _).alloc (Nat.le_refl _) _
      have hfb : (wr.alloc (.cells #[.string f.f0, .bool f.f1, .int .i64 f.f2] 155)).heap[wr.heap.size]? = some (.cells #[.string f.f0, .bool f.f1, .int .i64 f.f2] 155 (0, 0)) := World.alloc_heap_new _ _
      have hsa := hs.out.below hAr
      have hfa := Aside0.mk (hf.out.trans (FrW.of_below hAr))
      have hown : ownF (l.drop i) = f.f0.size + 3 + ownF (l.drop (i + 1)) := by rw [hdr2.out, ownF]
      have hE : Aside0 (wFields (wTyped o d) (l.drop (i + 1)) (wField (wTyped o d) f si) = spec) := ⟨by have := hsp.out; rw [hdr2.out] at this; simpa [wFields] using this⟩
      have hbb := hbd.out
      have hbu := hb.out
      have hlu := hl0.out
      have hdle := ownF_drop l i
      have hlenF := Aside0.mk (wField_len (wTyped_len HO d) f si)
      have hnextF := Aside0.mk (wField_next (wTyped_next o d) f si hbb.1 hbb.2.1)
      have hlB : si.buf.length + f.f0.size + 4 ≤ 70368744177664 := by omega
      have hlB2 : 4096 + d * CB + 4 ≤ 70368744177664 := by omega
      have hbd2 : Aside0 (max si.buf.length (4096 + d * CB) + f.f0.size + 3 + ownF (l.drop (i + 1)) ≤ max s0.buf.length (4096 + d * CB) + ownF l) := ⟨by omega⟩
      clear hbb hbu hlu hdle
      replace hown := Aside0.mk hown
      replace hlB := Aside0.mk hlB
      replace hlB2 := Aside0.mk hlB2
      go_wp2_with (fail)
      generalize wr.alloc (.cells #[.string f.f0, .bool f.f1, .int .i64 f.f2] 155) = wa at *
      clear hcell hcell1 hcell2 hdr2 hsp
      have HF := Aside0.mk (write_calls (hsa.below (Below.refl _ _).drew) f.f0 (by have := hlB.out; omega))
      have hneR := hsa.ne hfb (by decide)
      have b0 := (blk_cell hfb 0).trans rfl
      have hx : ∀ (W : World) (a : Addr), World.cell? { heap := W.heap, tape := W.tape, drawn := W.drawn + 1, os := W.os, output := W.output } a = W.cell? a := fun _ _ => rfl
      replace hfb := Aside0.mk hfb
      replace hsa := Aside0.mk hsa
      go_still_tail 5, (by kernel_rfl)
      change wpList _ _ _ _ _ wa.drew
      clear hx b0
      go_wp2_with (fail)
      refine HF.out.mono ?_
      rintro _ wb ⟨rfl, hsb, hfrb⟩
      have hfbb := hfrb.cell (hfb.out : wa.drew.heap[wr.heap.size]? = _) hneR (by decide)
      have hf0b := Aside0.mk ((hfa.out.trans (FrW.of_below (Below.refl _ _).drew)).trans hfrb)
      have b1 := (blk_cell hfbb 1).trans rfl
      replace hfbb := Aside0.mk hfbb
      replace hfb := Aside0.mk trivial
      have hp1 := put_len si f.f0
      clear HF hfrb
      replace hsb := Aside0.mk hsb
      obtain ⟨ff0, ff1, ff2⟩ := f
      cases ff1 with
      | true =>
        have HQ := Aside0.mk (write_calls hsb.out sQm (by have := hlB.out; have e : sQm.size = 1 := rfl; (try simp only at *); omega))
        have hp2 := put_len (si.put ff0) sQm
        go_wp2_with (fail)
        refine HQ.out.mono ?_
        rintro _ wq ⟨rfl, hsq, hfq⟩
        have hfbq := Aside0.mk (hfq.cell hfbb.out hneR (by decide))
        have hf0q := Aside0.mk (hf0b.out.trans hfq)
        have hplq : Aside0 (((si.put ff0).put sQm).buf.length ≤ si.buf.length + ff0.size + 1) := ⟨by have e : sQm.size = 1 := rfl; (try simp only at *); omega⟩
        replace hsq := Aside0.mk hsq
        clear hfq HQ b1 hp1 hp2 hsb hneR
        have HCo := Aside0.mk (write_calls hsq.out sColon (by have := hlB.out; have := hplq.out; have e : sColon.size = 1 := rfl; (try simp only at *); omega))
        go_wp2_with (fail)
        refine HCo.out.mono ?_
        rintro _ wc ⟨rfl, hsc, hfc⟩
        have hneR2 := hsq.out.ne hfbq.out (by decide)
        have hfbc := hfc.cell hfbq.out hneR2 (by decide)
        have b2 := (blk_cell hfbc 2).trans rfl
        have hplc := put_len ((si.put ff0).put sQm) sColon
        have HTy := HT.out wc (((si.put ff0).put sQm).put sColon) ff2 hsc hbd.out.1 hbd.out.2.1 (by have := hlB.out; have := hplq.out; have e : sColon.size = 1 := rfl; (try simp only at *); omega)
        rw [hdp.out] at HTy
        replace HTy := Aside0.mk HTy
        have hlT := wTyped_len HO d ff2 (((si.put ff0).put sQm).put sColon)
        have hf0c := Aside0.mk (hf0q.out.trans hfc)
        replace hplc := Aside0.mk hplc
        replace hlT := Aside0.mk hlT
        clear hsc hfc hfbc HCo
        go_wp2_with (fail)
        refine HTy.out.mono ?_
        rintro _ wd ⟨rfl, hsd, hfd⟩
        have HSe := Aside0.mk (write_calls hsd sSemi (by have := hlT.out; have := hplc.out; have := hplq.out; have := hlB.out; have := hlB2.out; have e : sColon.size = 1 := rfl; have e : sSemi.size = 1 := rfl; (try simp only at *); omega))
        replace hfd := Aside0.mk hfd
        clear b2 HTy hsd
        go_wp2_with (fail)
        refine HSe.out.mono ?_
        rintro _ we ⟨rfl, hse, hfe⟩
        replace hse := Aside0.mk hse
        replace hfe := Aside0.mk hfe
        clear HSe
        go_wp2_with (fail)
        go_roundw
        case rel => exact ⟨i + 1, _, by go_num, by omega, hE, ⟨hse.out⟩, ⟨(hf0c.out.trans hfd.out).trans hfe.out⟩, ⟨by have := hnextF.out.1; have := hbd.out.1; omega, hnextF.out.2, by have := hlenF.out; have := hbd2.out; (try simp only at *); omega⟩⟩
        case measure => simp [intOf]; omega
      | false =>
        have hsq := hsb
        have hfbq := hfbb
        have hf0q := hf0b
        have hplq : Aside0 ((si.put ff0).buf.length ≤ si.buf.length + ff0.size + 1) := ⟨by (try simp only at *); omega⟩
        clear hp1 hneR
        have HCo := Aside0.mk (write_calls hsq.out sColon (by have := hlB.out; have := hplq.out; have e : sColon.size = 1 := rfl; (try simp only at *); omega))
        go_wp2_with (fail)
        refine HCo.out.mono ?_
        rintro _ wc ⟨rfl, hsc, hfc⟩
        have hneR2 := hsq.out.ne hfbq.out (by decide)
        have hfbc := hfc.cell hfbq.out hneR2 (by decide)
        have b2 := (blk_cell hfbc 2).trans rfl
        have hplc := put_len (si.put ff0) sColon
        have HTy := HT.out wc ((si.put ff0).put sColon) ff2 hsc hbd.out.1 hbd.out.2.1 (by have := hlB.out; have := hplq.out; have e : sColon.size = 1 := rfl; (try simp only at *); omega)
        rw [hdp.out] at HTy
        replace HTy := Aside0.mk HTy
        have hlT := wTyped_len HO d ff2 ((si.put ff0).put sColon)
        have hf0c := Aside0.mk (hf0q.out.trans hfc)
        replace hplc := Aside0.mk hplc
        replace hlT := Aside0.mk hlT
        clear hsc hfc hfbc HCo
        go_wp2_with (fail)
        refine HTy.out.mono ?_
        rintro _ wd ⟨rfl, hsd, hfd⟩
        have HSe := Aside0.mk (write_calls hsd sSemi (by have := hlT.out; have := hplc.out; have := hplq.out; have := hlB.out; have := hlB2.out; have e : sColon.size = 1 := rfl; have e : sSemi.size = 1 := rfl; (try simp only at *); omega))
        replace hfd := Aside0.mk hfd
        clear b2 HTy hsd
        go_wp2_with (fail)
        refine HSe.out.mono ?_
        rintro _ we ⟨rfl, hse, hfe⟩
        replace hse := Aside0.mk hse
        replace hfe := Aside0.mk hfe
        clear HSe
        go_wp2_with (fail)
        go_roundw
        case rel => exact ⟨i + 1, _, by go_num, by omega, hE, ⟨hse.out⟩, ⟨(hf0c.out.trans hfd.out).trans hfe.out⟩, ⟨by have := hnextF.out.1; have := hbd.out.1; omega, hnextF.out.2, by have := hlenF.out; have := hbd2.out; (try simp only at *); omega⟩⟩
        case measure => simp [intOf]; omega
    · obtain rfl : i = l.length := by omega
      have E : si = spec := by have := hsp.out; rw [List.drop_length] at this; simpa [wFields] using this
      subst E
      have HB := Aside0.mk (write_calls hs.out sCc hspecl.out)
      go_wp2_with (fail)
      refine HB.out.mono ?_
      rintro _ wb ⟨rfl, hsb, hfb⟩
      replace hsb := Aside0.mk hsb
      replace hfb := Aside0.mk hfb
      go_wp2_with (fail)
      go_end0
      exact ⟨rfl, hsb.out, hf.out.trans hfb.out⟩
end Go.Proofs.YtkafikdjhiienaaGreatDoor

/- write5 -/
namespace Go.Proofs.YtkafikdjhiienaaGreatDoor
open Go.RowKit Go.Proofs.YtkafikdjhiienaaGreatDoorW.PrintWords

theorem WSx.setBad {w0 : World} {R : Nat} {nv : Value} {w : World} {s : WS} {p v : Value} (h : WSx w0 R nv w s p v) (b : Bool) : WSx w0 R nv (w.setCell ⟨R, 4, none⟩ (.bool b)) { s with bad := b } p v :=
  ⟨blk_set h.blk 4 _, h.adr, h.row.kept (grown_set w ⟨R, 4, none⟩ _) (.inr (Lib.ownBlock_ne h.row h.blk (by decide))), h.low, h.bel.trans ((Below.refl _ _).setCell (p := ⟨R, 4, none⟩) h.low _)⟩
theorem WSx.setNext {w0 : World} {R : Nat} {nv : Value} {w : World} {s : WS} {p v : Value} (h : WSx w0 R nv w s p v) (n : Int) : WSx w0 R nv (w.setCell ⟨R, 3, none⟩ (.int .i64 n)) { s with next := n } p v :=
  ⟨blk_set h.blk 3 _, h.adr, h.row.kept (grown_set w ⟨R, 3, none⟩ _) (.inr (Lib.ownBlock_ne h.row h.blk (by decide))), h.low, h.bel.trans ((Below.refl _ _).setCell (p := ⟨R, 3, none⟩) h.low _)⟩

set_option maxRecDepth 100000 in
set_option maxHeartbeats 4000000 in
theorem wtyped_bad {w0 : World} {R : Nat} {A : Option Addr} {c : Nat} {o : List Nod} {w : World} {s : WS} (h : WSr w0 R (.slice A o.length c) w s) (n deep : Int)
    (hb : s.bad = true ∨ n < 0 ∨ (o.length : Int) ≤ n ∨ s.next < n ∨ 20 ≤ deep ∨ 4096 < s.buf.length) :
    Calls Tryz.prog 99 #[.pointer (some ⟨R, 0, none⟩), .int .i64 n, .int .i64 deep] w fun e w' => e = .returned (.tuple #[]) ∧ WSr w0 R (.slice A o.length c) w' { s with bad := true } ∧ FrW w0 R w w' := by
  have HL := Aside0.mk (len_calls h)
  obtain ⟨p, v, hx⟩ := h
  have c2 : w.cell? ⟨R, 2, none⟩ = some (.slice A o.length c) := blk_cell hx.blk 2
  have c3 : w.cell? ⟨R, 3, none⟩ = some (.int .i64 s.next) := blk_cell hx.blk 3
  have c4 : w.cell? ⟨R, 4, none⟩ = some (.bool s.bad) := blk_cell hx.blk 4
  have f4 := blk_frozen hx.blk 4
  replace hx := Aside0.mk hx
  by_cases h1 : s.bad = true
  · rw [h1] at c4
    replace h1 := Aside0.mk h1
    clear hb
    go_enter Tryz.func99, Tryz.ntmps99
    go_wp2_with (fail)
    refine bodyPost_ret (results_none Tryz.results99 _ _ _) rfl ?_
    exact ⟨rfl, ⟨_, _, hx.out.setBad true⟩, (FrW.refl _ _ _).setR 4 _⟩
  have h1 : s.bad = false := by simpa using h1
  rw [h1] at c4
  by_cases h2 : n < 0
  · replace h1 := Aside0.mk h1
    clear hb
    go_enter Tryz.func99, Tryz.ntmps99
    go_wp2_with (fail)
    refine bodyPost_ret (results_none Tryz.results99 _ _ _) rfl ?_
    exact ⟨rfl, ⟨_, _, hx.out.setBad true⟩, (FrW.refl _ _ _).setR 4 _⟩
  have d2 : decide (n < 0) = false := decide_eq_false h2
  by_cases h3 : (o.length : Int) ≤ n
  · replace h1 := Aside0.mk h1
    clear hb
    have d3 : decide ((o.length : Int) ≤ n) = true := decide_eq_true h3
    go_enter Tryz.func99, Tryz.ntmps99
    go_wp2_with (fail)
    refine bodyPost_ret (results_none Tryz.results99 _ _ _) rfl ?_
    exact ⟨rfl, ⟨_, _, hx.out.setBad true⟩, (FrW.refl _ _ _).setR 4 _⟩
  have d3 : decide ((o.length : Int) ≤ n) = false := decide_eq_false h3
  by_cases h4 : s.next < n
  · replace h1 := Aside0.mk h1
    clear hb
    have d4 : decide (s.next < n) = true := decide_eq_true h4
    go_enter Tryz.func99, Tryz.ntmps99
    go_wp2_with (fail)
    refine bodyPost_ret (results_none Tryz.results99 _ _ _) rfl ?_
    exact ⟨rfl, ⟨_, _, hx.out.setBad true⟩, (FrW.refl _ _ _).setR 4 _⟩
  have d4 : decide (s.next < n) = false := decide_eq_false h4
  by_cases h5 : 20 ≤ deep
  · replace h1 := Aside0.mk h1
    clear hb
    have d5 : decide (20 ≤ deep) = true := decide_eq_true h5
    go_enter Tryz.func99, Tryz.ntmps99
    go_wp2_with (fail)
    refine bodyPost_ret (results_none Tryz.results99 _ _ _) rfl ?_
    exact ⟨rfl, ⟨_, _, hx.out.setBad true⟩, (FrW.refl _ _ _).setR 4 _⟩
  have d5 : decide (20 ≤ deep) = false := decide_eq_false h5
  have h6 : 4096 < s.buf.length := by
    rcases hb with hb | hb | hb | hb | hb | hb
    · rw [h1] at hb; cases hb
    · exact absurd hb h2
    · exact absurd hb h3
    · exact absurd hb h4
    · exact absurd hb h5
    · exact hb
  have d6 : decide ((4096 : Int) < (s.buf.length : Int)) = true := decide_eq_true (by omega)
  replace h1 := Aside0.mk h1
  clear hb
  go_enter Tryz.func99, Tryz.ntmps99
  go_wp2_with (go_at_call 127; refine HL.out.mono ?_; rintro _ w1 ⟨rfl, rfl⟩)
  refine bodyPost_ret (results_none Tryz.results99 _ _ _) rfl ?_
  exact ⟨rfl, ⟨_, _, hx.out.setBad true⟩, (FrW.refl _ _ _).setR 4 _⟩
end Go.Proofs.YtkafikdjhiienaaGreatDoor

/- write6 -/
namespace Go.Proofs.YtkafikdjhiienaaGreatDoor
open Go.RowKit Go.Proofs.YtkafikdjhiienaaGreatDoorW.PrintWords

/-- A node that is read, where it was laid ahead. -/
theorem node_at {w0 w : World} {A : Option Addr} {o : List Nod} (hC : kNod.C w0 A o.length o) (hb : Below w0.heap.size w0 w) (n : Int) (h0 : 0 ≤ n) (h1 : n < (o.length : Int)) :
    ∃ ad A3 c3 A4 c4 A5 c5, A = some ad ∧ w.cell? (ad.add (n.toNat * 6)) = some (.int .i64 (PPolicyHolds.rd_T110 o n).f0) ∧ w.cell? ⟨(ad.add (n.toNat * 6)).block, (ad.add (n.toNat * 6)).off + 1, none⟩ = some (.string (PPolicyHolds.rd_T110 o n).f1) ∧ w.cell? ⟨(ad.add (n.toNat * 6)).block, (ad.add (n.toNat * 6)).off + 2, none⟩ = some (.int .i64 (PPolicyHolds.rd_T110 o n).f2) ∧ w.cell? ⟨(ad.add (n.toNat * 6)).block, (ad.add (n.toNat * 6)).off + 3, none⟩ = some (.slice A3 (PPolicyHolds.rd_T110 o n).f3.length c3) ∧ w.cell? ⟨(ad.add (n.toNat * 6)).block, (ad.add (n.toNat * 6)).off + 4, none⟩ = some (.slice A4 (PPolicyHolds.rd_T110 o n).f4.length c4) ∧ w.cell? ⟨(ad.add (n.toNat * 6)).block, (ad.add (n.toNat * 6)).off + 5, none⟩ = some (.slice A5 (PPolicyHolds.rd_T110 o n).f5.length c5) ∧
      (PPolicyHolds.rd_T110 o n).f3.length ≤ c3 ∧ Kd.string.C w0 A3 (PPolicyHolds.rd_T110 o n).f3.length (PPolicyHolds.rd_T110 o n).f3 ∧ (Kd.int .i64).C w0 A4 (PPolicyHolds.rd_T110 o n).f4.length (PPolicyHolds.rd_T110 o n).f4 ∧ kFld.C w0 A5 (PPolicyHolds.rd_T110 o n).f5.length (PPolicyHolds.rd_T110 o n).f5 := by
  obtain ⟨ad, A3, c3, A4, c4, A5, c5, hA, e0, e1, e2, e3, e4, e5, l3, g3, l4, g4, l5, g5⟩ := PPolicyHolds.at_T110 hC n h0 h1
  have k : ∀ {p : Addr} {v : Value}, w0.cell? p = some v → w.cell? p = some v := fun {p} {v} h => (hb.cell (p := p) (World.block_lt_of_cell? w0 _ h)).trans h
  exact ⟨ad, A3, c3, A4, c4, A5, c5, hA, k e0, k e1, k e2, k e3, k e4, k e5, l3, g3, g4, g5⟩
theorem getD_rd (o : List Nod) (n : Int) : o.getD n.toNat PPolicyHolds.z110 = PPolicyHolds.rd_T110 o n := rfl

theorem put_enum (s : WS) (a j : ByteArray) : s.put ((⟨#[101, 110, 117, 109, 32]⟩ : ByteArray) ++ a ++ ⟨#[60]⟩ ++ j ++ ⟨#[62]⟩) = { s with buf := s.buf ++ (sEnum.data.toList ++ a.data.toList ++ [60] ++ j.data.toList ++ [62]) } := by
  simp [WS.put, sEnum]
theorem put_fixed (s : WS) (a j : ByteArray) : s.put ((⟨#[102, 105, 120, 101, 100, 32]⟩ : ByteArray) ++ a ++ ⟨#[32]⟩ ++ j) = { s with buf := s.buf ++ (sFixed.data.toList ++ a.data.toList ++ [32] ++ j.data.toList) } := by
  simp [WS.put, sFixed]
/-- What a write comes to that is a node's last one: cell i of the node's box too. -/
def WPost (w0 : World) (R : Nat) (nv : Value) (w : World) (spec : WS) (xB : Nat) (f1 : ByteArray) (i : Nat) (v : Value) (e : Ending) (w' : World) : Prop :=
  (∃ k : Int, e = .returned (.tuple #[.int .i64 k, .nilIface])) ∧ (WSr w0 R nv w' spec ∧ FrW w0 R w w') ∧ w'.cell? ⟨xB, 1, none⟩ = some (.string f1) ∧ w'.cell? ⟨xB, i, none⟩ = some v
theorem write_at {w0 : World} {R : Nat} {nv : Value} {w wa : World} {s1 spec : WS} {xB i : Nat} {f1 : ByteArray} {v : Value} {cs : Array Value} (h : WSr w0 R nv wa s1) (hf : FrW w0 R w wa) (hx : wa.heap[xB]? = some (.cells cs 110 (0, 0))) (t : ByteArray) (h1 : cs[1]? = some (.string f1)) (hi : cs[i]? = some v)
    (hlen : s1.buf.length + t.size ≤ 140737488355328) (E : s1.put t = spec) : ∀ W, Below wa.heap.size wa W → Calls Tryz.prog 128 #[.pointer (some ⟨R, 0, none⟩), .string t] W (WPost w0 R nv w spec xB f1 i v) := by
  intro W hW
  have hsW := h.below hW
  refine (write_calls hsW t hlen).mono ?_
  rintro e w' ⟨rfl, k1, k2⟩
  have hbW := (hW.block _ (blk_lt hx)).trans hx
  have hb' := k2.cell hbW (hsW.ne hbW (by decide)) (by decide)
  exact ⟨⟨_, rfl⟩, ⟨by rw [← E]; exact k1, hf.trans ((FrW.of_below hW).trans k2)⟩, (blk_cell hb' 1).trans h1, (blk_cell hb' i).trans hi⟩
theorem joinTail_count : ∀ l : List ByteArray, l.length ≤ (Lib.joinTail [44] (l.map (·.data.toList))).length
  | [] => Nat.zero_le _
  | x :: r => by
    have := joinTail_count r
    simp only [Lib.joinTail, List.map_cons, List.flatten_cons, List.length_append, List.length_cons] at this ⊢
    omega
theorem join_count (l : List ByteArray) : l.length ≤ (Lib.join (l.map (·.data.toList)) [44]).length + 1 := by
  cases l with
  | nil => exact Nat.zero_le _
  | cons x r =>
    have := joinTail_count r
    simp only [List.map_cons, Lib.join_cons, List.length_append, List.length_cons]
    omega
theorem join_any {w0 : World} (A : Option Addr) (c : Nat) (l : List ByteArray) (hlc : l.length ≤ c) (hC : Kd.string.C w0 A l.length l) (hb : (Lib.join (l.map (·.data.toList)) [44]).length ≤ 70368744177664) :
    ∀ W, Below w0.heap.size w0 W → Calls Tryz.prog 130 #[.slice A l.length c, .string ⟨#[44]⟩] W fun e w' => e = .returned (.string ⟨(Lib.join (l.map (·.data.toList)) [44]).toArray⟩) ∧ Below W.heap.size W w' := by
  intro W hW
  by_cases h0 : 0 < l.length
  · obtain ⟨b, off, rfl, hbl, hc⟩ := C_strings hC h0
    refine Tryz.strings_Join b off c l ⟨#[44]⟩ W (fun j x hx => ?_) (Nat.lt_of_lt_of_le hbl hW.size) ?_ hlc (Nat.le_trans hb (by omega))
    · have hj := (List.getElem?_eq_some_iff.1 hx).1
      have h1 := hc j hj
      rw [List.getD_eq_getElem?_getD, hx] at h1
      exact (hW.cell (p := ⟨b, off + j, none⟩) hbl).trans h1
    · have := join_count l
      omega
  · obtain rfl : l = [] := List.eq_nil_of_length_eq_zero (by omega)
    exact (Tryz.strings_Join_none A c ⟨#[44]⟩ W).mono fun e w' ⟨h1, h2⟩ => ⟨h1, by rw [h2]; exact Below.refl _ _⟩

set_option maxRecDepth 100000 in
set_option maxHeartbeats 8000000 in
theorem wtyped_calls {w0 : World} {R : Nat} {A : Option Addr} {c : Nat} {o : List Nod} {d CB : Nat} (HO : NodsOk CB o) (hL : LaidAt w0) (hC : kNod.C w0 A o.length o) (hd : d ≤ 19) (HT : WTypedOK w0 R (.slice A o.length c) o d) : WTypedOK w0 R (.slice A o.length c) o (d + 1) := by
  intro w s n h h0 h1 hlen
  by_cases hbad : s.bad = true ∨ n < 0 ∨ (o.length : Int) ≤ n ∨ s.next < n ∨ 4096 < s.buf.length
  · have E : wTyped o (d + 1) n s = { s with bad := true } := by rw [wTyped, if_pos hbad]
    rw [E]
    exact wtyped_bad h n _ (by rcases hbad with hb | hb | hb | hb | hb <;> simp [hb])
  have hdp : (20 : Int) - d = ((20 : Int) - ((d + 1 : Nat) : Int)) + 1 := by omega
  have hdr : 0 ≤ (20 : Int) - ((d + 1 : Nat) : Int) ∧ (20 : Int) - ((d + 1 : Nat) : Int) ≤ 19 := by omega
  generalize (20 : Int) - ((d + 1 : Nat) : Int) = deep at hdp hdr ⊢
  have E0 := hbad
  have k1 : s.bad = false := by simp only [not_or] at hbad; simpa using hbad.1
  have k2 : 0 ≤ n := by omega
  have k3 : n < (o.length : Int) := by omega
  have k4 : n ≤ s.next := by omega
  have k6 : s.buf.length ≤ 4096 := by omega
  clear hbad
  have HL := Aside0.mk ((len_calls h).mono (R' := fun e w' => e = .returned (.int .i64 s.buf.length) ∧ w = w') fun e w' ⟨a, b⟩ => ⟨a, b.symm⟩)
  obtain ⟨ad, A3, c3, A4, c4, A5, c5, rfl, e0, e1, e2, e3, e4, e5, l3, g3, g4, g5⟩ := node_at hC h.bel n k2 k3
  have hmem := getD_mem o n k2 k3
  have hown := Aside0.mk (HO.own _ hmem)
  have hnum := Aside0.mk (HO.num _ hmem)
  have hspec : wTyped o (d + 1) n s = if n < s.next then ({ s with bad := s.bad || decide ((PPolicyHolds.rd_T110 o n).f0 < 9) } : WS).put (PPolicyHolds.rd_T110 o n).f1 else wNode (wTyped o d) (PPolicyHolds.rd_T110 o n) { s with next := s.next + 1 } := by
    rw [wTyped, if_neg E0]; rfl
  rw [hspec]
  rw [getD_rd] at hown hnum
  clear hspec E0 hmem
  generalize PPolicyHolds.rd_T110 o n = x at e0 e1 e2 e3 e4 e5 l3 g3 g4 g5 hown hnum ⊢
  have hbg := HO.big
  have hblen := HO.len
  have hdCB : d * CB ≤ 19 * CB := Nat.mul_le_mul_right CB hd
  have hS := Aside0.mk h
  obtain ⟨p, v, hx⟩ := h
  have r2 : w.cell? ⟨R, 2, none⟩ = some (.slice (some ad) o.length c) := blk_cell hx.blk 2
  have r3 : w.cell? ⟨R, 3, none⟩ = some (.int .i64 s.next) := blk_cell hx.blk 3
  have r4 : w.cell? ⟨R, 4, none⟩ = some (.bool s.bad) := blk_cell hx.blk 4
  rw [k1] at r4
  have f3 := blk_frozen hx.blk 3
  have f4 := blk_frozen hx.blk 4
  have hRlt := blk_lt hx.blk
  have d2 : decide (n < 0) = false := decide_eq_false (by omega)
  have d3 : decide ((o.length : Int) ≤ n) = false := decide_eq_false (by omega)
  have d4 : decide (s.next < n) = false := decide_eq_false (by omega)
  have d5 : decide (20 ≤ deep) = false := decide_eq_false (by omega)
  have d6 : decide ((4096 : Int) < (s.buf.length : Int)) = false := decide_eq_false (by omega)
  replace hx := Aside0.mk hx
  replace k1 := Aside0.mk k1
  replace hdp := Aside0.mk hdp
  replace hbg := Aside0.mk hbg
  replace hdCB := Aside0.mk hdCB
  replace g3 := Aside0.mk g3
  replace g4 := Aside0.mk g4
  replace g5 := Aside0.mk g5
  replace HT := Aside0.mk HT
  replace hC := Aside0.mk hC
  replace hL := Aside0.mk hL
  by_cases k7 : n < s.next
  · rw [if_pos k7]
    have d7 : decide (n < s.next) = true := decide_eq_true k7
    go_enter Tryz.func99, Tryz.ntmps99
    go_wp2_with (go_at_call 127; refine HL.out.mono ?_; rintro _ w1 ⟨rfl, rfl⟩)
    have hs2 : WSr w0 R (.slice (some ad) o.length c) ((w.setCell ⟨R, 4, none⟩ (.bool (decide (x.f0 < 9)))).alloc (.cells #[.int .i64 x.f0, .string x.f1, .int .i64 x.f2, .slice A3 x.f3.length c3, .slice A4 x.f4.length c4, .slice A5 x.f5.length c5] 110)) { s with bad := decide (x.f0 < 9) } := WSr.below ⟨_, _, hx.out.setBad _⟩ ((Below.refl _ _).alloc (Nat.le_refl _) _)
    have hf2 : Aside0 (FrW w0 R w ((w.setCell ⟨R, 4, none⟩ (.bool (decide (x.f0 < 9)))).alloc (.cells #[.int .i64 x.f0, .string x.f1, .int .i64 x.f2, .slice A3 x.f3.length c3, .slice A4 x.f4.length c4, .slice A5 x.f5.length c5] 110))) := ⟨((FrW.refl w0 R w).setR 4 _).trans (FrW.of_below ((Below.refl _ _).alloc (Nat.le_refl _) _))⟩
    have hsz : (w.setCell ⟨R, 4, none⟩ (.bool (decide (x.f0 < 9)))).heap.size = w.heap.size := by simp [World.setCell]
    have hxb := World.alloc_heap_new (w.setCell ⟨R, 4, none⟩ (.bool (decide (x.f0 < 9)))) (.cells #[.int .i64 x.f0, .string x.f1, .int .i64 x.f2, .slice A3 x.f3.length c3, .slice A4 x.f4.length c4, .slice A5 x.f5.length c5] 110)
    rw [hsz] at hxb
    generalize (w.setCell ⟨R, 4, none⟩ (.bool (decide (x.f0 < 9)))).alloc (.cells #[.int .i64 x.f0, .string x.f1, .int .i64 x.f2, .slice A3 x.f3.length c3, .slice A4 x.f4.length c4, .slice A5 x.f5.length c5] 110) = wa at hs2 hf2 hxb ⊢
    have b1 := (blk_cell hxb 1).trans rfl
    have how : x.f1.size + 64 ≤ CB := by have := hown.out; unfold ownN at this; omega
    have HW := Aside0.mk (write_calls (hs2.below (Below.refl _ _).drew) x.f1 (by have := hbg.out; simp only; omega))
    have hx0 : ∀ (W : World) (a : Addr), World.cell? { heap := W.heap, tape := W.tape, drawn := W.drawn + 1, os := W.os, output := W.output } a = W.cell? a := fun _ _ => rfl
    clear hxb hs2 hsz
    go_still_tail 5, (by kernel_rfl)
    change wpList _ _ _ _ _ wa.drew
    clear hx0 b1
    go_wp2_with (fail)
    refine HW.out.mono ?_
    rintro _ wb ⟨rfl, hsb, hfb⟩
    replace hsb := Aside0.mk hsb
    replace hfb := Aside0.mk hfb
    go_wp2_with (fail)
    refine bodyPost_ret (results_none Tryz.results99 _ _ _) rfl ?_
    rw [k1.out, Bool.false_or]
    exact ⟨rfl, hsb.out, (hf2.out.trans (FrW.of_below (Below.refl _ _).drew)).trans hfb.out⟩
  · rw [if_neg k7]
    have d7 : decide (n < s.next) = false := decide_eq_false k7
    have hnx : s.next + 1 ≤ (o.length : Int) := by omega
    generalize hspec : wNode (wTyped o d) x { s with next := s.next + 1 } = spec
    go_enter Tryz.func99, Tryz.ntmps99
    go_upto_region 7 with (go_at_call 127; refine HL.out.mono ?_; rintro _ w1 ⟨rfl, rfl⟩)
    have hs2 : WSr w0 R (.slice (some ad) o.length c) ((w.setCell ⟨R, 3, none⟩ (.int .i64 (s.next + 1))).alloc (.cells #[.int .i64 x.f0, .string x.f1, .int .i64 x.f2, .slice A3 x.f3.length c3, .slice A4 x.f4.length c4, .slice A5 x.f5.length c5] 110)) { s with next := s.next + 1 } := WSr.below ⟨_, _, hx.out.setNext _⟩ ((Below.refl _ _).alloc (Nat.le_refl _) _)
    have hf2 : Aside0 (FrW w0 R w ((w.setCell ⟨R, 3, none⟩ (.int .i64 (s.next + 1))).alloc (.cells #[.int .i64 x.f0, .string x.f1, .int .i64 x.f2, .slice A3 x.f3.length c3, .slice A4 x.f4.length c4, .slice A5 x.f5.length c5] 110))) := ⟨((FrW.refl w0 R w).setR 3 _).trans (FrW.of_below ((Below.refl _ _).alloc (Nat.le_refl _) _))⟩
    have hsz : (w.setCell ⟨R, 3, none⟩ (.int .i64 (s.next + 1))).heap.size = w.heap.size := by simp [World.setCell]
    have hxb := World.alloc_heap_new (w.setCell ⟨R, 3, none⟩ (.int .i64 (s.next + 1))) (.cells #[.int .i64 x.f0, .string x.f1, .int .i64 x.f2, .slice A3 x.f3.length c3, .slice A4 x.f4.length c4, .slice A5 x.f5.length c5] 110)
    rw [hsz] at hxb
    generalize (w.setCell ⟨R, 3, none⟩ (.int .i64 (s.next + 1))).alloc (.cells #[.int .i64 x.f0, .string x.f1, .int .i64 x.f2, .slice A3 x.f3.length c3, .slice A4 x.f4.length c4, .slice A5 x.f5.length c5] 110) = wa at hs2 hf2 hxb ⊢
    have hLa := Aside0.mk (hL.out.below hs2.bel)
    have b0 := (blk_cell hxb 0).trans rfl
    have b1 := (blk_cell hxb 1).trans rfl
    have b2 := (blk_cell hxb 2).trans rfl
    have b3 := (blk_cell hxb 3).trans rfl
    have b4 := (blk_cell hxb 4).trans rfl
    have b5 := (blk_cell hxb 5).trans rfl
    have how : Aside0 (x.f1.size + (Lib.join (x.f3.map (·.data.toList)) [44]).length + x.f4.length + ownF x.f5 + (Lib.itoa x.f2).length + 64 ≤ CB) := hown
    generalize hs1 : ({ s with next := s.next + 1 } : WS) = s1 at hs2 hspec
    have hs1n : Aside0 (0 ≤ s1.next ∧ s1.next ≤ (o.length : Int) ∧ s1.buf.length ≤ 4096) := ⟨by rw [← hs1]; exact ⟨by simp only; omega, hnx, k6⟩⟩
    have hxbl := blk_lt hxb
    replace hxb := Aside0.mk hxb
    replace hs2 := Aside0.mk hs2
    clear hs1 hsz hx r2 r3 r4 f3 f4 hRlt d2 d3 d4 d5 d6 e0 e1 e2 e3 e4 e5 HL k1 k2 k3 k4 k6 h0 h1 hlen hnx hS d7 k7 hown
    unfold wNode at hspec
    by_cases k6 : x.f0 = 6
    · have t6 : (x.f0 == 6) = true := by simp [k6]
      rw [if_pos k6] at hspec
      replace hspec := Aside0.mk hspec
      replace k6 := Aside0.mk k6
      have HI := Aside0.mk (items_calls HO hd HT.out hs2.out hs1n.out.1 hs1n.out.2.1 sBo sBc x.f4 A4 c4 g4.out deep hdp.out hdr (by have := how.out; have := hs1n.out.2.2; have := hbg.out; have := hdCB.out; have e1 : sBo.size = 1 := rfl; have e2 : sBc.size = 1 := rfl; omega))
      go_wp2_with (fail)
      refine HI.out.mono ?_
      rintro _ wb ⟨rfl, hsb, hfb⟩
      replace hsb := Aside0.mk hsb
      replace hfb := Aside0.mk hfb
      go_wp2_with (fail)
      go_end0
      exact ⟨rfl, by rw [← hspec.out]; exact hsb.out, hf2.out.trans hfb.out⟩
    have t6 : (x.f0 == 6) = false := by simp [k6]
    rw [if_neg k6] at hspec
    by_cases k7 : x.f0 = 7
    · have t7 : (x.f0 == 7) = true := by simp [k7]
      rw [if_pos k7] at hspec
      replace hspec := Aside0.mk hspec
      replace k7 := Aside0.mk k7
      replace k6 := Aside0.mk k6
      have HI := Aside0.mk (items_calls HO hd HT.out hs2.out hs1n.out.1 hs1n.out.2.1 sCo sCc x.f4 A4 c4 g4.out deep hdp.out hdr (by have := how.out; have := hs1n.out.2.2; have := hbg.out; have := hdCB.out; have e1 : sCo.size = 1 := rfl; have e2 : sCc.size = 1 := rfl; omega))
      go_wp2_with (fail)
      refine HI.out.mono ?_
      rintro _ wb ⟨rfl, hsb, hfb⟩
      replace hsb := Aside0.mk hsb
      replace hfb := Aside0.mk hfb
      go_wp2_with (fail)
      go_end0
      exact ⟨rfl, by rw [← hspec.out]; exact hsb.out, hf2.out.trans hfb.out⟩
    have t7 : (x.f0 == 7) = false := by simp [k7]
    rw [if_neg k7] at hspec
    by_cases k8 : x.f0 = 8
    · have t8 : (x.f0 == 8) = true := by simp [k8]
      rw [if_pos k8] at hspec
      replace hspec := Aside0.mk hspec
      replace k8 := Aside0.mk k8
      replace k7 := Aside0.mk k7
      replace k6 := Aside0.mk k6
      have HI := Aside0.mk (items_calls HO hd HT.out hs2.out hs1n.out.1 hs1n.out.2.1 sPo sPc x.f4 A4 c4 g4.out deep hdp.out hdr (by have := how.out; have := hs1n.out.2.2; have := hbg.out; have := hdCB.out; have e1 : sPo.size = 1 := rfl; have e2 : sPc.size = 1 := rfl; omega))
      go_wp2_with (fail)
      refine HI.out.mono ?_
      rintro _ wb ⟨rfl, hsb, hfb⟩
      replace hsb := Aside0.mk hsb
      replace hfb := Aside0.mk hfb
      go_wp2_with (fail)
      go_end0
      exact ⟨rfl, by rw [← hspec.out]; exact hsb.out, hf2.out.trans hfb.out⟩
    have t8 : (x.f0 == 8) = false := by simp [k8]
    rw [if_neg k8] at hspec
    by_cases k9 : x.f0 = 9
    · have t9 : (x.f0 == 9) = true := by simp [k9]
      rw [if_pos k9] at hspec
      replace hspec := Aside0.mk hspec
      replace k9 := Aside0.mk k9
      replace k8 := Aside0.mk k8
      replace k7 := Aside0.mk k7
      replace k6 := Aside0.mk k6
      have HJ0 := join_any A3 c3 x.f3 l3 (C_at g3.out hs2.out.bel) (by have := how.out; have := hbg.out; omega)
      generalize hJ : (⟨(Lib.join (x.f3.map (·.data.toList)) [44]).toArray⟩ : ByteArray) = J at HJ0
      have hJl : J.size = (Lib.join (x.f3.map (·.data.toList)) [44]).length := by rw [← hJ]; exact List.size_toArray
      have hJd : J.data.toList = Lib.join (x.f3.map (·.data.toList)) [44] := by rw [← hJ]
      have HJ : Aside0 (∀ W, Below wa.heap.size wa W → Calls Tryz.prog 130 #[.slice A3 x.f3.length c3, .string ⟨#[44]⟩] W fun e w' => e = .returned (.string J) ∧ Below wa.heap.size wa w') := ⟨fun W hW => (HJ0 W hW).mono fun e w' ⟨a, b⟩ => ⟨a, hW.trans (b.mono hW.size)⟩⟩
      have KS : Aside0 (∀ w', Below wa.heap.size wa w' → w'.cell? ⟨w.heap.size, 1, none⟩ = some (.string x.f1) ∧ w'.cell? ⟨w.heap.size, 3, none⟩ = some (.slice A3 x.f3.length c3)) := ⟨fun w' hw => ⟨(hw.cell (p := ⟨w.heap.size, 1, none⟩) hxbl).trans b1, (hw.cell (p := ⟨w.heap.size, 3, none⟩) hxbl).trans b3⟩⟩
      have hsm : 5 + x.f1.size + 1 + J.size + 1 ≤ CB := by have := how.out; omega
      have HWs : Aside0 (∀ W, Below wa.heap.size wa W → Calls Tryz.prog 128 #[.pointer (some ⟨R, 0, none⟩), .string ((⟨#[101, 110, 117, 109, 32]⟩ : ByteArray) ++ x.f1 ++ ⟨#[60]⟩ ++ J ++ ⟨#[62]⟩)] W (WPost w0 R (.slice (some ad) o.length c) w spec w.heap.size x.f1 3 (.slice A3 x.f3.length c3))) := ⟨write_at hs2.out hf2.out hxb.out _ rfl rfl (by
          have e1 : (⟨#[101, 110, 117, 109, 32]⟩ : ByteArray).size = 5 := rfl
          have e2 : (⟨#[60]⟩ : ByteArray).size = 1 := rfl
          have e3 : (⟨#[62]⟩ : ByteArray).size = 1 := rfl
          have := hs1n.out.2.2
          have := hbg.out
          simp only [size_app]
          omega) (by rw [← hspec.out, ← hJd]; exact put_enum _ _ _)⟩
      have hq1 : ¬ 9223372036854775807 < 5 + x.f1.size := by have := hbg.out; omega
      have hq2 : ¬ 9223372036854775807 < 5 + x.f1.size + 1 := by have := hbg.out; omega
      have hq3 : ¬ 9223372036854775807 < 5 + x.f1.size + 1 + J.size := by have := hbg.out; omega
      have hq4 : ¬ 9223372036854775807 < 5 + x.f1.size + 1 + J.size + 1 := by have := hbg.out; omega
      clear hsm hJl hJd hJ HJ0
      go_wp2_with (fail)
      clear b0 b2 b4 b5 t6 t7 t8 t9
      go_region_held3 (fun w' => w'.cell? ⟨w.heap.size, 1, none⟩ = some (.string x.f1) ∧ w'.cell? ⟨w.heap.size, 3, none⟩ = some (.slice A3 x.f3.length c3)) (first | go_keep | exact ⟨q2, q3⟩ | exact ⟨q0, q1⟩) (first
        | (go_at_call 130; refine (HJ.out _ ?hb).mono ?_; (case hb => exact (Below.refl _ _).drew); rintro _ w2 ⟨rfl, hb2⟩; obtain ⟨q0, q1⟩ := KS.out _ hb2)
        | (go_at_call 128; refine (HWs.out _ ?hb).mono ?_; (case hb => first | exact hb2 | exact hb2.drew | exact (Below.refl _ _).drew); rintro _ w3 ⟨⟨k, rfl⟩, hpost, q2, q3⟩))
      all_goals go_wp2_with (fail)
      all_goals go_end0
      all_goals exact ⟨rfl, hpost.1, hpost.2⟩
    have t9 : (x.f0 == 9) = false := by simp [k9]
    rw [if_neg k9] at hspec
    by_cases k10 : x.f0 = 10
    · have t10 : (x.f0 == 10) = true := by simp [k10]
      rw [if_pos k10] at hspec
      replace hspec := Aside0.mk hspec
      replace k10 := Aside0.mk k10
      replace k9 := Aside0.mk k9
      replace k8 := Aside0.mk k8
      replace k7 := Aside0.mk k7
      replace k6 := Aside0.mk k6
      have HJ0 := fun (W : World) (hW : Below wa.heap.size wa W) => Tryz.strconv_Itoa x.f2 hnum.out.1 hnum.out.2 W (hLa.out.below hW).pow10
      generalize hJ : (⟨(Lib.itoa x.f2).toArray⟩ : ByteArray) = J at HJ0
      have hJl : J.size = (Lib.itoa x.f2).length := by rw [← hJ]; exact List.size_toArray
      have hJd : J.data.toList = Lib.itoa x.f2 := by rw [← hJ]
      have HJ : Aside0 (∀ W, Below wa.heap.size wa W → Calls Tryz.prog 131 #[.int .i64 x.f2] W fun e w' => e = .returned (.string J) ∧ Below wa.heap.size wa w') := ⟨fun W hW => (HJ0 W hW).mono fun e w' ⟨a, k, os, b⟩ => ⟨a, by rw [b]; exact hW.trans ((Lib.below_grow W.heap.size W (Nat.le_refl _) k os).mono hW.size)⟩⟩
      have KS : Aside0 (∀ w', Below wa.heap.size wa w' → w'.cell? ⟨w.heap.size, 1, none⟩ = some (.string x.f1) ∧ w'.cell? ⟨w.heap.size, 2, none⟩ = some (.int .i64 x.f2)) := ⟨fun w' hw => ⟨(hw.cell (p := ⟨w.heap.size, 1, none⟩) hxbl).trans b1, (hw.cell (p := ⟨w.heap.size, 2, none⟩) hxbl).trans b2⟩⟩
      have hsm : 6 + x.f1.size + 1 + J.size ≤ CB := by have := how.out; omega
      have HWs : Aside0 (∀ W, Below wa.heap.size wa W → Calls Tryz.prog 128 #[.pointer (some ⟨R, 0, none⟩), .string ((⟨#[102, 105, 120, 101, 100, 32]⟩ : ByteArray) ++ x.f1 ++ ⟨#[32]⟩ ++ J)] W (WPost w0 R (.slice (some ad) o.length c) w spec w.heap.size x.f1 2 (.int .i64 x.f2))) := ⟨write_at hs2.out hf2.out hxb.out _ rfl rfl (by
          have e1 : (⟨#[102, 105, 120, 101, 100, 32]⟩ : ByteArray).size = 6 := rfl
          have e2 : (⟨#[32]⟩ : ByteArray).size = 1 := rfl
          have := hs1n.out.2.2
          have := hbg.out
          simp only [size_app]
          omega) (by rw [← hspec.out, ← hJd]; exact put_fixed _ _ _)⟩
      have hq1 : ¬ 9223372036854775807 < 6 + x.f1.size := by have := hbg.out; omega
      have hq2 : ¬ 9223372036854775807 < 6 + x.f1.size + 1 := by have := hbg.out; omega
      have hq3 : ¬ 9223372036854775807 < 6 + x.f1.size + 1 + J.size := by have := hbg.out; omega
      clear hsm hJl hJd hJ HJ0
      go_wp2_with (fail)
      clear b0 b3 b4 b5 t6 t7 t8 t9 t10
      go_region_held3 (fun w' => w'.cell? ⟨w.heap.size, 1, none⟩ = some (.string x.f1) ∧ w'.cell? ⟨w.heap.size, 2, none⟩ = some (.int .i64 x.f2)) (first | go_keep | exact ⟨q2, q3⟩ | exact ⟨q0, q1⟩) (first
        | (go_at_call 131; refine (HJ.out _ ?hb).mono ?_; (case hb => exact (Below.refl _ _).drew); rintro _ w2 ⟨rfl, hb2⟩; obtain ⟨q0, q1⟩ := KS.out _ hb2)
        | (go_at_call 128; refine (HWs.out _ ?hb).mono ?_; (case hb => first | exact hb2 | exact hb2.drew | exact (Below.refl _ _).drew); rintro _ w3 ⟨⟨k, rfl⟩, hpost, q2, q3⟩))
      all_goals go_wp2_with (fail)
      all_goals go_end0
      all_goals exact ⟨rfl, hpost.1, hpost.2⟩
    have t10 : (x.f0 == 10) = false := by simp [k10]
    rw [if_neg k10] at hspec
    by_cases k11 : x.f0 = 11
    · have t11 : (x.f0 == 11) = true := by simp [k11]
      rw [if_pos k11] at hspec
      replace hspec := Aside0.mk hspec
      replace k11 := Aside0.mk k11
      replace k10 := Aside0.mk k10
      replace k9 := Aside0.mk k9
      replace k8 := Aside0.mk k8
      replace k7 := Aside0.mk k7
      replace k6 := Aside0.mk k6
      have HI := Aside0.mk (record_calls HO hd HT.out hs2.out hs1n.out.1 hs1n.out.2.1 x.f1 x.f0 x.f2 (.slice A3 x.f3.length c3) (.slice A4 x.f4.length c4) x.f5 A5 c5 g5.out deep hdp.out hdr (by have := how.out; have := hs1n.out.2.2; have := hbg.out; have := hdCB.out; omega) ⟨_, _, _, rfl⟩ ⟨_, _, _, rfl⟩)
      go_wp2_with (fail)
      refine HI.out.mono ?_
      rintro _ wb ⟨rfl, hsb, hfb⟩
      replace hsb := Aside0.mk hsb
      replace hfb := Aside0.mk hfb
      go_wp2_with (fail)
      go_end0
      exact ⟨rfl, by rw [← hspec.out]; exact hsb.out, hf2.out.trans hfb.out⟩
    have t11 : (x.f0 == 11) = false := by simp [k11]
    rw [if_neg k11] at hspec
    replace k11 := Aside0.mk k11
    replace k10 := Aside0.mk k10
    replace k9 := Aside0.mk k9
    replace k8 := Aside0.mk k8
    replace k7 := Aside0.mk k7
    replace k6 := Aside0.mk k6
    obtain ⟨p, v, hx⟩ := hs2.out
    have f4 := blk_frozen hx.blk 4
    have r4 : wa.cell? ⟨R, 4, none⟩ = some (.bool s1.bad) := blk_cell hx.blk 4
    have hRlt := blk_lt hx.blk
    replace hx := Aside0.mk hx
    by_cases kn : x.f0 < 0
    · rw [if_pos (.inl kn)] at hspec
      replace hspec := Aside0.mk hspec
      have tn : decide (x.f0 < 0) = true := decide_eq_true kn
      go_wp2_with (fail)
      refine bodyPost_ret (results_none Tryz.results99 _ _ _) rfl ?_
      exact ⟨rfl, by rw [← hspec.out]; exact ⟨_, _, hx.out.setBad true⟩, hf2.out.setR 4 _⟩
    have tn : decide (x.f0 < 0) = false := decide_eq_false kn
    by_cases kb : 12 ≤ x.f0
    · rw [if_pos (.inr kb)] at hspec
      replace hspec := Aside0.mk hspec
      have tb : decide (12 ≤ x.f0) = true := decide_eq_true kb
      go_wp2_with (fail)
      refine bodyPost_ret (results_none Tryz.results99 _ _ _) rfl ?_
      exact ⟨rfl, by rw [← hspec.out]; exact ⟨_, _, hx.out.setBad true⟩, hf2.out.setR 4 _⟩
    have tb : decide (12 ≤ x.f0) = false := decide_eq_false kb
    rw [if_neg (by omega)] at hspec
    replace hspec := Aside0.mk hspec
    have hwd := hLa.out.words x.f0.toNat (by omega)
    have HW := Aside0.mk (write_calls (hs2.out.below (Below.refl _ _).drew) (wordsL.getD x.f0.toNat ByteArray.empty) (by have := wordsL_size x.f0.toNat; have := hs1n.out.2.2; omega))
    generalize wordsL.getD x.f0.toNat ByteArray.empty = wd at hwd HW hspec
    clear r4 f4 hx
    go_wp2_with (fail)
    have kn0 : 0 ≤ x.f0 := by omega
    have kb0 : x.f0 < 12 := by omega
    have hx0 : ∀ (W : World) (a : Addr), World.cell? { heap := W.heap, tape := W.tape, drawn := W.drawn + 1, os := W.os, output := W.output } a = W.cell? a := fun _ _ => rfl
    clear b1 b2 b3 b4 b5 t6 t7 t8 t9 t10 t11 tn tb
    go_still_tail 7, (by kernel_rfl)
    change wpList _ _ _ _ _ wa.drew
    clear hx0 b0 hwd
    go_wp2_with (fail)
    refine HW.out.mono ?_
    rintro _ wb ⟨rfl, hsb, hfb⟩
    replace hsb := Aside0.mk hsb
    replace hfb := Aside0.mk hfb
    go_wp2_with (fail)
    go_end0
    exact ⟨rfl, by rw [← hspec.out]; exact hsb.out, (hf2.out.trans (FrW.of_below (Below.refl _ _).drew)).trans hfb.out⟩
end Go.Proofs.YtkafikdjhiienaaGreatDoor

/- show -/
namespace Go.Proofs.YtkafikdjhiienaaGreatDoor
open Go.RowKit Go.Proofs.YtkafikdjhiienaaGreatDoorW.PrintWords

theorem take_eq_succ {α : Type} [DecidableEq α] (l m : List α) (i : Nat) (x y : α) (hx : l[i]? = some x) (hy : m[i]? = some y) : (l.take (i + 1) = m.take (i + 1)) ↔ (l.take i = m.take i ∧ x = y) := by
  have h1 := (List.getElem?_eq_some_iff.1 hx)
  have h2 := (List.getElem?_eq_some_iff.1 hy)
  rw [List.take_succ_eq_append_getElem h1.1, List.take_succ_eq_append_getElem h2.1, h1.2, h2.2]
  constructor
  · intro e
    have := List.append_inj' e rfl
    exact ⟨this.1, by simpa using this.2⟩
  · rintro ⟨e, rfl⟩; rw [e]

set_option maxRecDepth 100000 in
set_option maxHeartbeats 4000000 in
theorem equalFunc_calls (l m : List Nod) (A B : Option Addr) (c d : Nat) (w : World) (hA : kNod.C w A l.length l) (hB : kNod.C w B m.length m) :
    Calls Tryz.prog 101 #[.slice A l.length c, .slice B m.length d, .func (.func 102) #[] #[]] w fun e w' => e = .returned (.bool (decide (l = m))) ∧ Below w.heap.size w w' := by
  by_cases hl : l.length = m.length
  · have hmax := Kd.C_max hA
    replace hA := Aside0.mk hA
    replace hB := Aside0.mk hB
    have hb : ((l.length : Int) != (m.length : Int)) = false := by simp [hl]
    have hl1 : l.length ≤ m.length := by omega
    have hl2 : m.length ≤ l.length := by omega
    clear hl
    go_enter Tryz.func101, Tryz.ntmps101
    go_wp2_with (fail)
    go_loopw [17] (fun v wr => ∃ i : Nat, v = .int .i64 i ∧ i ≤ l.length ∧ Aside0 (l.take i = m.take i) ∧ Aside0 (Below w.heap.size w wr)) (fun v _ => l.length - (intOf v).toNat)
    case atStart => exact ⟨0, rfl, Nat.zero_le _, ⟨by simp⟩, ⟨Below.refl _ _⟩⟩
    case round =>
      obtain ⟨i, rfl, hi, hs, hw⟩ := hrel
      by_cases hlt : i < l.length
      · obtain ⟨ad, A3, c3, A4, c4, A5, c5, hAe, e0, e1, e2, e3, e4, e5, l3, g3, l4, g4, l5, g5⟩ := PPolicyHolds.at_T110 (Kd.C_below hA.out hw.out) i (by omega) (by omega)
        obtain ⟨bd, B3, d3, B4, d4, B5, d5, hBe, q0, q1, q2, q3, q4, q5, m3, r3, m4, r4, m5, r5⟩ := PPolicyHolds.at_T110 (Kd.C_below hB.out hw.out) i (by omega) (by omega)
        have hx : Aside0 (l[i]? = some (PPolicyHolds.rd_T110 l i)) := ⟨by simp [PPolicyHolds.rd_T110, List.getD_eq_getElem?_getD, List.getElem?_eq_getElem hlt]⟩
        have hy : Aside0 (m[i]? = some (PPolicyHolds.rd_T110 m i)) := ⟨by simp [PPolicyHolds.rd_T110, List.getD_eq_getElem?_getD, List.getElem?_eq_getElem (Nat.lt_of_lt_of_le hlt hl1)]⟩
        subst hAe hBe
        rw [Int.toNat_natCast] at e0 e1 e2 e3 e4 e5 q0 q1 q2 q3 q4 q5
        generalize PPolicyHolds.rd_T110 l i = x at *
        generalize PPolicyHolds.rd_T110 m i = y at *
        have HS : Aside0 (∀ W, Below wr.heap.size wr W → Calls Tryz.prog 102 #[encNod x A3 A4 A5 c3 c4 c5, encNod y B3 B4 B5 d3 d4 d5] W fun e w' => e = .returned (.bool (decide (x = y))) ∧ Below W.heap.size W w') := ⟨fun W hW => sameNode_calls x y W (Kd.C_below g3 hW) l3 (Kd.C_below g4 hW) l4 (Kd.C_below g5 hW) l5 (Kd.C_below r3 hW) m3 (Kd.C_below r4 hW) m4 (Kd.C_below r5 hW) m5⟩
        clear l3 g3 l4 g4 l5 g5 m3 r3 m4 r4 m5 r5
        have lb := World.block_lt_of_cell? wr _ q0
        by_cases hxy : x = y
        · have HS2 : Aside0 (∀ W, Below wr.heap.size wr W → Calls Tryz.prog 102 #[encNod x A3 A4 A5 c3 c4 c5, encNod y B3 B4 B5 d3 d4 d5] W fun e w' => e = .returned (.bool true) ∧ Below W.heap.size W w') := ⟨fun W hW => by have := HS.out W hW; rwa [decide_eq_true hxy] at this⟩
          have E : Aside0 (l.take (i + 1) = m.take (i + 1)) := ⟨(take_eq_succ l m i x y hx.out hy.out).2 ⟨hs.out, hxy⟩⟩
          clear hxy
          go_wp2_with (fail)
          refine (HS2.out _ (((Below.refl _ _).alloc (Nat.le_refl _) _).alloc (by simp) _)).mono ?_
          rintro _ w2 ⟨rfl, hb2⟩
          have hbw := Aside0.mk (below_of hw.out ((((Below.refl _ _).alloc (Nat.le_refl _) _).alloc (by simp) _).trans (hb2.mono (by simp <;> omega))))
          clear hb2
          go_wp2_with (fail)
          go_roundw
          case rel => exact ⟨i + 1, by go_num, by omega, E, hbw⟩
          case measure => simp [intOf]; omega
        · have HS2 : Aside0 (∀ W, Below wr.heap.size wr W → Calls Tryz.prog 102 #[encNod x A3 A4 A5 c3 c4 c5, encNod y B3 B4 B5 d3 d4 d5] W fun e w' => e = .returned (.bool false) ∧ Below W.heap.size W w') := ⟨fun W hW => by have := HS.out W hW; rwa [decide_eq_false hxy] at this⟩
          have E : Aside0 (decide (l = m) = false) := ⟨decide_eq_false (fun e => hxy (by subst e; have h1 := hx.out; have h2 := hy.out; rw [h1] at h2; exact Option.some.inj h2))⟩
          clear hxy
          go_wp2_with (fail)
          refine (HS2.out _ (((Below.refl _ _).alloc (Nat.le_refl _) _).alloc (by simp) _)).mono ?_
          rintro _ w2 ⟨rfl, hb2⟩
          have hbw := Aside0.mk (below_of hw.out ((((Below.refl _ _).alloc (Nat.le_refl _) _).alloc (by simp) _).trans (hb2.mono (by simp <;> omega))))
          clear hb2
          go_wp2_with (fail)
          go_ret
          exact ⟨by rw [E.out]; rfl, hbw.out⟩
      · obtain rfl : i = l.length := by omega
        have E : l = m := by have := hs.out; rwa [List.take_length, List.take_of_length_le hl2] at this
        go_wp2_with (fail)
        go_ret
        exact ⟨by simp [E], hw.out⟩
  · have hb : ((l.length : Int) != (m.length : Int)) = true := by simp; omega
    have E : Aside0 (decide (l = m) = false) := ⟨by simp; intro e; exact hl (by rw [e])⟩
    clear hl
    go_enter Tryz.func101, Tryz.ntmps101
    go_wp2_with (fail)
    go_ret
    exact ⟨by rw [E.out]; rfl, Below.refl _ _⟩

theorem writer_all {w0 : World} {R : Nat} {A : Option Addr} {c : Nat} {o : List Nod} {CB : Nat} (HO : NodsOk CB o) (hL : LaidAt w0) (hC : kNod.C w0 A o.length o) : ∀ d, d ≤ 20 → WTypedOK w0 R (.slice A o.length c) o d := by
  intro d
  induction d with
  | zero =>
    intro _ w s n h _ _ _
    have E : wTyped o 0 n s = { s with bad := true } := rfl
    rw [E]
    exact wtyped_bad h n _ (by right; right; right; right; left; omega)
  | succ d ih => intro hd; exact wtyped_calls HO hL hC (by omega) (ih (by omega))

def showRes (r : Option ByteArray) : Value := .tuple #[.string (r.getD ⟨#[]⟩), .int .i64 (if r.isSome then 0 else 1)]
set_option maxRecDepth 100000 in
set_option maxHeartbeats 4000000 in
theorem shown_calls (o : List Nod) (CB : Nat) (HO : NodsOk CB o) (A : Option Addr) (c : Nat) (w : World) (hL : LaidAt w) (hC : kNod.C w A o.length o) :
    Calls Tryz.prog 77 #[.agg #[.slice A o.length c]] w fun e w' => e = .returned (showRes (showSpec o)) ∧ Below w.heap.size w w' := by
  have hA : Below w.heap.size w (w.alloc (.cells #[.slice A o.length c] 54)) := (Below.refl _ _).alloc (Nat.le_refl _) _
  have hbx : (w.alloc (.cells #[.slice A o.length c] 54)).heap[w.heap.size]? = some (.cells #[.slice A o.length c] 54 (0, 0)) := World.alloc_heap_new _ _
  have hL1 := hL.below hA
  have hC1 := Kd.C_below hC hA
  have hs1 : (w.alloc (.cells #[.slice A o.length c] 54)).heap.size = w.heap.size + 1 := by simp
  generalize hw1 : w.alloc (.cells #[.slice A o.length c] 54) = w1 at hA hbx hL1 hC1 hs1
  have hW : WSr w1 w1.heap.size (.slice A o.length c) (w1.alloc (.cells #[.pointer none, .slice none 0 0, .slice A o.length c, .int .i64 0, .bool false] 138)) ⟨[], 0, false⟩ :=
    ⟨.pointer none, .slice none 0 0, World.alloc_heap_new _ _, .inl rfl, World.ownsRow_nil _ _ _ _, Nat.le_refl _, (Below.refl _ _).alloc (Nat.le_refl _) _⟩
  have HT := writer_all (R := w1.heap.size) (c := c) HO hL1 hC1 20 (Nat.le_refl _) _ _ 0 hW (Int.le_refl _) (by simp) (by simp)
  rw [show (20 : Int) - ((20 : Nat) : Int) = 0 from rfl] at HT
  generalize hR : w1.heap.size = R at HT hW
  obtain rfl : R = w.heap.size + 1 := by omega
  replace HT := Aside0.mk HT
  replace hR := Aside0.mk hR
  have hbx2 : (w1.alloc (.cells #[.pointer none, .slice none 0 0, .slice A o.length c, .int .i64 0, .bool false] 138)).heap[w.heap.size]? = some (.cells #[.slice A o.length c] 54 (0, 0)) := blk_alloc hbx _
  have hlen := wTyped_len HO 20 0 ⟨[], 0, false⟩
  have hCB := HO.big
  have b0 := (blk_cell hbx 0).trans rfl
  replace hlen := Aside0.mk hlen
  replace hW := Aside0.mk hW
  replace hbx := Aside0.mk hbx
  replace hbx2 := Aside0.mk hbx2
  replace hA := Aside0.mk hA
  replace hL1 := Aside0.mk hL1
  replace hC1 := Aside0.mk hC1
  replace hCB := Aside0.mk hCB
  generalize hspec : showSpec o = spec
  unfold showSpec at hspec
  generalize wTyped o 20 0 ⟨[], 0, false⟩ = s at HT hspec hlen
  replace hspec := Aside0.mk hspec
  go_enter Tryz.func77, Tryz.ntmps77
  go_wp2_with (fail)
  refine HT.out.mono ?_
  rintro _ w2 ⟨rfl, hs2, hf2⟩
  have hl2 := Aside0.mk (hs2.bel)
  have hbx3 := (hl2.out.block w.heap.size (by omega)).trans hbx.out
  have g0 := (blk_cell hbx3 0).trans rfl
  have HStr := Aside0.mk (fun (W : World) (h : Below w2.heap.size w2 W) => string_calls (hs2.below h))
  have hfin := Aside0.mk (hA.out.trans (hl2.out.mono (by omega)))
  obtain ⟨p, v, hx⟩ := hs2
  have r3 : w2.cell? ⟨w.heap.size + 1, 3, none⟩ = some (.int .i64 s.next) := blk_cell hx.blk 3
  have r4 : w2.cell? ⟨w.heap.size + 1, 4, none⟩ = some (.bool s.bad) := blk_cell hx.blk 4
  have hRl := blk_lt hx.blk
  replace hx := Aside0.mk hx
  clear HT hf2 b0 hbx2
  replace hbx3 := Aside0.mk hbx3
  by_cases k1 : s.bad = true
  · have E : Aside0 (spec = none) := ⟨by rw [← hspec.out, if_pos (.inl k1)]⟩
    rw [k1] at r4
    replace k1 := Aside0.mk k1
    go_wp2_with (fail)
    go_quiet (fail)
    go_wp2_with (fail)
    go_ret2
    rw [E.out]
    exact ⟨rfl, pw_below_drewN (hfin.out.trans (Below.refl _ _)) _⟩
  have k1 : s.bad = false := by simpa using k1
  rw [k1] at r4
  have gn : decide ((o.length : Int) = (o.length : Int)) = true := by simp
  clear gn
  by_cases k2 : s.next = (o.length : Int)
  · have t2 : (s.next != (o.length : Int)) = false := by simp [k2]
    have hC2 := Aside0.mk (Kd.C_below hC1.out (by rw [hR.out]; exact hR.out ▸ hl2.out))
    have hL2 := Aside0.mk (hL1.out.below hl2.out)
    have hno : ¬ (s.bad = true ∨ s.next ≠ (o.length : Int)) := by rw [k1]; simp [k2]
    have hsp : Aside0 ((if (parseSpec (bs s.buf)).2.2 ≠ 0 ∨ (parseSpec (bs s.buf)).1 ≠ o then none else some (bs s.buf)) = spec) := ⟨by rw [← hspec.out, if_neg hno]⟩
    clear hno
    have hbl : (bs s.buf).size ≤ 140737488351232 := by
      have h1 := hlen.out
      have h2 := hCB.out
      have e : (bs s.buf).size = s.buf.length := List.size_toArray
      rw [e]
      simp only [List.length_nil] at h1
      omega
    generalize bs s.buf = tx at HStr hsp hbl
    replace k1 := Aside0.mk k1
    replace k2 := Aside0.mk k2
    go_wp2_with (fail)
    go_quiet (fail)
    go_wp2_with (fail)
    refine (HStr.out _ (drawnN_below _ _)).mono ?_
    rintro _ w3 ⟨rfl, hb3⟩
    have hb13 := (below_drawn hl2.out ⟨_, rfl⟩).trans hb3
    have hf3 := Aside0.mk (hA.out.trans (hb13.mono (by omega)))
    have hbx4 := (hb13.block w.heap.size (by omega)).trans hbx.out
    have hC3 := Aside0.mk (Kd.C_below hC1.out hb13)
    have hL3 := hL1.out.below hb13
    have HP := parsed_calls tx w3 hbl hL3
    have hw3 := hf3.out.size
    clear hb3 hb13 g0 hL3
    rcases hp : parseSpec tx with ⟨pn, pa, py⟩
    rw [hp] at HP hsp
    replace HP := Aside0.mk HP
    replace hp := Aside0.mk hp
    replace hbx4 := Aside0.mk hbx4
    simp only at HP
    go_wp2_with (fail)
    refine HP.out.mono ?_
    rintro _ w4 ⟨v4, rfl, hN4, hb4⟩
    obtain ⟨An, cn, rfl, hlc, hCn⟩ := Kd.R_reads hN4
    have hb5 : Below w3.heap.size w3 (w4.alloc (.cells #[.slice An pn.length cn] 54)) := hb4.trans ((Below.refl _ _).alloc hb4.size _)
    have hCn5 := Kd.C_below hCn ((Below.refl w4.heap.size w4).alloc (Nat.le_refl _) (.cells #[.slice An pn.length cn] 54))
    have hCo5 := Kd.C_below hC3.out hb5
    have hsx : w.heap.size < w3.heap.size := blk_lt hbx4.out
    have hbx5 := (hb5.block w.heap.size hsx).trans hbx4.out
    have g0 := (blk_cell hbx5 0).trans rfl
    have g1 := (blk_cell (World.alloc_heap_new w4 (.cells #[.slice An pn.length cn] 54)) 0).trans rfl
    have HE := Aside0.mk (equalFunc_calls pn o An A cn c _ hCn5 hCo5)
    have hfe := Aside0.mk (hf3.out.trans (hb5.mono hw3))
    have hw5 := hfe.out.size
    clear hN4 hCn hCn5 hCo5 hb4 hb5 HP
    by_cases ky : py = 0
    · have ty : (py != 0) = false := by simp [ky]
      by_cases ke : pn = o
      · rw [decide_eq_true ke] at HE
        have E : Aside0 (spec = some tx) := ⟨by rw [← hsp.out]; simp [ky, ke]⟩
        replace ke := Aside0.mk ke
        replace ky := Aside0.mk ky
        go_wp2_with (fail)
        refine HE.out.mono ?_
        rintro _ w6 ⟨rfl, hb6⟩
        have hend := Aside0.mk (hfe.out.trans (hb6.mono hw5))
        clear hb6
        go_wp2_with (fail)
        go_ret2
        rw [E.out]
        exact ⟨rfl, hend.out⟩
      · rw [decide_eq_false ke] at HE
        have E : Aside0 (spec = none) := ⟨by rw [← hsp.out]; simp [ke]⟩
        replace ke := Aside0.mk ke
        replace ky := Aside0.mk ky
        go_wp2_with (fail)
        refine HE.out.mono ?_
        rintro _ w6 ⟨rfl, hb6⟩
        have hend := Aside0.mk (hfe.out.trans (hb6.mono hw5))
        clear hb6
        go_wp2_with (fail)
        go_ret2
        rw [E.out]
        exact ⟨rfl, hend.out⟩
    · have ty : (py != 0) = true := by simp [ky]
      have E : Aside0 (spec = none) := ⟨by rw [← hsp.out]; simp [ky]⟩
      replace ky := Aside0.mk ky
      go_wp2_with (fail)
      go_ret2
      rw [E.out]
      exact ⟨rfl, hfe.out⟩
  · have t2 : (s.next != (o.length : Int)) = true := by simp [k2]
    have E : Aside0 (spec = none) := ⟨by rw [← hspec.out, if_pos (.inr k2)]⟩
    replace k1 := Aside0.mk k1
    replace k2 := Aside0.mk k2
    go_wp2_with (fail)
    go_quiet (fail)
    go_wp2_with (fail)
    go_ret2
    rw [E.out]
    exact ⟨rfl, pw_below_drewN (hfin.out.trans (Below.refl _ _)) _⟩
end Go.Proofs.YtkafikdjhiienaaGreatDoor

/- canon -/
namespace Go.Proofs.YtkafikdjhiienaaGreatDoor
open Go.RowKit Go.Proofs.YtkafikdjhiienaaGreatDoorW.PrintWords

def canonText (s : ByteArray) : ByteArray × Int × Int :=
  if (parseSpec s).2.2 ≠ 0 then (⟨#[]⟩, (parseSpec s).2.1, (parseSpec s).2.2)
  else ((showSpec (parseSpec s).1).getD ⟨#[]⟩, 0, if (showSpec (parseSpec s).1).isSome then 0 else 1)
def canonIs (s : ByteArray) : Bool := decide ((canonText s).2.2 = 0) && decide ((canonText s).1 = s)
def schemaSpec (s : ByteArray) : List Nod := if canonIs s = true then (parseSpec s).1 else []

def ParsePost (s : ByteArray) (w : World) (e : Ending) (w' : World) : Prop :=
  ∃ v, e = .returned (.tuple #[.agg #[v], .int .i64 (parseSpec s).2.1, .int .i64 (parseSpec s).2.2]) ∧ kNod.R 110 w' w.heap.size (fun _ => True) v (parseSpec s).1 ∧ Below w.heap.size w w'

theorem R_set_low {α : Type} {d : Kd α} {e b b' p i : Nat} {w : World} {v u : Value} {l : List α} (h : d.R e w b (fun _ => True) v l) (hp : p < b) (hb : b' ≤ b) : d.R e (w.setCell ⟨p, i, none⟩ u) b' (fun _ => True) v l :=
  Kd.R_mono (Kd.R_lower (Kd.R_far (p := ⟨p, i, none⟩) (Kd.R_mono (Kd.R_bound h) (fun k hk => (by have := hk.2.1; omega : k ≠ p))) (fun _ hk => hk) u) hb) (fun _ _ => trivial)

set_option maxRecDepth 100000 in
set_option maxHeartbeats 2000000 in
theorem Parse_calls (s : ByteArray) (w : World) (hs : s.size ≤ 140737488351232) (hL : LaidAt w) : Calls Tryz.prog 39 #[.string s] w (ParsePost s w) := by
  have hA : Below w.heap.size w (w.alloc (.cells #[.slice none 0 0] 54)) := (Below.refl _ _).alloc (Nat.le_refl _) _
  have hbx : (w.alloc (.cells #[.slice none 0 0] 54)).heap[w.heap.size]? = some (.cells #[.slice none 0 0] 54 (0, 0)) := World.alloc_heap_new _ _
  have HP := Aside0.mk (parsed_calls s (w.alloc (.cells #[.slice none 0 0] 54)) hs (hL.below hA))
  have hs1 : (w.alloc (.cells #[.slice none 0 0] 54)).heap.size = w.heap.size + 1 := by simp
  replace hA := Aside0.mk hA
  replace hbx := Aside0.mk hbx
  replace hs1 := Aside0.mk hs1
  go_enter Tryz.func39, Tryz.ntmps39
  go_wp2_with (fail)
  generalize w.alloc (.cells #[.slice none 0 0] 54) = w1 at *
  refine HP.out.mono ?_
  rintro _ w2 ⟨v, rfl, hN, hb⟩
  have hb2 := (hb.block w.heap.size (by have := hs1.out; omega)).trans hbx.out
  have c0 := (blk_cell hb2 0).trans rfl
  have f0 := blk_frozen hb2 0
  have l0 := blk_lt hb2
  obtain ⟨An, cn, rfl, _, _⟩ := Kd.R_reads hN
  have hN2 := Aside0.mk hN
  have hbl := Aside0.mk (hA.out.trans (hb.mono (by have := hs1.out; omega)))
  replace hb2 := Aside0.mk hb2
  clear hN hb HP
  go_wp2_with (fail)
  have hm := blk_set hb2.out 0 (.slice An (parseSpec s).1.length cn)
  have cm := (blk_cell hm 0).trans rfl
  exact bodyPost_ret (v := .tuple #[.agg #[.slice An (parseSpec s).1.length cn], .int .i64 (parseSpec s).2.1, .int .i64 (parseSpec s).2.2]) (by simp [results, Tryz.results39, go_sem, cm]) rfl
    ⟨_, rfl, R_set_low hN2.out (by have := hs1.out; omega) (by have := hs1.out; omega), hbl.out.setCell (p := ⟨w.heap.size, 0, none⟩) (by simp) _⟩

theorem showRes_tuple (r : Option ByteArray) : showRes r = .tuple #[.string (r.getD ⟨#[]⟩), .int .i64 (if r.isSome then 0 else 1)] := rfl
set_option maxRecDepth 100000 in
set_option maxHeartbeats 2000000 in
theorem Show_calls (o : List Nod) (CB : Nat) (HO : NodsOk CB o) (A : Option Addr) (c : Nat) (w : World) (hL : LaidAt w) (hC : kNod.C w A o.length o) :
    Calls Tryz.prog 56 #[.agg #[.slice A o.length c]] w fun e w' => e = .returned (showRes (showSpec o)) ∧ Below w.heap.size w w' := by
  have hA : Below w.heap.size w (w.alloc (.cells #[.slice A o.length c] 54)) := (Below.refl _ _).alloc (Nat.le_refl _) _
  have hbx : (w.alloc (.cells #[.slice A o.length c] 54)).heap[w.heap.size]? = some (.cells #[.slice A o.length c] 54 (0, 0)) := World.alloc_heap_new _ _
  have HS := shown_calls o CB HO A c (w.alloc (.cells #[.slice A o.length c] 54)) (hL.below hA) (Kd.C_below hC hA)
  rw [showRes_tuple] at HS ⊢
  generalize (showSpec o).getD ⟨#[]⟩ = x at HS ⊢
  generalize (if (showSpec o).isSome = true then (0 : Int) else 1) = y at HS ⊢
  replace HS := Aside0.mk HS
  have b0 := (blk_cell hbx 0).trans rfl
  replace hA := Aside0.mk hA
  clear hbx
  go_enter Tryz.func56, Tryz.ntmps56
  go_wp2_with (fail)
  refine HS.out.mono ?_
  rintro _ w2 ⟨rfl, hb⟩
  have hbl := Aside0.mk (hA.out.trans (hb.mono (by simp)))
  clear hb HS b0
  go_wp2_with (fail)
  go_ret2
  exact ⟨rfl, hbl.out⟩

set_option maxRecDepth 100000 in
set_option maxHeartbeats 2000000 in
theorem text_calls (s : ByteArray) (w : World) (hs : s.size ≤ 140737488351232) (hL : LaidAt w) :
    Calls Tryz.prog 46 #[.string s] w fun e w' => e = .returned (.tuple #[.string (canonText s).1, .int .i64 (canonText s).2.1, .int .i64 (canonText s).2.2]) ∧ Below w.heap.size w w' := by
  have HP := Aside0.mk (Parse_calls s w hs hL)
  have HO : Aside0 ((parseSpec s).2.2 = 0 → NodsOk 20000000 (parseSpec s).1) := ⟨fun h => parse_nods s h (words_good s)⟩
  generalize hct : canonText s = ct
  unfold canonText at hct
  unfold ParsePost at HP
  replace hL := Aside0.mk hL
  rcases hp : parseSpec s with ⟨o, a, y⟩
  rw [hp] at HP HO hct
  replace hp := Aside0.mk hp
  simp only at HP HO hct
  go_enter Tryz.func46, Tryz.ntmps46
  go_wp2_with (fail)
  refine HP.out.mono ?_
  rintro _ w1 ⟨v, rfl, hN, hb⟩
  obtain ⟨An, cn, rfl, hlc, hC⟩ := Kd.R_reads hN
  have hA : Below w1.heap.size w1 (w1.alloc (.cells #[.slice An o.length cn] 54)) := (Below.refl _ _).alloc (Nat.le_refl _) _
  have hb2 := hb.trans (hA.mono hb.size)
  have hC2 := Aside0.mk (Kd.C_below hC hA)
  have hL2 := Aside0.mk (hL.out.below hb2)
  have c0 := (blk_cell (World.alloc_heap_new w1 (.cells #[.slice An o.length cn] 54)) 0).trans rfl
  replace hb2 := Aside0.mk hb2
  clear hN hb hC hA HP
  by_cases ky : y = 0
  · have ty : (y != 0) = false := by simp [ky]
    rw [if_neg (by simp [ky])] at hct
    have HS := Show_calls o 20000000 (HO.out ky) An cn _ hL2.out hC2.out
    rw [showRes_tuple] at HS
    generalize (showSpec o).getD ⟨#[]⟩ = x at HS hct
    generalize (if (showSpec o).isSome = true then (0 : Int) else 1) = z at HS hct
    replace HS := Aside0.mk HS
    subst hct
    replace ky := Aside0.mk ky
    go_wp2_with (fail)
    refine HS.out.mono ?_
    rintro _ w2 ⟨rfl, hb3⟩
    have hbl := Aside0.mk (hb2.out.trans (hb3.mono hb2.out.size))
    clear hb3
    go_wp2_with (fail)
    go_ret3
    exact ⟨rfl, hbl.out⟩
  · have ty : (y != 0) = true := by simp [ky]
    rw [if_pos ky] at hct
    subst hct
    replace ky := Aside0.mk ky
    go_wp2_with (fail)
    go_ret3
    exact ⟨rfl, hb2.out⟩

set_option maxRecDepth 100000 in
set_option maxHeartbeats 2000000 in
theorem is_calls' (s : ByteArray) (w : World) (hs : s.size ≤ 140737488351232) (hL : LaidAt w) :
    Calls Tryz.prog 38 #[.string s] w fun e w' => e = .returned (.bool (canonIs s)) ∧ Below w.heap.size w w' := by
  have HT := Aside0.mk (text_calls s w hs hL)
  have E : Aside0 (canonIs s = (decide ((canonText s).2.2 = 0) && decide ((canonText s).1 = s))) := ⟨rfl⟩
  generalize canonIs s = b at E ⊢
  generalize canonText s = ct at HT E
  obtain ⟨x, a, y⟩ := ct
  simp only at HT E
  by_cases ky : y = 0
  · have ty : (y == 0) = true := by simp [ky]
    have E2 : Aside0 (b = decide (x = s)) := ⟨by rw [E.out]; simp [ky]⟩
    have E3 := Aside0.mk (str_eq x s)
    replace ky := Aside0.mk ky
    go_enter Tryz.func38, Tryz.ntmps38
    go_wp2_with (fail)
    refine HT.out.mono ?_
    rintro _ w1 ⟨rfl, hb⟩
    replace hb := Aside0.mk hb
    go_wp2_with (fail)
    go_ret
    exact ⟨by rw [E2.out, ← E3.out]; rfl, hb.out⟩
  · have ty : (y == 0) = false := by simp [ky]
    have E2 : Aside0 (b = false) := ⟨by rw [E.out]; simp [ky]⟩
    replace ky := Aside0.mk ky
    go_enter Tryz.func38, Tryz.ntmps38
    go_wp2_with (fail)
    refine HT.out.mono ?_
    rintro _ w1 ⟨rfl, hb⟩
    replace hb := Aside0.mk hb
    go_wp2_with (fail)
    go_ret
    exact ⟨by rw [E2.out]; rfl, hb.out⟩

def SchemaPost (s : ByteArray) (w : World) (e : Ending) (w' : World) : Prop :=
  ∃ v, e = .returned (.tuple #[.agg #[v], .bool (canonIs s)]) ∧ kNod.R 110 w' w.heap.size (fun _ => True) v (schemaSpec s) ∧ Below w.heap.size w w'
set_option maxRecDepth 100000 in
set_option maxHeartbeats 2000000 in
theorem Schema_calls (s : ByteArray) (w : World) (hs : s.size ≤ 140737488351232) (hL : LaidAt w) : Calls Tryz.prog 32 #[.string s] w (SchemaPost s w) := by
  have hA : Below w.heap.size w (w.alloc (.cells #[.slice none 0 0] 54)) := (Below.refl _ _).alloc (Nat.le_refl _) _
  have hbx : (w.alloc (.cells #[.slice none 0 0] 54)).heap[w.heap.size]? = some (.cells #[.slice none 0 0] 54 (0, 0)) := World.alloc_heap_new _ _
  have hs1 : (w.alloc (.cells #[.slice none 0 0] 54)).heap.size = w.heap.size + 1 := by simp
  have HI := Aside0.mk (is_calls' s (w.alloc (.cells #[.slice none 0 0] 54)) hs (hL.below hA))
  have HP : Aside0 (∀ W, Below w.heap.size w W → Calls Tryz.prog 39 #[.string s] W (ParsePost s W)) := ⟨fun W hW => Parse_calls s W hs (hL.below hW)⟩
  have E0 : Aside0 (schemaSpec s = if canonIs s = true then (parseSpec s).1 else []) := ⟨rfl⟩
  replace hA := Aside0.mk hA
  replace hbx := Aside0.mk hbx
  replace hs1 := Aside0.mk hs1
  cases hi : canonIs s with
  | false =>
    have E : Aside0 (schemaSpec s = []) := ⟨by rw [E0.out, hi]; rfl⟩
    have hsp : ∀ e w', (∃ v, e = .returned (.tuple #[.agg #[v], .bool false]) ∧ kNod.R 110 w' w.heap.size (fun _ => True) v [] ∧ Below w.heap.size w w') → SchemaPost s w e w' := fun e w' h => by unfold SchemaPost; rw [hi, E.out]; exact h
    replace hsp := Aside0.mk hsp
    rw [hi] at HI
    replace hi := Aside0.mk hi
    go_enter Tryz.func32, Tryz.ntmps32
    go_wp2_with (fail)
    generalize w.alloc (.cells #[.slice none 0 0] 54) = w1 at *
    refine HI.out.mono ?_
    rintro _ w2 ⟨rfl, hb⟩
    have hb2 := (hb.block w.heap.size (by have := hs1.out; omega)).trans hbx.out
    have c0 := (blk_cell hb2 0).trans rfl
    have f0 := blk_frozen hb2 0
    have l0 := blk_lt hb2
    have hbl := Aside0.mk (hA.out.trans (hb.mono (by have := hs1.out; omega)))
    replace hb2 := Aside0.mk hb2
    clear hb HI
    go_wp2_with (fail)
    have hm := blk_set hb2.out 0 (.slice none 0 0)
    have cm := (blk_cell hm 0).trans rfl
    exact bodyPost_ret (v := .tuple #[.agg #[.slice none 0 0], .bool false]) (by simp [results, Tryz.results32, go_sem, cm]) rfl
      (hsp.out _ _ ⟨_, rfl, Kd.R_nil _ _ _ _ _, hbl.out.setCell (p := ⟨w.heap.size, 0, none⟩) (by simp) _⟩)
  | true =>
    have E : Aside0 (schemaSpec s = (parseSpec s).1) := ⟨by rw [E0.out, hi]; rfl⟩
    have hsp : ∀ e w', (∃ v, e = .returned (.tuple #[.agg #[v], .bool true]) ∧ kNod.R 110 w' w.heap.size (fun _ => True) v (parseSpec s).1 ∧ Below w.heap.size w w') → SchemaPost s w e w' := fun e w' h => by unfold SchemaPost; rw [hi, E.out]; exact h
    replace hsp := Aside0.mk hsp
    rw [hi] at HI
    replace hi := Aside0.mk hi
    go_enter Tryz.func32, Tryz.ntmps32
    go_wp2_with (fail)
    generalize w.alloc (.cells #[.slice none 0 0] 54) = w1 at *
    refine HI.out.mono ?_
    rintro _ w2 ⟨rfl, hb⟩
    have hb2 := Aside0.mk ((hb.block w.heap.size (by have := hs1.out; omega)).trans hbx.out)
    have hbl := Aside0.mk (hA.out.trans (hb.mono (by have := hs1.out; omega)))
    have hsz2 := hb.size
    clear hb HI
    go_wp2_with (fail)
    refine (HP.out _ hbl.out).mono ?_
    rintro _ w3 ⟨v, rfl, hN, hb3⟩
    obtain ⟨An, cn, rfl, _, _⟩ := Kd.R_reads hN
    have hb4 : Below w2.heap.size w2 (w3.alloc (.cells #[.slice An (parseSpec s).1.length cn] 54)) := hb3.trans ((Below.refl _ _).alloc hb3.size _)
    have hN4 := Aside0.mk (Kd.R_below hN ((Below.refl w3.heap.size w3).alloc (Nat.le_refl _) (.cells #[.slice An (parseSpec s).1.length cn] 54)))
    have hbx4 := (hb4.block w.heap.size (blk_lt hb2.out)).trans hb2.out
    have c0 := (blk_cell hbx4 0).trans rfl
    have f0 := blk_frozen hbx4 0
    have l0 := blk_lt hbx4
    have g0 := (blk_cell (World.alloc_heap_new w3 (.cells #[.slice An (parseSpec s).1.length cn] 54)) 0).trans rfl
    have hbl4 := Aside0.mk (hbl.out.trans (hb4.mono hbl.out.size))
    have hne : w3.heap.size ≠ w.heap.size := by have := hb3.size; have := hs1.out; omega
    replace hbx4 := Aside0.mk hbx4
    clear hN hb3 hb4
    go_wp2_with (fail)
    have hm := blk_set hbx4.out 0 (.slice An (parseSpec s).1.length cn)
    have cm := (blk_cell hm 0).trans rfl
    have hlo := hbl.out.size
    exact bodyPost_ret (v := .tuple #[.agg #[.slice An (parseSpec s).1.length cn], .bool true]) (by simp [results, Tryz.results32, go_sem, cm]) rfl
      (hsp.out _ _ ⟨_, rfl, R_set_low hN4.out (by have := hs1.out; omega) hlo, hbl4.out.setCell (p := ⟨w.heap.size, 0, none⟩) (by simp) _⟩)
end Go.Proofs.YtkafikdjhiienaaGreatDoor
