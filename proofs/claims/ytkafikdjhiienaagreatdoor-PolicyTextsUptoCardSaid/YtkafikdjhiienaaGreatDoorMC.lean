/- The parser as a whole, and what its nodes are like. -/
import Derived.Test.YtkafikdjhiienaaGreatDoorMB
import Derived.BigQuiet
import Derived.Deep.RegionHeldLaw
import Derived.Defers
import Derived.Recover
set_option linter.unusedVariables false
set_option linter.unusedSimpArgs false
/- typed0 -/
namespace Go.Proofs.YtkafikdjhiienaaGreatDoor
open Go.RowKit Go.Proofs.YtkafikdjhiienaaGreatDoorW.PrintWords

theorem contains_int (w : World) (A : Option Addr) (c : Nat) (l : List Int) (x : Int) (h : (Kd.int .i64).C w A l.length l) :
    Calls Tryz.prog 80 #[.slice A l.length c, .int .i64 x] w fun e w' => e = .returned (.bool (l.contains x)) ∧ w' = w := by
  by_cases h0 : 0 < l.length
  · obtain ⟨b, off, rfl, _, hc⟩ := C_place h h0 (by decide)
    have := Tryz.slices_Contains_int b off l.length c l x w (Nat.le_refl _) (Kd.C_max h) (fun j hj => by
      obtain ⟨c, _, hk, hu⟩ := hc j _ (List.getElem?_eq_getElem hj)
      obtain rfl : c = [.int .i64 l[j]] := hk
      have := hu 0 _ rfl
      have e1 : (Kd.int .i64).sz = 1 := rfl
      rw [e1, Nat.mul_one, Nat.add_zero] at this
      rw [this, List.getD_eq_getElem?_getD, List.getElem?_eq_getElem hj]; rfl)
    rwa [List.take_length] at this
  · obtain rfl : l = [] := List.eq_nil_of_length_eq_zero (by omega)
    exact Tryz.slices_Contains_int_empty A c x w

/-- A type's kind, where there is one. -/
theorem kind_ok {p : PS} {k : Int} (h : p.kind = .ok k) : 0 < p.tok.f1.size ∧ p.tok.f0 ≠ 3 ∧ -1 ≤ k ∧ k ≤ 11 := by
  unfold PS.kind at h
  have his : ∀ s, 0 < s.size → p.is s = true → 0 < p.tok.f1.size ∧ p.tok.f0 ≠ 3 := by
    intro s hs hi
    simp only [PS.is, Bool.and_eq_true, decide_eq_true_eq] at hi
    exact ⟨by rw [hi.2]; exact hs, hi.1⟩
  split at h
  · rename_i h1
    cases h
    have := his _ (by decide) h1
    exact ⟨this.1, this.2, by decide, by decide⟩
  split at h
  · rename_i h1
    cases h
    have := his _ (by decide) h1
    exact ⟨this.1, this.2, by decide, by decide⟩
  split at h
  · rename_i h1
    cases h
    have := his _ (by decide) h1
    exact ⟨this.1, this.2, by decide, by decide⟩
  split at h
  · cases h
  rename_i h0
  have h00 : p.tok.f0 = 0 := Classical.not_not.1 h0
  split at h
  · rename_i h1
    cases h
    simp only [isKeyword, Bool.and_eq_true, decide_eq_true_eq] at h1
    refine ⟨h1.1, by omega, ?_⟩
    have hm := (Lib.containsS_iff _ _).1 h1.2
    simp only [wordsL, List.mem_cons, List.not_mem_nil, or_false] at hm
    rcases hm with e | e | e | e | e | e | e | e | e | e | e | e <;> rw [e] <;> decide
  split at h
  · cases h
  · rename_i h1
    cases h
    have := isName_size (s := p.tok.f1) (by simpa using h1)
    exact ⟨this.1, by omega, by decide, by decide⟩

section
variable {T : Bool → List Int → PS → PR Int} (HG : Grows T)
include HG
theorem pItem_grows {n : Int} {s : ByteArray} {p q : PS} {u : Unit} (h : pItem T n s p = .ok (u, q)) : q.l.length ≤ p.l.length ∧ p.nodes.length ≤ q.nodes.length := by
  unfold pItem at h
  split at h
  · cases h
  · rename_i x q1 h1
    have g := HG _ _ _ _ _ h1
    have m := must_len h
    have d := mod_len q1 n fun y => { y with f4 := [x] }
    rw [d.1] at m
    rw [m.2, d.2, m.1]
    omega
theorem pUnion_grows {n : Int} {q : PS} {u : Unit} : ∀ (k : Nat) (l : List Int) (p : PS), pUnion T n k l p = .ok (u, q) → q.l.length ≤ p.l.length ∧ p.nodes.length ≤ q.nodes.length := by
  intro k
  induction k with
  | zero => intro l p h; cases h
  | succ k ih =>
    intro l p h
    rw [pUnion_succ] at h
    split at h
    · cases h
    · rename_i x q1 h1
      have g := HG _ _ _ _ _ h1
      split at h
      · rename_i q2 h2
        cases h
        have d := mod_len q2 n fun y => { y with f4 := l ++ [x] }
        have e := goes_len h2
        rw [d.1, d.2, e.2.1]
        omega
      · rename_i q2 h2
        have e := goes_len h2
        split at h
        · cases h
        · rename_i q3 h3
          have m := must_len h3
          have i := ih _ _ h
          rw [m.2, e.2.1] at i
          omega
omit HG in
theorem pSyms_grows {n : Int} {q : PS} {u : Unit} : ∀ (k : Nat) (l : List ByteArray) (p : PS), pSyms n k l p = .ok (u, q) → q.l.length ≤ p.l.length ∧ p.nodes.length ≤ q.nodes.length := by
  intro k
  induction k with
  | zero => intro l p h; cases h
  | succ k ih =>
    intro l p h
    rw [pSyms_succ] at h
    split at h
    · cases h
    · rename_i x q1 h1
      have g := name_len h1
      split at h
      · rename_i q2 h2
        cases h
        have d := mod_len q2 n fun y => { y with f3 := l ++ [x] }
        have e := goes_len h2
        rw [d.1, d.2, e.2.1, g.2.1]
        omega
      · rename_i q2 h2
        have e := goes_len h2
        split at h
        · cases h
        · rename_i q3 h3
          have m := must_len h3
          have i := ih _ _ h
          rw [m.2, e.2.1, g.2.1] at i
          omega
theorem pFields_grows {n : Int} {q : PS} {u : Unit} : ∀ (k : Nat) (l : List Fld) (p : PS), pFields T n k l p = .ok (u, q) → q.l.length ≤ p.l.length ∧ p.nodes.length ≤ q.nodes.length := by
  intro k
  induction k with
  | zero => intro l p h; cases h
  | succ k ih =>
    intro l p h
    rw [pFields_succ] at h
    split at h
    · rename_i q1 h1
      cases h
      have d := mod_len q1 n fun y => { y with f5 := l }
      have e := goes_len h1
      rw [d.1, d.2, e.2.1]
      omega
    · rename_i q1 h1
      have e1 := goes_len h1
      split at h
      · cases h
      · rename_i x q2 h2
        have e2 := name_len h2
        split at h
        rename_i has q3 h3
        have e3 := goes_len h3
        split at h
        · cases h
        · rename_i q4 h4
          have e4 := must_len h4
          split at h
          · cases h
          · rename_i t q5 h5
            have e5 := HG _ _ _ _ _ h5
            split at h
            · cases h
            · rename_i q6 h6
              have e6 := must_len h6
              have i := ih _ _ h
              rw [e6.2] at i
              have e7 := e5.2.1
              rw [e4.2, e3.2.1, e2.2.1, e1.2.1] at e7
              omega
theorem pDefined_grows {n k : Int} {p q : PS} {u : Unit} (h : pDefined T n k p = .ok (u, q)) : q.l.length ≤ p.l.length ∧ p.nodes.length ≤ q.nodes.length := by
  cases hn : p.name (fun s => decide (0 ≤ p.called s)) with
  | error e => unfold pDefined at h; rw [hn] at h; cases h
  | ok r =>
    obtain ⟨s, q1⟩ := r
    rw [pDefined_ok _ _ _ _ _ _ hn] at h
    have e := name_len hn
    have d := mod_len q1 n fun y => { y with f1 := s }
    generalize (q1.mod n fun y => { y with f1 := s }) = Q at h d
    have key : q.l.length ≤ Q.l.length ∧ Q.nodes.length ≤ q.nodes.length := by
      unfold defRest at h
      split at h
      · split at h
        · cases h
        · rename_i q2 h2
          have m := must_len h2
          have i := pSyms_grows _ _ _ h
          rw [m.2] at i
          omega
      · split at h
        · split at h
          · cases h
          · split at h
            · cases h
            · cases h
              rename_i z _ _
              have d := mod_len Q.next n fun y => { y with f2 := z }
              rw [d.1, d.2, (next_len Q).1, (next_len Q).2]
              omega
        · split at h
          · cases h
          · rename_i q2 h2
            have m := must_len h2
            have i := pFields_grows HG _ _ _ h
            rw [m.2] at i
            omega
    rw [d.1, d.2, e.1, e.2.1] at key
    omega
theorem pRest_grows {n k : Int} {p q : PS} {u : Unit} (h : pRest T n k p = .ok (u, q)) : q.l.length ≤ p.l.length ∧ p.nodes.length ≤ q.nodes.length := by
  unfold pRest at h
  split at h
  · exact pItem_grows HG h
  split at h
  · exact pItem_grows HG h
  split at h
  · exact pUnion_grows HG _ _ _ h
  split at h
  · exact pDefined_grows HG h
  · cases h; exact ⟨Nat.le_refl _, Nat.le_refl _⟩
end

/-- What 'typed' does behind its tests. -/
def typedRest (D : Nat) (k : Int) (p : PS) : PR Int :=
  if k < 0 then .ok (p.called p.tok.f1, p.next)
  else match D with
    | 0 => p.fail 2
    | d + 1 => match pRest (pTyped d) p.nodes.length k (p.next.begins k) with
      | .error e => .error e
      | .ok (_, q) => .ok (p.nodes.length, q)
theorem pTyped_bad {D : Nat} {union : Bool} {ahead : List Int} {p : PS} {e : Int × Int} (h : p.kind = .error e) : pTyped D union ahead p = .error (e.1, e.2) := by
  cases D <;> (rw [pTyped]; rw [h])
theorem pTyped_ok {D : Nat} {union : Bool} {ahead : List Int} {p : PS} {k : Int} (h : p.kind = .ok k) : pTyped D union ahead p =
      if D = 0 ∨ 0 ≤ k ∧ 200 ≤ p.nodes.length then p.fail 2
      else if k < 0 ∧ p.called p.tok.f1 < 0 then p.fail 5
      else if union = true ∧ k = 8 then p.fail 4
      else if union = true ∧ k < 0 ∧ ahead.contains (p.called p.tok.f1) = true then p.fail 6
      else if union = true ∧ 0 ≤ k ∧ k < 9 ∧ dupKind p.nodes k ahead = true then p.fail 6
      else typedRest D k p := by
  cases D <;> (rw [pTyped]; rw [h]; rfl)
theorem typed_grows : ∀ d, Grows (pTyped d) := by
  intro d
  induction d with
  | zero =>
    intro u a p n q h
    cases hk : p.kind with
    | error e => rw [pTyped_bad hk] at h; cases h
    | ok k =>
      rw [pTyped_ok hk, if_pos (.inl rfl)] at h
      cases h
  | succ d ih =>
    intro u a p n q h
    cases hk : p.kind with
    | error e => rw [pTyped_bad hk] at h; cases h
    | ok k =>
      rw [pTyped_ok hk] at h
      split at h
      · cases h
      split at h
      · cases h
      rename_i h5
      split at h
      · cases h
      split at h
      · cases h
      split at h
      · cases h
      unfold typedRest at h
      split at h
      · rename_i hk0
        cases h
        have := calledFrom_ge p.tok.f1 p.nodes
        have hc : ¬ p.called p.tok.f1 < 0 := fun hc => h5 ⟨hk0, hc⟩
        unfold PS.called at hc ⊢
        rw [(next_len p).1, (next_len p).2]
        omega
      · simp only at h
        split at h
        · cases h
        · rename_i q1 h1
          cases h
          have g := pRest_grows ih h1
          have e1 : (p.next.begins k).l.length = p.l.length - 1 := (next_len p).1
          have e2 : (p.next.begins k).nodes.length = p.nodes.length + 1 := by simp [PS.begins, PS.next]
          rw [e1, e2] at g
          omega
set_option maxRecDepth 100000 in
/-- 'n, is := r.named[s]' as one operation, wherever the reader stands. -/
theorem RS.lookup {b R Mb : Nat} {ok : Nat → Prop} {w : World} {p : PS} (h : RS b ok R Mb w p) (s : ByteArray) (h0 : 0 < s.size) (h1 : s.size ≤ 4096) :
    w.cell? ⟨R, 2, none⟩ = some (.map (some Mb)) ∧ ∃ c : Int, (0 ≤ p.called s → c = p.called s) ∧ ∀ W, Below w.heap.size w W → (Instr.lookup 95 (.map (some Mb)) (.string s) true).run Tryz.prog W = .ok (.tuple #[.int .i64 c, .bool (decide (0 ≤ p.called s))]) W := by
  obtain ⟨m, D, r2, hown, hkey, hhas, hat⟩ := h.look s h0 h1
  have hrun := fun (W : World) (hW : Below w.heap.size w W) => World.ownsMap.look_ok (hown.kept (grown_of_below hW none) (by simp)) (Maps.string_keyed Tryz.underlying9) Tryz.underlying95 (zeroInt _) (plainElem_int Tryz.underlying3 (by decide)) hkey
  obtain ⟨v, ps, _, hv⟩ := hrun w (Below.refl _ _)
  obtain ⟨c, rfl, hz, _⟩ := plainElem_int_inv Tryz.underlying3 hv
  refine ⟨r2, c, fun hc => ?_, fun W hW => ?_⟩
  · have e := congrArg Prod.fst hz
    rw [hat hc] at e
    injection e with e
    injection e with _ e
    exact e.symm
  · obtain ⟨v2, ps2, hlook, hv2⟩ := hrun W hW
    obtain ⟨c2, rfl, hz2, _⟩ := plainElem_int_inv Tryz.underlying3 hv2
    have z1 := congrArg Prod.fst hz
    have z2 := congrArg Prod.fst hz2
    simp only at z1 z2
    rw [z1] at z2
    injection z2 with e
    injection e with _ e
    rw [← hhas, e]
    exact hlook
end Go.Proofs.YtkafikdjhiienaaGreatDoor

/- typed -/
namespace Go.Proofs.YtkafikdjhiienaaGreatDoor
open Go.RowKit Go.Proofs.YtkafikdjhiienaaGreatDoorW.PrintWords

/-- A callee that panics, in the midst of a region: what follows is idle. -/
theorem panic_trick {P : Program} {fn : Nat} {args : Array Value} {W : World} {c : List PanicEntry} {X : World → Prop} {F : Ending → World → Prop} (v0 : Value) (H : Calls P fn args W fun e w' => e = .panicked c ∧ X w') (h1 : ∀ w', X w' → F (.panicked c) w') (_ : Aside0 False → F (.returned v0) W) : Calls P fn args W F :=
  H.mono fun e w' h => by obtain ⟨rfl, hx⟩ := h; exact h1 w' hx

theorem one_new (w : World) (o : Obj) : (w.alloc o).drew.heap[w.heap.size]? = some o := World.alloc_heap_new w o
theorem two_new0' (w : World) (o o1 : Obj) : ((w.alloc o).alloc o1).heap[w.heap.size]? = some o := (((Below.refl (w.alloc o).heap.size (w.alloc o)).alloc (Nat.le_refl _) o1).block w.heap.size (by simp)).trans (World.alloc_heap_new w o)
theorem two_new1' (w : World) (o o1 : Obj) : ((w.alloc o).alloc o1).heap[w.heap.size + 1]? = some o1 := by
  have e : (w.alloc o).heap.size = w.heap.size + 1 := by simp
  rw [← e]
  exact World.alloc_heap_new (w.alloc o) o1
theorem two_new0 (w : World) (o o1 : Obj) : ((w.alloc o).alloc o1).drew.heap[w.heap.size]? = some o := two_new0' w o o1
theorem two_new1 (w : World) (o o1 : Obj) : ((w.alloc o).alloc o1).drew.heap[w.heap.size + 1]? = some o1 := two_new1' w o o1
theorem two_a (w : World) (o o1 : Obj) : ((w.alloc o).alloc o1).heap[w.heap.size + 1]? = some o1 := two_new1' w o o1
theorem two_b (w : World) (o o1 : Obj) : ((w.alloc o).alloc o1).heap[w.heap.size]? = some o := two_new0' w o o1
theorem set_c (w : World) (a a1 a2 : Addr) (u u1 u2 : Value) (o : Obj) : ((((w.setCell a u).setCell a1 u1).setCell a2 u2).alloc o).heap[w.heap.size]? = some o := by
  have e : (((w.setCell a u).setCell a1 u1).setCell a2 u2).heap.size = w.heap.size := by simp [World.setCell]
  rw [← e]
  exact World.alloc_heap_new _ o
theorem set_d {w : World} {k t : Nat} {v : Value} (h : w.heap[k]? = some (.cells #[v] t (0, 0))) (u : Value) (o : Obj) : ((w.setCell ⟨k, 0, none⟩ u).alloc o).heap[k]? = some (.cells #[u] t (0, 0)) := by
  have h1 := blk_set h 0 u
  exact (Below.heap_alloc _ o k (blk_lt h1)).trans h1
theorem set_e {w : World} {k t g t1 : Nat} {v : Value} {cs : Array Value} (h : w.heap[k]? = some (.cells #[v] t (0, 0))) (h1 : w.heap[g]? = some (.cells cs t1 (0, 0))) (ht : t ≠ t1) (u0 u1 u2 u : Value) : ((((w.setCell ⟨g, 0, none⟩ u0).setCell ⟨g, 1, none⟩ u1).setCell ⟨g, 2, none⟩ u2).setCell ⟨k, 0, none⟩ u).heap[k]? = some (.cells #[u] t (0, 0)) := by
  have hne := blk_ne h h1 ht
  exact blk_set (blk_far (p := ⟨g, 2, none⟩) (blk_far (p := ⟨g, 1, none⟩) (blk_far (p := ⟨g, 0, none⟩) h hne u0) hne u1) hne u2) 0 u
theorem lt_ne1 {a b : Nat} (h : a < b) : b + 1 ≠ a := by omega
set_option maxRecDepth 100000 in
set_option maxHeartbeats 30000000 in
theorem typed_calls {b D : Nat} (hD : D ≤ 20) (HT : ∀ d, D = d + 1 → TypedOK b d) : TypedOK b D := by
  intro ok R Mb w p union ahead A c hfr h hC hlc hval
  have hA : Below w.heap.size w (w.alloc (.cells #[.pointer (some ⟨R, 0, none⟩)] 94)) := (Below.refl _ _).alloc (Nat.le_refl _) _
  have hsA := h.fr hA
  have hbx : (w.alloc (.cells #[.pointer (some ⟨R, 0, none⟩)] 94)).heap[w.heap.size]? = some (.cells #[.pointer (some ⟨R, 0, none⟩)] 94 (0, 0)) := World.alloc_heap_new _ _
  have hc0 : (w.alloc (.cells #[.pointer (some ⟨R, 0, none⟩)] 94)).cell? ⟨w.heap.size, 0, none⟩ = some (.pointer (some ⟨R, 0, none⟩)) := (blk_cell hbx 0).trans rfl
  have hszA : (w.alloc (.cells #[.pointer (some ⟨R, 0, none⟩)] 94)).heap.size = w.heap.size + 1 := by simp
  obtain ⟨g, off, ln, cc, xx, yy, d0, dc, d1, d2, d3, d4, d5, dsz, _, dR, dg⟩ := hsA.tok
  replace hA := Aside0.mk hA
  replace hsA := Aside0.mk hsA
  have hbxA := Aside0.mk hbx
  replace hszA := Aside0.mk hszA
  replace hfr := Aside0.mk hfr
  replace HT := Aside0.mk HT
  replace hC := Aside0.mk hC
  replace hval := Aside0.mk hval
  clear h hbx
  cases hk : p.kind with
  | error e =>
    have HK : Aside0 (∀ W, Below (w.heap.size + 1) (w.alloc (.cells #[.pointer (some ⟨R, 0, none⟩)] 94)) W → Calls Tryz.prog 79 #[.pointer (some ⟨R, 0, none⟩)] W fun e' w' => e' = .panicked (stopE e.1 e.2) ∧ Below (w.heap.size + 1) (w.alloc (.cells #[.pointer (some ⟨R, 0, none⟩)] 94)) w') := ⟨fun W hW => by
      have := kind_calls (hsA.out.fr (by rw [hszA.out]; exact hW))
      rw [hk] at this
      exact this.mono fun e' w' ⟨h1, h2⟩ => ⟨h1, hW.trans (h2.mono (by have := hW.size; rw [hszA.out] at this; exact this))⟩⟩
    rw [pTyped_bad hk]
    clear hk
    go_enter Tryz.func59, Tryz.ntmps59
    go_wp2_with (fail)
    generalize w.alloc (.cells #[.pointer (some ⟨R, 0, none⟩)] 94) = wA at *
    refine Code.wp_mono (Q := fun ex a w2 => ex = .panic (stopE e.1 e.2) ∧ a.defers = [] ∧ Below (w.heap.size + 1) wA w2) ?mid ?reg
    case reg =>
      go_region_held_law (fun w' => w'.cell? ⟨w.heap.size, 0, none⟩ = some (.pointer (some ⟨R, 0, none⟩)) ∧ w'.cell? ⟨R, 0, none⟩ = some (.slice (some ⟨g, off, none⟩) (ln + 1) cc) ∧ w'.cell? ⟨g, off, none⟩ = some (.int .i64 p.tok.f0) ∧ w'.cell? ⟨g, off + 1, none⟩ = some (.string p.tok.f1) ∧ w'.cell? ⟨g, off + 2, none⟩ = some (.int .i64 p.tok.f2)) (go_keep) (first
        | (go_at_call 79; refine panic_trick (.int .i64 0) (HK.out _ ?hb) ?h1 ?_; (case hb => have := hszA.out; first | exact (Below.refl _ _).drew | exact ((Below.refl _ _).alloc (by omega) _).drew | exact (((Below.refl _ _).alloc (by omega) _).alloc (by simp; omega) _).drew); (case h1 => exact fun w2 hb2 => ⟨rfl, hb2⟩); intro hFalse; dsimp only))
      all_goals exact hFalse.out.elim
    case mid =>
      rintro _ ⟨tm, df⟩ w2 ⟨rfl, rfl, hb2⟩
      go_wp2
      exact ⟨rfl, rfl, Fr.of_below (hA.out.trans (hb2.mono (by simp)))⟩
  | ok k =>
    obtain ⟨kt, k3, k1, k11⟩ := kind_ok hk
    have HK : Aside0 (∀ W, Below (w.heap.size + 1) (w.alloc (.cells #[.pointer (some ⟨R, 0, none⟩)] 94)) W → Calls Tryz.prog 79 #[.pointer (some ⟨R, 0, none⟩)] W fun e' w' => e' = .returned (.int .i64 k) ∧ Below (w.heap.size + 1) (w.alloc (.cells #[.pointer (some ⟨R, 0, none⟩)] 94)) w' ∧ Below W.heap.size W w') := ⟨fun W hW => by
      have := kind_calls (hsA.out.fr (by rw [hszA.out]; exact hW))
      rw [hk] at this
      exact this.mono fun e' w' ⟨h1, h2⟩ => ⟨h1, hW.trans (h2.mono (by have := hW.size; rw [hszA.out] at this; exact this)), h2⟩⟩
    have KS : Aside0 (∀ w', Below (w.heap.size + 1) (w.alloc (.cells #[.pointer (some ⟨R, 0, none⟩)] 94)) w' → w'.cell? ⟨w.heap.size, 0, none⟩ = some (.pointer (some ⟨R, 0, none⟩)) ∧ w'.cell? ⟨R, 0, none⟩ = some (.slice (some ⟨g, off, none⟩) (ln + 1) cc) ∧ w'.cell? ⟨g, off, none⟩ = some (.int .i64 p.tok.f0) ∧ w'.cell? ⟨g, off + 1, none⟩ = some (.string p.tok.f1) ∧ w'.cell? ⟨g, off + 2, none⟩ = some (.int .i64 p.tok.f2)) := ⟨fun w' hw => by
      have := hszA.out
      exact ⟨(hw.cell (p := ⟨w.heap.size, 0, none⟩) (by simp)).trans hc0, (hw.cell (p := ⟨R, 0, none⟩) (by simp at dR ⊢; omega)).trans d0, (hw.cell (p := ⟨g, off, none⟩) (by simp at dg ⊢; omega)).trans d1, (hw.cell (p := ⟨g, off + 1, none⟩) (by simp at dg ⊢; omega)).trans d2, (hw.cell (p := ⟨g, off + 2, none⟩) (by simp at dg ⊢; omega)).trans d3⟩⟩
    rw [pTyped_ok hk]
    generalize hspec : (if D = 0 ∨ 0 ≤ k ∧ 200 ≤ p.nodes.length then p.fail 2
      else if k < 0 ∧ p.called p.tok.f1 < 0 then p.fail 5
      else if union = true ∧ k = 8 then p.fail 4
      else if union = true ∧ k < 0 ∧ ahead.contains (p.called p.tok.f1) = true then p.fail 6
      else if union = true ∧ 0 ≤ k ∧ k < 9 ∧ dupKind p.nodes k ahead = true then p.fail 6
      else typedRest D k p : PR Int) = spec
    replace hspec := Aside0.mk hspec
    clear hk
    go_enter Tryz.func59, Tryz.ntmps59
    go_wp2_with (fail)
    generalize w.alloc (.cells #[.pointer (some ⟨R, 0, none⟩)] 94) = wA at *
    have n0 := World.new_ne wA _ hc0
    have n1 := World.new_ne wA _ d0
    have n2 := World.new_ne wA _ d1
    have n3 : wA.heap.size + 1 ≠ w.heap.size := by have := hszA.out; omega
    have n4 : wA.heap.size + 1 ≠ R := by omega
    have n5 : wA.heap.size + 1 ≠ g := by omega
    go_cut [9, 10] from 13 to 20 (fun s9 s10 wx => ∃ tB kB : Nat, s9 = .pointer (some ⟨tB, 0, none⟩) ∧ s10 = .pointer (some ⟨kB, 0, none⟩) ∧ wx.cell? ⟨tB, 1, none⟩ = some (.string p.tok.f1) ∧ Aside0 (wx.heap[kB]? = some (.cells #[.int .i64 k] 3 (0, 0))) ∧ Aside0 (Below (w.heap.size + 1) wA wx))
    case first =>
      go_region_held_law (fun w' => w'.cell? ⟨w.heap.size, 0, none⟩ = some (.pointer (some ⟨R, 0, none⟩)) ∧ w'.cell? ⟨R, 0, none⟩ = some (.slice (some ⟨g, off, none⟩) (ln + 1) cc) ∧ w'.cell? ⟨g, off, none⟩ = some (.int .i64 p.tok.f0) ∧ w'.cell? ⟨g, off + 1, none⟩ = some (.string p.tok.f1) ∧ w'.cell? ⟨g, off + 2, none⟩ = some (.int .i64 p.tok.f2)) (go_keep) (first
        | (go_at_call 79; refine (HK.out _ ?hb).mono ?_; (case hb => have := hszA.out; first | exact (Below.refl _ _).drew | exact ((Below.refl _ _).alloc (by omega) _).drew | exact (((Below.refl _ _).alloc (by omega) _).alloc (by simp; omega) _).drew); rintro _ w2 ⟨rfl, hb2, hbW⟩; obtain ⟨q0, q1, q2, q3, q4⟩ := KS.out _ hb2; have n6 := World.new_ne w2 _ q0; have n7 := World.new_ne w2 _ q1; have n8 := World.new_ne w2 _ q2; have n9 : w2.heap.size + 1 ≠ w.heap.size := (lt_ne1 (World.block_lt_of_cell? w2 _ q0)); have na : w2.heap.size + 1 ≠ R := (lt_ne1 (World.block_lt_of_cell? w2 _ q1)); have nb : w2.heap.size + 1 ≠ g := (lt_ne1 (World.block_lt_of_cell? w2 _ q2)); (first | (have kb0 := (hbW.block wA.heap.size (by simp <;> omega)).trans (two_new0 wA _ _); have kb1 := (hbW.block (wA.heap.size + 1) (by simp <;> omega)).trans (two_new1 wA _ _); have z0 := (blk_cell kb0 0).trans rfl; have z1 := (blk_cell kb0 1).trans rfl; have z2 := (blk_cell kb0 2).trans rfl; have y0 := blk_frozen kb0 0; have y1 := blk_frozen kb0 1; have y2 := blk_frozen kb0 2; have s0 := blk_lt kb0; have z3 := (blk_cell kb1 0).trans rfl; have z4 := (blk_cell kb1 1).trans rfl; have z5 := (blk_cell kb1 2).trans rfl; have y3 := blk_frozen kb1 0; have y4 := blk_frozen kb1 1; have y5 := blk_frozen kb1 2; have s1 := blk_lt kb1; replace kb0 := Aside0.mk kb0; replace kb1 := Aside0.mk kb1) | (have kb0 := (hbW.block wA.heap.size (by simp <;> omega)).trans (one_new wA _); have z0 := (blk_cell kb0 0).trans rfl; have z1 := (blk_cell kb0 1).trans rfl; have z2 := (blk_cell kb0 2).trans rfl; have y0 := blk_frozen kb0 0; have y1 := blk_frozen kb0 1; have y2 := blk_frozen kb0 2; have s0 := blk_lt kb0; replace kb0 := Aside0.mk kb0) | skip); clear hbW))
      all_goals (go_wp2_with fail; go_meet)
      all_goals (refine ⟨_, _, rfl, rfl, by go_simp, ⟨by first | with_reducible exact two_new1' _ _ _ | with_reducible exact two_new0' _ _ _ | with_reducible exact set_c _ _ _ _ _ _ _ _ | with_reducible exact set_d kb0.out _ _ | with_reducible exact set_d kb1.out _ _ | with_reducible exact set_e kb0.out kb1.out (by decide) _ _ _ _ | with_reducible exact set_e kb1.out kb0.out (by decide) _ _ _ _⟩, ⟨?_⟩⟩)
      all_goals (have hw2 := hb2.size; have hwA := hszA.out)
      all_goals (repeat' first | exact hb2 | (refine Below.alloc ?_ (by first | omega | (simp <;> omega)) _) | (refine Below.setCell ?_ (by first | omega | (simp <;> omega)) _))
    case rest =>
      obtain ⟨tB, kB, rfl, rfl, t1, kcb, hb1⟩ := hcut
      have kc : wc.cell? ⟨kB, 0, none⟩ = some (.int .i64 k) := (blk_cell kcb.out 0).trans rfl
      obtain ⟨q0, q1, q2, q3, q4⟩ := KS.out _ hb1.out
      have hs1 : RS b ok R Mb wc p := hsA.out.fr (by rw [hszA.out]; exact hb1.out)
      have hfA : Aside0 (Fr b R Mb w wc) := ⟨(Fr.of_below hA.out).trans (Fr.of_below (by rw [hszA.out]; exact hb1.out))⟩
      have hCc : Aside0 ((Kd.int .i64).C wc A ahead.length ahead) := ⟨Kd.C_below (Kd.C_below hC.out hA.out) (by rw [hszA.out]; exact hb1.out)⟩
      obtain ⟨r2, nV, hnV, hlook0⟩ := RS.lookup hs1 p.tok.f1 kt dsz
      have hlook := fun n => hlook0 (wc.drewN n) (drawnN_below wc n)
      replace hlook0 := Aside0.mk hlook0
      replace hs1 := Aside0.mk hs1
      replace hnV := Aside0.mk hnV
      clear hc0 d0 d1 d2 d3 d4 d5 dR dg n0 n1 n2 n3 n4 n5 q2 q3 q4
      go_wp2_with (fail)
      go_quiet (fail)
      have hBD := drawnN_below wc nq
      have hs2 : RS b ok R Mb (wc.drewN nq) p := hs1.out.fr hBD
      have hf2 : Aside0 (Fr b R Mb w (wc.drewN nq)) := ⟨hfA.out.trans (Fr.of_below hBD)⟩
      have hC2 : Aside0 ((Kd.int .i64).C (wc.drewN nq) A ahead.length ahead) := ⟨Kd.C_below hCc.out hBD⟩
      have e0 := (hBD.cell (World.block_lt_of_cell? wc _ q0)).trans q0
      have ek := (hBD.cell (World.block_lt_of_cell? wc _ kc)).trans kc
      have hkb : Aside0 ((wc.drewN nq).heap[kB]? = some (.cells #[.int .i64 k] 3 (0, 0))) := ⟨(hBD.block _ (blk_lt kcb.out)).trans kcb.out⟩
      have hrb : Aside0 ((wc.drewN nq).heap[w.heap.size]? = some (.cells #[.pointer (some ⟨R, 0, none⟩)] 94 (0, 0))) := ⟨(hBD.block _ (by have := hb1.out.size; have := hszA.out; omega)).trans ((hb1.out.block _ (by omega)).trans hbxA.out)⟩
      clear kcb
      replace hBD := Aside0.mk hBD
      clear hs1 hfA hCc q0 q1 t1 kc r2 hlook hlook0 hb1 KS HK hbxA hA hsA hszA
      generalize wc.drewN nq = wd at hBD hkb hrb hs2 hf2 hC2 e0 ek ⊢
      obtain ⟨g, off, ln, cc, xx, yy, d0, dc, d1, d2, d3, d4, d5, _, hL, dR, dg⟩ := hs2.tok
      obtain ⟨nA, nC, r1, hnl⟩ : ∃ nA nC, wd.cell? ⟨R, 1, none⟩ = some (.slice nA p.nodes.length nC) ∧ p.nodes.length ≤ 200 := by
        obtain ⟨_, _, _, nv, _, _, hx⟩ := hs2
        obtain ⟨nA, nC, rfl⟩ := Kd.R_slice hx.nodes
        exact ⟨nA, nC, (blk_cell hx.blk 1).trans rfl, hx.nlen⟩
      have hRk : R ≠ kB := by obtain ⟨_, _, _, _, _, _, hx⟩ := hs2; exact blk_ne hx.blk hkb.out (by decide)
      have hRr : R ≠ w.heap.size := by obtain ⟨_, _, _, _, _, _, hx⟩ := hs2; exact blk_ne hx.blk hrb.out (by decide)
      clear d4
      replace hL := Aside0.mk hL
      replace hs2 := Aside0.mk hs2
      generalize hdp : (20 : Int) - D = deep
      have HF : Aside0 (∀ (W : World) (y : Int), Below wd.heap.size wd W → Calls Tryz.prog 60 #[.pointer (some ⟨R, 0, none⟩), .int .i64 y] W fun e w' => e = .panicked (stopE p.tok.f2 y) ∧ Drawn0 W w') := ⟨fun W y hW => fail_at hs2.out W y hW⟩
      by_cases c1 : D = 0
      · have hb : decide ((20 : Int) ≤ deep) = true := by simp; omega
        have E : Aside0 (spec = .error (p.tok.f2, 2)) := ⟨by rw [← hspec.out, if_pos (.inl c1)]; rfl⟩
        clear c1 hdp
        go_wp2_with (go_at_call 60; refine (HF.out _ _ (Below.refl _ _)).mono ?_; rintro _ w4 ⟨rfl, hd4⟩)
        exact ⟨rfl, Post.bad E.out (hf2.out.trans (Fr.of_drawn hd4))⟩
      have hb : decide ((20 : Int) ≤ deep) = false := by simp; omega
      obtain ⟨d, hDd⟩ : ∃ d, D = d + 1 := ⟨D - 1, by omega⟩
      have hdd : Aside0 (0 ≤ deep ∧ deep ≤ 19 ∧ (20 : Int) - d = deep + 1) := ⟨by omega⟩
      have hTd := Aside0.mk (HT.out d hDd)
      replace hDd := Aside0.mk hDd
      replace c1 := Aside0.mk c1
      clear hdp hD
      by_cases ck : 0 ≤ k
      · have t0 : decide ((0 : Int) ≤ k) = true := by simp [ck]
        have t1 : decide (k < (0 : Int)) = false := by simp; omega
        by_cases c2 : 200 ≤ p.nodes.length
        · have t2 : decide ((200 : Int) ≤ (p.nodes.length : Int)) = true := by simp; omega
          have E : Aside0 (spec = .error (p.tok.f2, 2)) := ⟨by rw [← hspec.out, if_pos (.inr ⟨ck, c2⟩)]; rfl⟩
          clear ck c2 hnl k1 k11
          go_wp2_with (go_at_call 60; refine (HF.out _ _ (Below.refl _ _)).mono ?_; rintro _ w4 ⟨rfl, hd4⟩)
          exact ⟨rfl, Post.bad E.out (hf2.out.trans (Fr.of_drawn hd4))⟩
        · have t2 : decide ((200 : Int) ≤ (p.nodes.length : Int)) = false := by simp; omega
          have hsp1 : Aside0 ((if union = true ∧ k = 8 then p.fail 4
              else if union = true ∧ 0 ≤ k ∧ k < 9 ∧ dupKind p.nodes k ahead = true then p.fail 6
              else typedRest D k p : PR Int) = spec) := ⟨by
            have a1 : ¬ (D = 0 ∨ 0 ≤ k ∧ 200 ≤ p.nodes.length) := fun h => h.elim c1.out (fun h => c2 h.2)
            have a2 : ¬ (k < 0 ∧ p.called p.tok.f1 < 0) := fun h => by omega
            have a3 : ¬ (union = true ∧ k < 0 ∧ ahead.contains (p.called p.tok.f1) = true) := fun h => by omega
            rw [← hspec.out]
            simp only [if_neg a1, if_neg a2, if_neg a3]⟩
          have hn200 : Aside0 (p.nodes.length < 200) := ⟨by omega⟩
          clear c2 hnl d0 d1 d2 d3 d5 dc hspec
          have E5 : Aside0 (∀ (_ : spec = typedRest D k p) (r : PR Unit), pRest (pTyped d) p.nodes.length k (p.next.begins k) = r → spec = (match r with | .error e => .error e | .ok (_, q) => .ok ((p.nodes.length : Int), q))) := ⟨fun h r hr => by
            rw [h]
            unfold typedRest
            rw [if_neg (by omega)]
            have := hDd.out
            subst this
            simp only
            rw [hr]
            all_goals (cases r <;> rfl)⟩
          cases union with
          | false =>
            have E4 : Aside0 (∀ (r : PR Unit), pRest (pTyped d) p.nodes.length k (p.next.begins k) = r → spec = (match r with | .error e => .error e | .ok (_, q) => .ok ((p.nodes.length : Int), q))) := ⟨E5.out (by rw [← hsp1.out]; simp)⟩
            clear E5 hsp1
            go_wp2_with (fail)
            have hD4 : Below wd.heap.size wd wd.drew := (Below.refl _ _).drew
            obtain ⟨g, off, ln, cc, xx, yy, d0, df, dc1, dc, dl, d1, d2, d3, d4, d5, hs4⟩ := (hs2.out.fr hD4).step k3
            have e0D : wd.drew.cell? ⟨w.heap.size, 0, none⟩ = some (.pointer (some ⟨R, 0, none⟩)) := (blk_cell (hrb.out : wd.drew.heap[w.heap.size]? = _) 0).trans rfl
            have hkb4 := Aside0.mk (blk_far (w := wd.drew) (p := ⟨R, 0, none⟩) (hkb.out : wd.drew.heap[kB]? = _) hRk.symm (.slice (some ⟨g, off + 3, none⟩) ln (cc - 1)))
            have hrb4 := Aside0.mk (blk_far (w := wd.drew) (p := ⟨R, 0, none⟩) (hrb.out : wd.drew.heap[w.heap.size]? = _) hRr.symm (.slice (some ⟨g, off + 3, none⟩) ln (cc - 1)))
            replace hs4 := Aside0.mk hs4
            have hf4 := Aside0.mk ((hf2.out.trans (Fr.of_below hD4)).setR 0 (.slice (some ⟨g, off + 3, none⟩) ln (cc - 1)))
            clear hD4
            go_cut [] from 95 to 102 (fun wx => wx = (wd.setCell ⟨R, 0, none⟩ (.slice (some ⟨g, off + 3, none⟩) ln (cc - 1))).drew)
            case first =>
              go_region
              all_goals (go_wp2_with (fail); go_meet)
              all_goals rfl
            case rest =>
              subst hcut
              rw [show wd.drew.setCell ⟨R, 0, none⟩ (.slice (some ⟨g, off + 3, none⟩) ln (cc - 1)) = (wd.setCell ⟨R, 0, none⟩ (.slice (some ⟨g, off + 3, none⟩) ln (cc - 1))).drew from rfl] at hkb4 hrb4 hs4 hf4
              generalize (wd.setCell ⟨R, 0, none⟩ (.slice (some ⟨g, off + 3, none⟩) ln (cc - 1))).drew = W4 at hkb4 hrb4 hs4 hf4 ⊢
              clear d0 d1 d2 d3 d4 d5 df e0D ek e0
              have ek4 := (blk_cell hkb4.out 0).trans rfl
              have er4 := (blk_cell hrb4.out 0).trans rfl
              have HB := Aside0.mk (begins_calls hs4.out (fun i hi => hfr.out i (Nat.le_trans hf4.out.size hi)) k hn200.out)
              go_wp2_with (fail)
              refine HB.out.mono ?_
              rintro _ w5 ⟨rfl, hs5, hf5⟩
              have hkb5 := hf5.cell hs4.out hkb4.out (by decide)
              have hrb5 := hf5.cell hs4.out hrb4.out (by decide)
              have ek5 := (blk_cell hkb5 0).trans rfl
              have er5 := (blk_cell hrb5 0).trans rfl
              have hf05 := Aside0.mk (hf4.out.trans hf5)
              have hlb : p.nodes.length < (p.next.begins k).nodes.length := by simp [PS.begins, PS.next]
              have hfr5 : ∀ i, w5.heap.size ≤ i → ok i := fun i hi => hfr.out i (Nat.le_trans hf05.out.size hi)
              have hnew : (p.next.begins k).nodes[p.nodes.length]? = some (newNod k) := by simp [PS.begins, PS.next, newNod]
              clear hkb5 hrb5 ek4 er4 HB hf5 t0 t1 t2
              by_cases k6 : k = 6
              · subst k6
                have HI := item_calls hTd.out (typed_grows d) hfr5 hs5 p.nodes.length hlb deep hdd.out.1 hdd.out.2.1 hdd.out.2.2 sBc
                have E := fun r (h : pItem (pTyped d) p.nodes.length sBc (p.next.begins 6) = r) => E4.out r h
                cases hres : pItem (pTyped d) p.nodes.length sBc (p.next.begins 6) with
                | error e =>
                  rw [hres] at HI
                  have E1 : Aside0 (spec = .error (e.1, e.2)) := ⟨E _ hres⟩
                  replace HI := Aside0.mk HI
                  clear hres E hs5 hfr5 hnew hlb
                  go_wp2_with (go_at_call 84; refine HI.out.mono ?_; rintro _ w6 ⟨rfl, hf6⟩)
                  exact ⟨rfl, Post.bad E1.out (hf05.out.trans hf6)⟩
                | ok r =>
                  obtain ⟨u, q⟩ := r
                  rw [hres] at HI
                  have E1 : Aside0 (spec = .ok ((p.nodes.length : Int), q)) := ⟨E _ hres⟩
                  replace HI := Aside0.mk HI
                  clear hres E hs5 hfr5 hnew hlb
                  go_wp2_with (go_at_call 84; refine HI.out.mono ?_; rintro _ w6 ⟨rfl, hs6, hf6⟩; replace hs6 := Aside0.mk hs6)
                  go_ret
                  exact Post.good E1.out hs6.out (hf05.out.trans hf6)
              by_cases k7 : k = 7
              · subst k7
                have HI := item_calls hTd.out (typed_grows d) hfr5 hs5 p.nodes.length hlb deep hdd.out.1 hdd.out.2.1 hdd.out.2.2 sCc
                have E := fun r (h : pItem (pTyped d) p.nodes.length sCc (p.next.begins 7) = r) => E4.out r h
                cases hres : pItem (pTyped d) p.nodes.length sCc (p.next.begins 7) with
                | error e =>
                  rw [hres] at HI
                  have E1 : Aside0 (spec = .error (e.1, e.2)) := ⟨E _ hres⟩
                  replace HI := Aside0.mk HI
                  clear hres E hs5 hfr5 hnew hlb
                  go_wp2_with (go_at_call 84; refine HI.out.mono ?_; rintro _ w6 ⟨rfl, hf6⟩)
                  exact ⟨rfl, Post.bad E1.out (hf05.out.trans hf6)⟩
                | ok r =>
                  obtain ⟨u, q⟩ := r
                  rw [hres] at HI
                  have E1 : Aside0 (spec = .ok ((p.nodes.length : Int), q)) := ⟨E _ hres⟩
                  replace HI := Aside0.mk HI
                  clear hres E hs5 hfr5 hnew hlb
                  go_wp2_with (go_at_call 84; refine HI.out.mono ?_; rintro _ w6 ⟨rfl, hs6, hf6⟩; replace hs6 := Aside0.mk hs6)
                  go_ret
                  exact Post.good E1.out hs6.out (hf05.out.trans hf6)
              by_cases k8 : k = 8
              · subst k8
                have HI := union_calls hTd.out (typed_grows d) hfr5 hs5 p.nodes.length hlb deep hdd.out.1 hdd.out.2.1 hdd.out.2.2 (p.next.begins 8).l.length (Nat.le_refl _) (by obtain ⟨_, _, _, _, _, _, hx⟩ := hs5; exact hx.good.2.2)
                have E := fun r (h : pUnion (pTyped d) p.nodes.length (p.next.begins 8).l.length [] (p.next.begins 8) = r) => E4.out r h
                cases hres : pUnion (pTyped d) p.nodes.length (p.next.begins 8).l.length [] (p.next.begins 8) with
                | error e =>
                  rw [hres] at HI
                  have E1 : Aside0 (spec = .error (e.1, e.2)) := ⟨E _ hres⟩
                  replace HI := Aside0.mk HI
                  clear hres E hs5 hfr5 hnew hlb
                  go_wp2_with (go_at_call 85; refine HI.out.mono ?_; rintro _ w6 ⟨rfl, hf6⟩)
                  exact ⟨rfl, Post.bad E1.out (hf05.out.trans hf6)⟩
                | ok r =>
                  obtain ⟨u, q⟩ := r
                  rw [hres] at HI
                  have E1 : Aside0 (spec = .ok ((p.nodes.length : Int), q)) := ⟨E _ hres⟩
                  replace HI := Aside0.mk HI
                  clear hres E hs5 hfr5 hnew hlb
                  go_wp2_with (go_at_call 85; refine HI.out.mono ?_; rintro _ w6 ⟨rfl, hs6, hf6⟩; replace hs6 := Aside0.mk hs6)
                  go_ret
                  exact Post.good E1.out hs6.out (hf05.out.trans hf6)
              by_cases k9 : 9 ≤ k
              · have HI := defined_calls hTd.out (typed_grows d) hfr5 hs5 p.nodes.length k (by omega) hnew deep hdd.out.1 hdd.out.2.1 hdd.out.2.2
                have E := fun r (h : pDefined (pTyped d) p.nodes.length k (p.next.begins k) = r) => E4.out r (by unfold pRest; rw [if_neg k6, if_neg k7, if_neg k8, if_pos k9]; exact h)
                have hkk : k = 9 ∨ k = 10 ∨ k = 11 := by omega
                clear k6 k7 k8 k9 ck k1 k11
                cases hres : pDefined (pTyped d) p.nodes.length k (p.next.begins k) with
                | error e =>
                  rw [hres] at HI
                  have E1 : Aside0 (spec = .error (e.1, e.2)) := ⟨E _ hres⟩
                  replace HI := Aside0.mk HI
                  clear hres E hs5 hfr5 hnew hlb
                  rcases hkk with rfl | rfl | rfl
                  all_goals (go_wp2_with (go_at_call 86; refine HI.out.mono ?_; rintro _ w6 ⟨rfl, hf6⟩))
                  all_goals exact ⟨rfl, Post.bad E1.out (hf05.out.trans hf6)⟩
                | ok r =>
                  obtain ⟨u, q⟩ := r
                  rw [hres] at HI
                  have E1 : Aside0 (spec = .ok ((p.nodes.length : Int), q)) := ⟨E _ hres⟩
                  replace HI := Aside0.mk HI
                  clear hres E hs5 hfr5 hnew hlb
                  rcases hkk with rfl | rfl | rfl
                  all_goals (go_wp2_with (go_at_call 86; refine HI.out.mono ?_; rintro _ w6 ⟨rfl, hs6, hf6⟩; replace hs6 := Aside0.mk hs6))
                  all_goals go_ret
                  all_goals exact Post.good E1.out hs6.out (hf05.out.trans hf6)
              · have E1 : Aside0 (spec = .ok ((p.nodes.length : Int), p.next.begins k)) := ⟨E4.out (.ok ((), p.next.begins k)) (by unfold pRest; rw [if_neg k6, if_neg k7, if_neg k8, if_neg k9])⟩
                have b6 : (k == 6) = false := by simp [k6]
                have b7 : (k == 7) = false := by simp [k7]
                have b8 : (k == 8) = false := by simp [k8]
                have b9 : (k == 9) = false := by simp; omega
                have b10 : (k == 10) = false := by simp; omega
                have b11 : (k == 11) = false := by simp; omega
                replace hs5 := Aside0.mk hs5
                clear k6 k7 k8 k9 hfr5 hnew hlb
                go_wp2_with (fail)
                go_ret
                exact Post.good E1.out hs5.out hf05.out
          | true =>
            by_cases k8 : k = 8
            · have E : Aside0 (spec = .error (p.tok.f2, 4)) := ⟨by rw [← hsp1.out, if_pos ⟨rfl, k8⟩]; rfl⟩
              have b8 : (k == 8) = true := by simp [k8]
              clear ck k8 k1 k11 E5
              go_wp2_with (go_at_call 60; refine (HF.out _ _ (Below.refl _ _)).mono ?_; rintro _ w4 ⟨rfl, hd4⟩)
              exact ⟨rfl, Post.bad E.out (hf2.out.trans (Fr.of_drawn hd4))⟩
            have b8 : (k == 8) = false := by simp [k8]
            by_cases k9 : k < 9
            · have b9 : decide (k < (9 : Int)) = true := by simp [k9]
              have hmf : ∀ (fn : Fn) (first cap : Array Value) (w : World), (Instr.makeFunc fn first cap).run Tryz.prog w = .ok (.func fn first cap) w := fun _ _ _ _ => rfl
              have HCF := Aside0.mk (contFunc_int 82 #[.pointer (some ⟨w.heap.size, 0, none⟩), .pointer (some ⟨kB, 0, none⟩)] (fun m => decide ((p.nodes.getD m.toNat PPolicyHolds.z110).f0 = k)) ahead A c wd hC2.out (fun _ _ => by go_simp)
                (fun W x hW hx => typed1_calls (hs2.out.fr hW) w.heap.size kB k x ((hW.cell (p := ⟨w.heap.size, 0, none⟩) (blk_lt hrb.out)).trans e0) ((hW.cell (p := ⟨kB, 0, none⟩) (blk_lt hkb.out)).trans ek) (hval.out x hx).1 (hval.out x hx).2))
              cases hdu : ahead.any (fun m => decide ((p.nodes.getD m.toNat PPolicyHolds.z110).f0 = k)) with
              | true =>
                have E : Aside0 (spec = .error (p.tok.f2, 6)) := ⟨by rw [← hsp1.out, if_neg (fun h => k8 h.2), if_pos ⟨rfl, ck, k9, hdu⟩]; rfl⟩
                rw [hdu] at HCF
                clear hdu ck k8 k9 k1 k11 E5
                go_wp2_with (first | (go_at_call 81; refine HCF.out.mono ?_; rintro _ w3 ⟨rfl, hb3⟩; have er3 := (blk_cell ((hb3.block _ (blk_lt hrb.out)).trans hrb.out) 0).trans rfl; replace hb3 := Aside0.mk hb3) | (go_at_call 60; refine (HF.out _ _ hb3.out).mono ?_; rintro _ w4 ⟨rfl, hd4⟩))
                exact ⟨rfl, Post.bad E.out ((hf2.out.trans (Fr.of_below hb3.out)).trans (Fr.of_drawn hd4))⟩
              | false =>
                have E4 : Aside0 (∀ (r : PR Unit), pRest (pTyped d) p.nodes.length k (p.next.begins k) = r → spec = (match r with | .error e => .error e | .ok (_, q) => .ok ((p.nodes.length : Int), q))) := ⟨E5.out (by rw [← hsp1.out, if_neg (fun h => k8 h.2), if_neg (fun h => by have := h.2.2.2; rw [show dupKind p.nodes k ahead = false from hdu] at this; cases this)])⟩
                rw [hdu] at HCF
                clear hdu E5 hsp1 k8 k9
                go_wp2_with (go_at_call 81; refine HCF.out.mono ?_; rintro _ w3 ⟨rfl, hb3⟩; have er3 := (blk_cell ((hb3.block _ (blk_lt hrb.out)).trans hrb.out) 0).trans rfl; have ek3 := (blk_cell ((hb3.block _ (blk_lt hkb.out)).trans hkb.out) 0).trans rfl; replace hb3 := Aside0.mk hb3)
                have hs3 := Aside0.mk (hs2.out.fr hb3.out)
                have hf3 := Aside0.mk (hf2.out.trans (Fr.of_below hb3.out))
                have hkb3 := Aside0.mk ((hb3.out.block _ (blk_lt hkb.out)).trans hkb.out)
                have hrb3 := Aside0.mk ((hb3.out.block _ (blk_lt hrb.out)).trans hrb.out)
                clear HCF b8 b9 hmf r1
                have hD4 : Below w3.heap.size w3 w3.drew := (Below.refl _ _).drew
                obtain ⟨g, off, ln, cc, xx, yy, d0, df, dc1, dc, dl, d1, d2, d3, d4, d5, hs4⟩ := (hs3.out.fr hD4).step k3
                have e0D : w3.drew.cell? ⟨w.heap.size, 0, none⟩ = some (.pointer (some ⟨R, 0, none⟩)) := (blk_cell (hrb3.out : w3.drew.heap[w.heap.size]? = _) 0).trans rfl
                have hkb4 := Aside0.mk (blk_far (w := w3.drew) (p := ⟨R, 0, none⟩) (hkb3.out : w3.drew.heap[kB]? = _) hRk.symm (.slice (some ⟨g, off + 3, none⟩) ln (cc - 1)))
                have hrb4 := Aside0.mk (blk_far (w := w3.drew) (p := ⟨R, 0, none⟩) (hrb3.out : w3.drew.heap[w.heap.size]? = _) hRr.symm (.slice (some ⟨g, off + 3, none⟩) ln (cc - 1)))
                replace hs4 := Aside0.mk hs4
                have hf4 := Aside0.mk ((hf3.out.trans (Fr.of_below hD4)).setR 0 (.slice (some ⟨g, off + 3, none⟩) ln (cc - 1)))
                clear hD4
                go_cut [] from 95 to 102 (fun wx => wx = (w3.setCell ⟨R, 0, none⟩ (.slice (some ⟨g, off + 3, none⟩) ln (cc - 1))).drew)
                case first =>
                  go_region
                  all_goals (go_wp2_with (fail); go_meet)
                  all_goals rfl
                case rest =>
                  subst hcut
                  rw [show w3.drew.setCell ⟨R, 0, none⟩ (.slice (some ⟨g, off + 3, none⟩) ln (cc - 1)) = (w3.setCell ⟨R, 0, none⟩ (.slice (some ⟨g, off + 3, none⟩) ln (cc - 1))).drew from rfl] at hkb4 hrb4 hs4 hf4
                  generalize (w3.setCell ⟨R, 0, none⟩ (.slice (some ⟨g, off + 3, none⟩) ln (cc - 1))).drew = W4 at hkb4 hrb4 hs4 hf4 ⊢
                  clear d0 d1 d2 d3 d4 d5 df e0D ek e0 ek3 er3
                  have ek4 := (blk_cell hkb4.out 0).trans rfl
                  have er4 := (blk_cell hrb4.out 0).trans rfl
                  have HB := Aside0.mk (begins_calls hs4.out (fun i hi => hfr.out i (Nat.le_trans hf4.out.size hi)) k hn200.out)
                  go_wp2_with (fail)
                  refine HB.out.mono ?_
                  rintro _ w5 ⟨rfl, hs5, hf5⟩
                  have hkb5 := hf5.cell hs4.out hkb4.out (by decide)
                  have hrb5 := hf5.cell hs4.out hrb4.out (by decide)
                  have ek5 := (blk_cell hkb5 0).trans rfl
                  have er5 := (blk_cell hrb5 0).trans rfl
                  have hf05 := Aside0.mk (hf4.out.trans hf5)
                  have hlb : p.nodes.length < (p.next.begins k).nodes.length := by simp [PS.begins, PS.next]
                  have hfr5 : ∀ i, w5.heap.size ≤ i → ok i := fun i hi => hfr.out i (Nat.le_trans hf05.out.size hi)
                  have hnew : (p.next.begins k).nodes[p.nodes.length]? = some (newNod k) := by simp [PS.begins, PS.next, newNod]
                  clear hkb5 hrb5 ek4 er4 HB hf5 t0 t1 t2
                  by_cases k6 : k = 6
                  · subst k6
                    have HI := item_calls hTd.out (typed_grows d) hfr5 hs5 p.nodes.length hlb deep hdd.out.1 hdd.out.2.1 hdd.out.2.2 sBc
                    have E := fun r (h : pItem (pTyped d) p.nodes.length sBc (p.next.begins 6) = r) => E4.out r h
                    cases hres : pItem (pTyped d) p.nodes.length sBc (p.next.begins 6) with
                    | error e =>
                      rw [hres] at HI
                      have E1 : Aside0 (spec = .error (e.1, e.2)) := ⟨E _ hres⟩
                      replace HI := Aside0.mk HI
                      clear hres E hs5 hfr5 hnew hlb
                      go_wp2_with (go_at_call 84; refine HI.out.mono ?_; rintro _ w6 ⟨rfl, hf6⟩)
                      exact ⟨rfl, Post.bad E1.out (hf05.out.trans hf6)⟩
                    | ok r =>
                      obtain ⟨u, q⟩ := r
                      rw [hres] at HI
                      have E1 : Aside0 (spec = .ok ((p.nodes.length : Int), q)) := ⟨E _ hres⟩
                      replace HI := Aside0.mk HI
                      clear hres E hs5 hfr5 hnew hlb
                      go_wp2_with (go_at_call 84; refine HI.out.mono ?_; rintro _ w6 ⟨rfl, hs6, hf6⟩; replace hs6 := Aside0.mk hs6)
                      go_ret
                      exact Post.good E1.out hs6.out (hf05.out.trans hf6)
                  by_cases k7 : k = 7
                  · subst k7
                    have HI := item_calls hTd.out (typed_grows d) hfr5 hs5 p.nodes.length hlb deep hdd.out.1 hdd.out.2.1 hdd.out.2.2 sCc
                    have E := fun r (h : pItem (pTyped d) p.nodes.length sCc (p.next.begins 7) = r) => E4.out r h
                    cases hres : pItem (pTyped d) p.nodes.length sCc (p.next.begins 7) with
                    | error e =>
                      rw [hres] at HI
                      have E1 : Aside0 (spec = .error (e.1, e.2)) := ⟨E _ hres⟩
                      replace HI := Aside0.mk HI
                      clear hres E hs5 hfr5 hnew hlb
                      go_wp2_with (go_at_call 84; refine HI.out.mono ?_; rintro _ w6 ⟨rfl, hf6⟩)
                      exact ⟨rfl, Post.bad E1.out (hf05.out.trans hf6)⟩
                    | ok r =>
                      obtain ⟨u, q⟩ := r
                      rw [hres] at HI
                      have E1 : Aside0 (spec = .ok ((p.nodes.length : Int), q)) := ⟨E _ hres⟩
                      replace HI := Aside0.mk HI
                      clear hres E hs5 hfr5 hnew hlb
                      go_wp2_with (go_at_call 84; refine HI.out.mono ?_; rintro _ w6 ⟨rfl, hs6, hf6⟩; replace hs6 := Aside0.mk hs6)
                      go_ret
                      exact Post.good E1.out hs6.out (hf05.out.trans hf6)
                  by_cases k8 : k = 8
                  · subst k8
                    have HI := union_calls hTd.out (typed_grows d) hfr5 hs5 p.nodes.length hlb deep hdd.out.1 hdd.out.2.1 hdd.out.2.2 (p.next.begins 8).l.length (Nat.le_refl _) (by obtain ⟨_, _, _, _, _, _, hx⟩ := hs5; exact hx.good.2.2)
                    have E := fun r (h : pUnion (pTyped d) p.nodes.length (p.next.begins 8).l.length [] (p.next.begins 8) = r) => E4.out r h
                    cases hres : pUnion (pTyped d) p.nodes.length (p.next.begins 8).l.length [] (p.next.begins 8) with
                    | error e =>
                      rw [hres] at HI
                      have E1 : Aside0 (spec = .error (e.1, e.2)) := ⟨E _ hres⟩
                      replace HI := Aside0.mk HI
                      clear hres E hs5 hfr5 hnew hlb
                      go_wp2_with (go_at_call 85; refine HI.out.mono ?_; rintro _ w6 ⟨rfl, hf6⟩)
                      exact ⟨rfl, Post.bad E1.out (hf05.out.trans hf6)⟩
                    | ok r =>
                      obtain ⟨u, q⟩ := r
                      rw [hres] at HI
                      have E1 : Aside0 (spec = .ok ((p.nodes.length : Int), q)) := ⟨E _ hres⟩
                      replace HI := Aside0.mk HI
                      clear hres E hs5 hfr5 hnew hlb
                      go_wp2_with (go_at_call 85; refine HI.out.mono ?_; rintro _ w6 ⟨rfl, hs6, hf6⟩; replace hs6 := Aside0.mk hs6)
                      go_ret
                      exact Post.good E1.out hs6.out (hf05.out.trans hf6)
                  by_cases k9 : 9 ≤ k
                  · have HI := defined_calls hTd.out (typed_grows d) hfr5 hs5 p.nodes.length k (by omega) hnew deep hdd.out.1 hdd.out.2.1 hdd.out.2.2
                    have E := fun r (h : pDefined (pTyped d) p.nodes.length k (p.next.begins k) = r) => E4.out r (by unfold pRest; rw [if_neg k6, if_neg k7, if_neg k8, if_pos k9]; exact h)
                    have hkk : k = 9 ∨ k = 10 ∨ k = 11 := by omega
                    clear k6 k7 k8 k9 ck k1 k11
                    cases hres : pDefined (pTyped d) p.nodes.length k (p.next.begins k) with
                    | error e =>
                      rw [hres] at HI
                      have E1 : Aside0 (spec = .error (e.1, e.2)) := ⟨E _ hres⟩
                      replace HI := Aside0.mk HI
                      clear hres E hs5 hfr5 hnew hlb
                      rcases hkk with rfl | rfl | rfl
                      all_goals (go_wp2_with (go_at_call 86; refine HI.out.mono ?_; rintro _ w6 ⟨rfl, hf6⟩))
                      all_goals exact ⟨rfl, Post.bad E1.out (hf05.out.trans hf6)⟩
                    | ok r =>
                      obtain ⟨u, q⟩ := r
                      rw [hres] at HI
                      have E1 : Aside0 (spec = .ok ((p.nodes.length : Int), q)) := ⟨E _ hres⟩
                      replace HI := Aside0.mk HI
                      clear hres E hs5 hfr5 hnew hlb
                      rcases hkk with rfl | rfl | rfl
                      all_goals (go_wp2_with (go_at_call 86; refine HI.out.mono ?_; rintro _ w6 ⟨rfl, hs6, hf6⟩; replace hs6 := Aside0.mk hs6))
                      all_goals go_ret
                      all_goals exact Post.good E1.out hs6.out (hf05.out.trans hf6)
                  · have E1 : Aside0 (spec = .ok ((p.nodes.length : Int), p.next.begins k)) := ⟨E4.out (.ok ((), p.next.begins k)) (by unfold pRest; rw [if_neg k6, if_neg k7, if_neg k8, if_neg k9])⟩
                    have b6 : (k == 6) = false := by simp [k6]
                    have b7 : (k == 7) = false := by simp [k7]
                    have b8 : (k == 8) = false := by simp [k8]
                    have b9 : (k == 9) = false := by simp; omega
                    have b10 : (k == 10) = false := by simp; omega
                    have b11 : (k == 11) = false := by simp; omega
                    replace hs5 := Aside0.mk hs5
                    clear k6 k7 k8 k9 hfr5 hnew hlb
                    go_wp2_with (fail)
                    go_ret
                    exact Post.good E1.out hs5.out hf05.out
            · have b9 : decide (k < (9 : Int)) = false := by simp; omega
              have E4 : Aside0 (∀ (r : PR Unit), pRest (pTyped d) p.nodes.length k (p.next.begins k) = r → spec = (match r with | .error e => .error e | .ok (_, q) => .ok ((p.nodes.length : Int), q))) := ⟨E5.out (by rw [← hsp1.out, if_neg (fun h => k8 h.2), if_neg (fun h => k9 h.2.2.1)])⟩
              clear E5 hsp1 k8 k9
              go_wp2_with (fail)
              clear b8 b9
              have hD4 : Below wd.heap.size wd wd.drew := (Below.refl _ _).drew
              obtain ⟨g, off, ln, cc, xx, yy, d0, df, dc1, dc, dl, d1, d2, d3, d4, d5, hs4⟩ := (hs2.out.fr hD4).step k3
              have e0D : wd.drew.cell? ⟨w.heap.size, 0, none⟩ = some (.pointer (some ⟨R, 0, none⟩)) := (blk_cell (hrb.out : wd.drew.heap[w.heap.size]? = _) 0).trans rfl
              have hkb4 := Aside0.mk (blk_far (w := wd.drew) (p := ⟨R, 0, none⟩) (hkb.out : wd.drew.heap[kB]? = _) hRk.symm (.slice (some ⟨g, off + 3, none⟩) ln (cc - 1)))
              have hrb4 := Aside0.mk (blk_far (w := wd.drew) (p := ⟨R, 0, none⟩) (hrb.out : wd.drew.heap[w.heap.size]? = _) hRr.symm (.slice (some ⟨g, off + 3, none⟩) ln (cc - 1)))
              replace hs4 := Aside0.mk hs4
              have hf4 := Aside0.mk ((hf2.out.trans (Fr.of_below hD4)).setR 0 (.slice (some ⟨g, off + 3, none⟩) ln (cc - 1)))
              clear hD4
              go_cut [] from 95 to 102 (fun wx => wx = (wd.setCell ⟨R, 0, none⟩ (.slice (some ⟨g, off + 3, none⟩) ln (cc - 1))).drew)
              case first =>
                go_region
                all_goals (go_wp2_with (fail); go_meet)
                all_goals rfl
              case rest =>
                subst hcut
                rw [show wd.drew.setCell ⟨R, 0, none⟩ (.slice (some ⟨g, off + 3, none⟩) ln (cc - 1)) = (wd.setCell ⟨R, 0, none⟩ (.slice (some ⟨g, off + 3, none⟩) ln (cc - 1))).drew from rfl] at hkb4 hrb4 hs4 hf4
                generalize (wd.setCell ⟨R, 0, none⟩ (.slice (some ⟨g, off + 3, none⟩) ln (cc - 1))).drew = W4 at hkb4 hrb4 hs4 hf4 ⊢
                clear d0 d1 d2 d3 d4 d5 df e0D ek e0
                have ek4 := (blk_cell hkb4.out 0).trans rfl
                have er4 := (blk_cell hrb4.out 0).trans rfl
                have HB := Aside0.mk (begins_calls hs4.out (fun i hi => hfr.out i (Nat.le_trans hf4.out.size hi)) k hn200.out)
                go_wp2_with (fail)
                refine HB.out.mono ?_
                rintro _ w5 ⟨rfl, hs5, hf5⟩
                have hkb5 := hf5.cell hs4.out hkb4.out (by decide)
                have hrb5 := hf5.cell hs4.out hrb4.out (by decide)
                have ek5 := (blk_cell hkb5 0).trans rfl
                have er5 := (blk_cell hrb5 0).trans rfl
                have hf05 := Aside0.mk (hf4.out.trans hf5)
                have hlb : p.nodes.length < (p.next.begins k).nodes.length := by simp [PS.begins, PS.next]
                have hfr5 : ∀ i, w5.heap.size ≤ i → ok i := fun i hi => hfr.out i (Nat.le_trans hf05.out.size hi)
                have hnew : (p.next.begins k).nodes[p.nodes.length]? = some (newNod k) := by simp [PS.begins, PS.next, newNod]
                clear hkb5 hrb5 ek4 er4 HB hf5 t0 t1 t2
                by_cases k6 : k = 6
                · subst k6
                  have HI := item_calls hTd.out (typed_grows d) hfr5 hs5 p.nodes.length hlb deep hdd.out.1 hdd.out.2.1 hdd.out.2.2 sBc
                  have E := fun r (h : pItem (pTyped d) p.nodes.length sBc (p.next.begins 6) = r) => E4.out r h
                  cases hres : pItem (pTyped d) p.nodes.length sBc (p.next.begins 6) with
                  | error e =>
                    rw [hres] at HI
                    have E1 : Aside0 (spec = .error (e.1, e.2)) := ⟨E _ hres⟩
                    replace HI := Aside0.mk HI
                    clear hres E hs5 hfr5 hnew hlb
                    go_wp2_with (go_at_call 84; refine HI.out.mono ?_; rintro _ w6 ⟨rfl, hf6⟩)
                    exact ⟨rfl, Post.bad E1.out (hf05.out.trans hf6)⟩
                  | ok r =>
                    obtain ⟨u, q⟩ := r
                    rw [hres] at HI
                    have E1 : Aside0 (spec = .ok ((p.nodes.length : Int), q)) := ⟨E _ hres⟩
                    replace HI := Aside0.mk HI
                    clear hres E hs5 hfr5 hnew hlb
                    go_wp2_with (go_at_call 84; refine HI.out.mono ?_; rintro _ w6 ⟨rfl, hs6, hf6⟩; replace hs6 := Aside0.mk hs6)
                    go_ret
                    exact Post.good E1.out hs6.out (hf05.out.trans hf6)
                by_cases k7 : k = 7
                · subst k7
                  have HI := item_calls hTd.out (typed_grows d) hfr5 hs5 p.nodes.length hlb deep hdd.out.1 hdd.out.2.1 hdd.out.2.2 sCc
                  have E := fun r (h : pItem (pTyped d) p.nodes.length sCc (p.next.begins 7) = r) => E4.out r h
                  cases hres : pItem (pTyped d) p.nodes.length sCc (p.next.begins 7) with
                  | error e =>
                    rw [hres] at HI
                    have E1 : Aside0 (spec = .error (e.1, e.2)) := ⟨E _ hres⟩
                    replace HI := Aside0.mk HI
                    clear hres E hs5 hfr5 hnew hlb
                    go_wp2_with (go_at_call 84; refine HI.out.mono ?_; rintro _ w6 ⟨rfl, hf6⟩)
                    exact ⟨rfl, Post.bad E1.out (hf05.out.trans hf6)⟩
                  | ok r =>
                    obtain ⟨u, q⟩ := r
                    rw [hres] at HI
                    have E1 : Aside0 (spec = .ok ((p.nodes.length : Int), q)) := ⟨E _ hres⟩
                    replace HI := Aside0.mk HI
                    clear hres E hs5 hfr5 hnew hlb
                    go_wp2_with (go_at_call 84; refine HI.out.mono ?_; rintro _ w6 ⟨rfl, hs6, hf6⟩; replace hs6 := Aside0.mk hs6)
                    go_ret
                    exact Post.good E1.out hs6.out (hf05.out.trans hf6)
                by_cases k8 : k = 8
                · subst k8
                  have HI := union_calls hTd.out (typed_grows d) hfr5 hs5 p.nodes.length hlb deep hdd.out.1 hdd.out.2.1 hdd.out.2.2 (p.next.begins 8).l.length (Nat.le_refl _) (by obtain ⟨_, _, _, _, _, _, hx⟩ := hs5; exact hx.good.2.2)
                  have E := fun r (h : pUnion (pTyped d) p.nodes.length (p.next.begins 8).l.length [] (p.next.begins 8) = r) => E4.out r h
                  cases hres : pUnion (pTyped d) p.nodes.length (p.next.begins 8).l.length [] (p.next.begins 8) with
                  | error e =>
                    rw [hres] at HI
                    have E1 : Aside0 (spec = .error (e.1, e.2)) := ⟨E _ hres⟩
                    replace HI := Aside0.mk HI
                    clear hres E hs5 hfr5 hnew hlb
                    go_wp2_with (go_at_call 85; refine HI.out.mono ?_; rintro _ w6 ⟨rfl, hf6⟩)
                    exact ⟨rfl, Post.bad E1.out (hf05.out.trans hf6)⟩
                  | ok r =>
                    obtain ⟨u, q⟩ := r
                    rw [hres] at HI
                    have E1 : Aside0 (spec = .ok ((p.nodes.length : Int), q)) := ⟨E _ hres⟩
                    replace HI := Aside0.mk HI
                    clear hres E hs5 hfr5 hnew hlb
                    go_wp2_with (go_at_call 85; refine HI.out.mono ?_; rintro _ w6 ⟨rfl, hs6, hf6⟩; replace hs6 := Aside0.mk hs6)
                    go_ret
                    exact Post.good E1.out hs6.out (hf05.out.trans hf6)
                by_cases k9 : 9 ≤ k
                · have HI := defined_calls hTd.out (typed_grows d) hfr5 hs5 p.nodes.length k (by omega) hnew deep hdd.out.1 hdd.out.2.1 hdd.out.2.2
                  have E := fun r (h : pDefined (pTyped d) p.nodes.length k (p.next.begins k) = r) => E4.out r (by unfold pRest; rw [if_neg k6, if_neg k7, if_neg k8, if_pos k9]; exact h)
                  have hkk : k = 9 ∨ k = 10 ∨ k = 11 := by omega
                  clear k6 k7 k8 k9 ck k1 k11
                  cases hres : pDefined (pTyped d) p.nodes.length k (p.next.begins k) with
                  | error e =>
                    rw [hres] at HI
                    have E1 : Aside0 (spec = .error (e.1, e.2)) := ⟨E _ hres⟩
                    replace HI := Aside0.mk HI
                    clear hres E hs5 hfr5 hnew hlb
                    rcases hkk with rfl | rfl | rfl
                    all_goals (go_wp2_with (go_at_call 86; refine HI.out.mono ?_; rintro _ w6 ⟨rfl, hf6⟩))
                    all_goals exact ⟨rfl, Post.bad E1.out (hf05.out.trans hf6)⟩
                  | ok r =>
                    obtain ⟨u, q⟩ := r
                    rw [hres] at HI
                    have E1 : Aside0 (spec = .ok ((p.nodes.length : Int), q)) := ⟨E _ hres⟩
                    replace HI := Aside0.mk HI
                    clear hres E hs5 hfr5 hnew hlb
                    rcases hkk with rfl | rfl | rfl
                    all_goals (go_wp2_with (go_at_call 86; refine HI.out.mono ?_; rintro _ w6 ⟨rfl, hs6, hf6⟩; replace hs6 := Aside0.mk hs6))
                    all_goals go_ret
                    all_goals exact Post.good E1.out hs6.out (hf05.out.trans hf6)
                · have E1 : Aside0 (spec = .ok ((p.nodes.length : Int), p.next.begins k)) := ⟨E4.out (.ok ((), p.next.begins k)) (by unfold pRest; rw [if_neg k6, if_neg k7, if_neg k8, if_neg k9])⟩
                  have b6 : (k == 6) = false := by simp [k6]
                  have b7 : (k == 7) = false := by simp [k7]
                  have b8 : (k == 8) = false := by simp [k8]
                  have b9 : (k == 9) = false := by simp; omega
                  have b10 : (k == 10) = false := by simp; omega
                  have b11 : (k == 11) = false := by simp; omega
                  replace hs5 := Aside0.mk hs5
                  clear k6 k7 k8 k9 hfr5 hnew hlb
                  go_wp2_with (fail)
                  go_ret
                  exact Post.good E1.out hs5.out hf05.out
      · have t0 : decide ((0 : Int) ≤ k) = false := by simp; omega
        have t1 : decide (k < (0 : Int)) = true := by simp; omega
        have t8 : (k == 8) = false := by simp; omega
        by_cases c3 : 0 ≤ p.called p.tok.f1
        · have t3 : decide (0 ≤ p.called p.tok.f1) = true := by simp [c3]
          obtain rfl := hnV.out c3
          have hsp2 : Aside0 ((if union = true ∧ ahead.contains (p.called p.tok.f1) = true then p.fail 6 else .ok (p.called p.tok.f1, p.next) : PR Int) = spec) := ⟨by
            have a1 : ¬ (D = 0 ∨ 0 ≤ k ∧ 200 ≤ p.nodes.length) := fun h => h.elim c1.out (fun h => ck h.1)
            have a2 : ¬ (k < 0 ∧ p.called p.tok.f1 < 0) := fun h => by omega
            have a3 : ¬ (union = true ∧ k = 8) := fun h => by omega
            have a4 : k < 0 := by omega
            have a5 : ¬ (union = true ∧ 0 ≤ k ∧ k < 9 ∧ dupKind p.nodes k ahead = true) := fun h => by omega
            rw [← hspec.out, if_neg a1, if_neg a2, if_neg a3]
            by_cases h6 : union = true ∧ ahead.contains (p.called p.tok.f1) = true
            · rw [if_pos h6, if_pos ⟨h6.1, a4, h6.2⟩]
            · rw [if_neg h6, if_neg (fun h => h6 ⟨h.1, h.2.2⟩), if_neg a5]
              unfold typedRest
              rw [if_pos a4]⟩
          clear ck c3 k1 k11 hnl d0 d1 d2 d3 d5 dc hspec
          cases union with
          | false =>
            have E : Aside0 (spec = .ok (p.called p.tok.f1, p.next)) := ⟨by rw [← hsp2.out]; simp⟩
            go_wp2_with (fail)
            have hD4 : Below wd.heap.size wd wd.drew := (Below.refl _ _).drew
            obtain ⟨g, off, ln, cc, xx, yy, d0, df, dc1, dc, dl, d1, d2, d3, d4, d5, hs4⟩ := (hs2.out.fr hD4).step k3
            have e0D : wd.drew.cell? ⟨w.heap.size, 0, none⟩ = some (.pointer (some ⟨R, 0, none⟩)) := e0
            have ekE : (wd.drew.setCell ⟨R, 0, none⟩ (.slice (some ⟨g, off + 3, none⟩) ln (cc - 1))).cell? ⟨kB, 0, none⟩ = some (.int .i64 k) := (World.cell?_setCell_far _ _ _ _ hRk).trans ek
            replace hs4 := Aside0.mk hs4
            have hf4 := Aside0.mk ((hf2.out.trans (Fr.of_below hD4)).setR 0 (.slice (some ⟨g, off + 3, none⟩) ln (cc - 1)))
            clear hD4
            go_region
            all_goals rw [show wd.drew.setCell ⟨R, 0, none⟩ (.slice (some ⟨g, off + 3, none⟩) ln (cc - 1)) = (wd.setCell ⟨R, 0, none⟩ (.slice (some ⟨g, off + 3, none⟩) ln (cc - 1))).drew from rfl] at ekE hs4 hf4
            all_goals generalize (wd.setCell ⟨R, 0, none⟩ (.slice (some ⟨g, off + 3, none⟩) ln (cc - 1))).drew = W4 at ekE hs4 hf4 ⊢
            all_goals clear d0 d1 d2 d3 d4 d5 df e0D ek e0
            all_goals go_wp2_with (fail)
            all_goals go_ret
            all_goals exact Post.good E.out hs4.out hf4.out
          | true =>
            have HCo := Aside0.mk (contains_int wd A c ahead (p.called p.tok.f1) hC2.out)
            cases hct : ahead.contains (p.called p.tok.f1) with
            | true =>
              have E : Aside0 (spec = .error (p.tok.f2, 6)) := ⟨by rw [← hsp2.out, if_pos ⟨rfl, hct⟩]; rfl⟩
              rw [hct] at HCo
              clear hct
              go_wp2_with (first | (go_at_call 80; refine HCo.out.mono ?_; rintro _ w3 ⟨rfl, e3⟩; have e3 := e3.symm; subst e3) | (go_at_call 60; refine (HF.out _ _ (Below.refl _ _)).mono ?_; rintro _ w4 ⟨rfl, hd4⟩))
              exact ⟨rfl, Post.bad E.out (hf2.out.trans (Fr.of_drawn hd4))⟩
            | false =>
            have E : Aside0 (spec = .ok (p.called p.tok.f1, p.next)) := ⟨by rw [← hsp2.out, if_neg (by rw [hct]; simp)]⟩
            rw [hct] at HCo
            clear hct
            go_wp2_with (go_at_call 80; refine HCo.out.mono ?_; rintro _ w3 ⟨rfl, e3⟩; have e3 := e3.symm; subst e3)
            have hD4 : Below wd.heap.size wd wd.drew := (Below.refl _ _).drew
            obtain ⟨g, off, ln, cc, xx, yy, d0, df, dc1, dc, dl, d1, d2, d3, d4, d5, hs4⟩ := (hs2.out.fr hD4).step k3
            have e0D : wd.drew.cell? ⟨w.heap.size, 0, none⟩ = some (.pointer (some ⟨R, 0, none⟩)) := e0
            have ekE : (wd.drew.setCell ⟨R, 0, none⟩ (.slice (some ⟨g, off + 3, none⟩) ln (cc - 1))).cell? ⟨kB, 0, none⟩ = some (.int .i64 k) := (World.cell?_setCell_far _ _ _ _ hRk).trans ek
            replace hs4 := Aside0.mk hs4
            have hf4 := Aside0.mk ((hf2.out.trans (Fr.of_below hD4)).setR 0 (.slice (some ⟨g, off + 3, none⟩) ln (cc - 1)))
            clear hD4
            go_region
            all_goals rw [show wd.drew.setCell ⟨R, 0, none⟩ (.slice (some ⟨g, off + 3, none⟩) ln (cc - 1)) = (wd.setCell ⟨R, 0, none⟩ (.slice (some ⟨g, off + 3, none⟩) ln (cc - 1))).drew from rfl] at ekE hs4 hf4
            all_goals generalize (wd.setCell ⟨R, 0, none⟩ (.slice (some ⟨g, off + 3, none⟩) ln (cc - 1))).drew = W4 at ekE hs4 hf4 ⊢
            all_goals clear d0 d1 d2 d3 d4 d5 df e0D ek e0
            all_goals go_wp2_with (fail)
            all_goals go_ret
            all_goals exact Post.good E.out hs4.out hf4.out
        · have t3 : decide (0 ≤ p.called p.tok.f1) = false := by simp; omega
          have E : Aside0 (spec = .error (p.tok.f2, 5)) := ⟨by
            have a1 : ¬ (D = 0 ∨ 0 ≤ k ∧ 200 ≤ p.nodes.length) := fun h => h.elim c1.out (fun h => ck h.1)
            have a2 : k < 0 ∧ p.called p.tok.f1 < 0 := by omega
            rw [← hspec.out]
            simp only [if_neg a1, if_pos a2]
            rfl⟩
          clear ck c3 k1 k11 hnl
          go_wp2_with (go_at_call 60; refine (HF.out _ _ (Below.refl _ _)).mono ?_; rintro _ w4 ⟨rfl, hd4⟩)
          exact ⟨rfl, Post.bad E.out (hf2.out.trans (Fr.of_drawn hd4))⟩
theorem typedOK (b : Nat) : ∀ D, D ≤ 20 → TypedOK b D
  | 0, h => typed_calls h (fun d hd => by omega)
  | D + 1, h => typed_calls h (fun d hd => by
    have : d = D := by omega
    subst this
    exact typedOK b d (by omega))
end Go.Proofs.YtkafikdjhiienaaGreatDoor

/- parsed -/
namespace Go.Proofs.YtkafikdjhiienaaGreatDoor
open Go.RowKit Go.Proofs.YtkafikdjhiienaaGreatDoorW.PrintWords

theorem parsed1_idle (p0 p1 p2 : Addr) (w : World) :
    CallsD Tryz.prog 58 #[.pointer (some p0), .pointer (some p1), .pointer (some p2)] .returning w fun e u' w' => e = .returned (.tuple #[]) ∧ u' = .returning ∧ w' = w := by
  refine callsD_of_wpS Tryz.func58 rfl fun c₀ cs hu => ?_
  apply wpS_seq
  apply wpS_region
  simp [wpOpsS, go_sem, recoverD, hu, Tryz.ntmps58, Exit.thenS]
  apply wpS_seq
  apply wpS_region
  simp [wpOpsS, go_sem, Exit.thenS]
  refine wpS_cond (t := false) (by simp [Act.eval, Array.replicate]) ?_
  simp only [Bool.false_eq_true, if_false]
  refine wpS_of_wp (wp_skip ?_)
  cases c₀
  simp_all [bodyPostS, results, Tryz.results58]

set_option maxRecDepth 100000 in
set_option maxHeartbeats 1000000 in
theorem parsed1_stop (p0 p1 p2 : Nat) (v0 v1 v2 : Value) (a y : Int) (w : World) (h0 : w.heap[p0]? = some (.cells #[v0] 54 (0, 0))) (h1 : w.heap[p1]? = some (.cells #[v1] 3 (0, 0))) (h2 : w.heap[p2]? = some (.cells #[v2] 67 (0, 0))) :
    CallsD Tryz.prog 58 #[.pointer (some ⟨p0, 0, none⟩), .pointer (some ⟨p1, 0, none⟩), .pointer (some ⟨p2, 0, none⟩)] (.panicking [{ v := .iface 92 (.agg #[.int .i64 a, .int .i64 y]), recovered := false }]) w fun e u' w' => e = .returned (.tuple #[]) ∧ u' = .panicking [{ v := .iface 92 (.agg #[.int .i64 a, .int .i64 y]), recovered := true }] ∧
      w' = ((((w.setCell ⟨p0, 0, none⟩ (.slice none 0 0)).setCell ⟨p1, 0, none⟩ (.int .i64 a)).setCell ⟨p2, 0, none⟩ (.int .i64 y)).alloc (.cells #[.int .i64 a, .int .i64 y] 92)).drew := by
  have hta : ∀ w, (Instr.typeAssert (.iface 92 (.agg #[.int .i64 a, .int .i64 y])) 20 92 true).run Tryz.prog w = .ok (.tuple #[.agg #[.int .i64 a, .int .i64 y], .bool true]) w := fun _ => rfl
  refine callsD_of_wpS Tryz.func58 rfl fun c₀ cs hu => ?_
  apply wpS_seq
  apply wpS_region
  simp [wpOpsS, go_sem, recoverD, hu, Tryz.ntmps58, Exit.thenS, Array.replicate, List.replicate]
  apply wpS_seq
  apply wpS_region
  simp [wpOpsS, go_sem, Exit.thenS, Array.replicate, List.replicate]
  refine wpS_cond (t := true) (by simp [Act.eval, Array.replicate]) ?_
  simp only [if_true]
  have c0 := (blk_cell h0 0).trans rfl
  have c1 := (blk_cell h1 0).trans rfl
  have c2 := (blk_cell h2 0).trans rfl
  have f0 := blk_frozen h0 0
  have f1 := blk_frozen h1 0
  have f2 := blk_frozen h2 0
  have n01 : p0 ≠ p1 := blk_ne h0 h1 (by decide)
  have n02 : p0 ≠ p2 := blk_ne h0 h2 (by decide)
  have n12 : p1 ≠ p2 := blk_ne h1 h2 (by decide)
  have l0 := blk_lt h0
  have l1 := blk_lt h1
  have l2 := blk_lt h2
  clear h0 h1 h2
  refine wpS_of_wp ?_
  go_wp2
  go_region
  all_goals go_wp2
  all_goals (cases c₀; simp_all [bodyPostS, results, Tryz.results58])
end Go.Proofs.YtkafikdjhiienaaGreatDoor

/- parse -/
namespace Go.Proofs.YtkafikdjhiienaaGreatDoor
open Go.RowKit Go.Proofs.YtkafikdjhiienaaGreatDoorW.PrintWords

theorem toksFrom_good (s : ByteArray) : ∀ k a, (∃ body e, toksFrom s k a = body ++ [e] ∧ e.f0 = 3) ∧ ∀ t ∈ toksFrom s k a, t.f1.size ≤ s.size
  | 0, a => by
    refine ⟨⟨[], endTok s, rfl, rfl⟩, fun t ht => ?_⟩
    simp only [toksFrom, List.mem_singleton] at ht
    subst ht
    exact Nat.zero_le _
  | k + 1, a => by
    rw [toksFrom_succ]
    split
    · obtain ⟨⟨body, e, h, h3⟩, hs⟩ := toksFrom_good s k (skipOf s (a + tokLen s a))
      refine ⟨⟨tokAt s a :: body, e, by rw [h]; rfl, h3⟩, fun t ht => ?_⟩
      rcases List.mem_cons.1 ht with rfl | ht
      · show (s.extract a (a + tokLen s a)).size ≤ s.size
        rw [ByteArray.size_extract]
        omega
      · exact hs t ht
    · refine ⟨⟨[], endTok s, rfl, rfl⟩, fun t ht => ?_⟩
      simp only [List.mem_singleton] at ht
      subst ht
      exact Nat.zero_le _
theorem wordsGo_good : ∀ (l out : List Tok), out.length ≤ 1500 → (wordsGo out l).2.2 = 0 → (wordsGo out l).1 = out ++ l ∧ (out ++ l).length ≤ 1500
  | [], out, h, _ => by simp [wordsGo, h]
  | t :: r, out, h, hy => by
    unfold wordsGo at hy ⊢
    split at hy
    · cases hy
    rename_i h1
    rw [if_neg h1]
    split at hy
    · cases hy
    rename_i h2
    rw [if_neg h2]
    have := wordsGo_good r (out ++ [t]) (by simp; omega) hy
    simpa using this
theorem words_good (s : ByteArray) (h : (wordsSpec s).2.2 = 0) : Good (wordsSpec s).1 := by
  unfold wordsSpec at h ⊢
  split at h
  · cases h
  rename_i hs
  rw [if_neg hs]
  obtain ⟨e, hl⟩ := wordsGo_good (toks s) [] (by simp) h
  rw [e]
  obtain ⟨⟨body, e, h1, h2⟩, h3⟩ := toksFrom_good s (s.size - skipOf s 0) (skipOf s 0)
  refine ⟨⟨body, e, by simpa [toks, toksAt] using h1, h2⟩, fun t ht => ?_, by omega⟩
  have := h3 t (by simpa [toks, toksAt] using ht)
  omega
/-- A row of tokens that was made, as the reader has it. -/
theorem TokAt.ofR {w : World} {b : Nat} {ok : Nat → Prop} {v : Value} {l : List Tok} (h : kTok.R 88 w b ok v l) (hl : 0 < l.length) : ∃ g c, v = .slice (some ⟨g, 0, none⟩) l.length c ∧ l.length ≤ c ∧ TokAt w g 0 l := by
  obtain ⟨g, c, hv, hb, hlt, cells, hg⟩ := Kd.R_form h hl
  obtain ⟨_, c', e, hc, _⟩ := Kd.R_reads h
  rw [hv] at e
  cases e
  refine ⟨g, c, hv, hc, cells, hg, fun j t ht => ?_⟩
  obtain ⟨_, inner, hown, hreps⟩ := h
  have hM := hreps.2 j t ht
  have hcs := PPolicyHolds.k88_openM hM
  have hget : ∀ i u, [Value.int .i64 t.f0, .string t.f1, .int .i64 t.f2][i]? = some u → cells[j * 3 + i]? = some u := by
    intro i u hi
    have := hown.cells (g := g) (by rw [hv]; rfl) (j * 3 + i) u (by
      rw [← hcs] at hi
      rw [List.getElem?_take] at hi
      split at hi
      · rw [List.getElem?_drop] at hi; exact hi
      · cases hi)
    rw [add_plain] at this
    rw [← this]
    exact (blk_cell hg _).symm
  have e1 : 0 + 3 * j = j * 3 := by omega
  rw [e1]
  exact ⟨hget 0 _ rfl, hget 1 _ rfl, hget 2 _ rfl⟩
theorem RS.start {w : World} {b R Mb g c : Nat} {ok : Nat → Prop} {l : List Tok} (ht : TokAt w g 0 l) (hg : Good l) (hc : l.length ≤ c) (hL : LaidAt w) (hR : w.heap[R]? = some (.cells #[.slice (some ⟨g, 0, none⟩) l.length c, .slice none 0 0, .map (some Mb)] 97 (0, 0)))
    (hM : w.heap[Mb]? = some (.map #[] 0)) (hb : b ≤ R ∧ b ≤ Mb) (hG : 6 ≤ b) : RS b ok R Mb w ⟨l, []⟩ := by
  refine ⟨g, 0, c, .slice none 0 0, 0, .map [], hR, hc, ht, Kd.R_nil _ _ _ _ _, ⟨#[], 0, hM, ⟨by simp, MapKept.stamped_empty 0, by simp⟩, Nat.le_refl _, rfl⟩, Nat.le_refl _, ⟨⟨[], rfl⟩, Nat.zero_le _, fun s _ z => ?_⟩, hg, by simp, hb, hL, hG⟩
  rfl
end Go.Proofs.YtkafikdjhiienaaGreatDoor

/- parse2 -/
namespace Go.Proofs.YtkafikdjhiienaaGreatDoor
open Go.RowKit Go.Proofs.YtkafikdjhiienaaGreatDoorW.PrintWords

theorem three (w : World) (o0 o1 o2 : Obj) : let W := ((w.alloc o0).alloc o1).alloc o2; W.heap[w.heap.size]? = some o0 ∧ W.heap[w.heap.size + 1]? = some o1 ∧ W.heap[w.heap.size + 1 + 1]? = some o2 ∧ W.heap.size = w.heap.size + 3 ∧ Below w.heap.size w W := by
  have e1 : (w.alloc o0).heap.size = w.heap.size + 1 := by simp
  have e2 : ((w.alloc o0).alloc o1).heap.size = w.heap.size + 1 + 1 := by simp
  refine ⟨?_, ?_, ?_, by simp, (((Below.refl _ _).alloc (Nat.le_refl _) _).alloc (by simp) _).alloc (by simp; omega) _⟩
  · exact (Below.heap_alloc _ _ _ (by omega)).trans ((Below.heap_alloc _ _ _ (by omega)).trans (World.alloc_heap_new w o0))
  · refine (Below.heap_alloc _ _ _ (by omega)).trans ?_
    rw [← e1]
    exact World.alloc_heap_new _ o1
  · rw [← e2]
    exact World.alloc_heap_new _ o2

theorem set3 {w : World} {p0 p1 p2 t0 t1 t2 : Nat} {v0 v1 v2 : Value} (g0 : w.heap[p0]? = some (.cells #[v0] t0 (0, 0))) (g1 : w.heap[p1]? = some (.cells #[v1] t1 (0, 0))) (g2 : w.heap[p2]? = some (.cells #[v2] t2 (0, 0)))
    (n01 : p0 ≠ p1) (n02 : p0 ≠ p2) (n12 : p1 ≠ p2) (u0 u1 u2 : Value) {U : World} (hU : U = ((w.setCell ⟨p0, 0, none⟩ u0).setCell ⟨p1, 0, none⟩ u1).setCell ⟨p2, 0, none⟩ u2) :
    U.heap[p0]? = some (.cells #[u0] t0 (0, 0)) ∧ U.heap[p1]? = some (.cells #[u1] t1 (0, 0)) ∧ U.heap[p2]? = some (.cells #[u2] t2 (0, 0)) := by
  subst hU
  refine ⟨blk_far (p := ⟨p2, 0, none⟩) (blk_far (p := ⟨p1, 0, none⟩) (blk_set g0 0 u0) n01 u1) n02 u2, blk_far (p := ⟨p2, 0, none⟩) (blk_set (blk_far (p := ⟨p0, 0, none⟩) g1 n01.symm u0) 0 u1) n12 u2, ?_⟩
  exact blk_set (blk_far (p := ⟨p1, 0, none⟩) (blk_far (p := ⟨p0, 0, none⟩) g2 n02.symm u0) n12.symm u1) 0 u2

set_option maxRecDepth 100000 in
set_option maxHeartbeats 2000000 in
theorem parsed_calls (s : ByteArray) (w : World) (hs : s.size ≤ 140737488351232) (hL : LaidAt w) :
    Calls Tryz.prog 47 #[.string s] w fun e w' => ∃ v, e = .returned (.tuple #[.agg #[v], .int .i64 (parseSpec s).2.1, .int .i64 (parseSpec s).2.2]) ∧ kNod.R 110 w' w.heap.size (fun _ => True) v (parseSpec s).1 ∧ Below w.heap.size w w' := by
  have HW := Aside0.mk (fun (W : World) => words_calls s W hs)
  replace hL := Aside0.mk hL
  rcases hsp : wordsSpec s with ⟨l, a, y⟩
  by_cases hy : y = 0
  · subst hy
    have hg : Good l := by have := words_good s (by rw [hsp]); rw [hsp] at this; exact this
    have hmf : ∀ (fn : Fn) (first cap : Array Value) (w : World), (Instr.makeFunc fn first cap).run Tryz.prog w = .ok (.func fn first cap) w := fun _ _ _ _ => rfl
    have hmk : ∀ (t : TypeId) (w : World), (Instr.makeMap t none).run Tryz.prog w = .ok (.map (some w.heap.size)) (w.alloc (.map #[] 0)) := fun _ _ => rfl
    rw [hsp] at HW
    replace hg := Aside0.mk hg
    go_enter_defers Tryz.func47, Tryz.ntmps47
    go_wp2_with (fail)
    have h3 := three w (.cells #[.slice none 0 0] 54) (.cells #[.int .i64 0] 3) (.cells #[.int .i64 0] 67)
    simp only at h3
    obtain ⟨b0, b1, b2, bs, bB⟩ := h3
    generalize ((w.alloc (.cells #[.slice none 0 0] 54)).alloc (.cells #[.int .i64 0] 3)).alloc (.cells #[.int .i64 0] 67) = wT at b0 b1 b2 bs bB ⊢
    refine (HW.out _).mono ?_
    rintro e w1 ⟨v, rfl, hR, hB⟩
    have d0 := (hB.block _ (by omega)).trans b0
    have d1 := (hB.block _ (by omega)).trans b1
    have d2 := (hB.block _ (by omega)).trans b2
    have c0 := (blk_cell d0 0).trans rfl
    have c1 := (blk_cell d1 0).trans rfl
    have c2 := (blk_cell d2 0).trans rfl
    have f0 := blk_frozen d0 0
    have f1 := blk_frozen d1 0
    have f2 := blk_frozen d2 0
    have hB1 : Aside0 (Below w.heap.size w w1) := ⟨bB.trans (hB.mono (by omega))⟩
    have hsz := blk_lt d2
    obtain ⟨g, c, rfl, hlc, htk⟩ := TokAt.ofR hR (by obtain ⟨t, r, h⟩ := hg.out.ne; rw [h]; simp)
    replace d0 := Aside0.mk d0
    replace d1 := Aside0.mk d1
    replace d2 := Aside0.mk d2
    replace htk := Aside0.mk htk
    clear b0 b1 b2 bs bB hR hB
    go_wp2_with (fail)
    have hA : Below w1.heap.size (w1.setCell ⟨w.heap.size + 1, 0, none⟩ (.int .i64 a)) (((w1.setCell ⟨w.heap.size + 1, 0, none⟩ (.int .i64 a)).alloc (.map #[] 0)).alloc (.cells #[.slice (some ⟨g, 0, none⟩) l.length c, .slice none 0 0, .map (some w1.heap.size)] 97)) := by
      have e : (w1.setCell ⟨w.heap.size + 1, 0, none⟩ (.int .i64 a)).heap.size = w1.heap.size := by simp [World.setCell]
      exact ((Below.refl _ _).alloc (by omega) _).alloc (by simp) _
    have hLW : LaidAt w1 := hL.out.below hB1.out
    have hsA : (w1.setCell ⟨w.heap.size + 1, 0, none⟩ (.int .i64 a)).heap.size = w1.heap.size := by simp [World.setCell]
    have hM := two_new0' (w1.setCell ⟨w.heap.size + 1, 0, none⟩ (.int .i64 a)) (.map #[] 0) (.cells #[.slice (some ⟨g, 0, none⟩) l.length c, .slice none 0 0, .map (some w1.heap.size)] 97)
    have hRR := two_new1' (w1.setCell ⟨w.heap.size + 1, 0, none⟩ (.int .i64 a)) (.map #[] 0) (.cells #[.slice (some ⟨g, 0, none⟩) l.length c, .slice none 0 0, .map (some w1.heap.size)] 97)
    rw [hsA] at hM hRR
    have hgl : g < w1.heap.size := by obtain ⟨cells, hgc, _⟩ := htk.out; exact blk_lt hgc
    have hgn : g ≠ w.heap.size + 1 := htk.out.ne_cells d1.out (by decide)
    have hGw := hL.out.size
    have hB1s := hB1.out.size
    have hfar : ∀ k, k < w1.heap.size → k ≠ w.heap.size + 1 → (((w1.setCell ⟨w.heap.size + 1, 0, none⟩ (.int .i64 a)).alloc (.map #[] 0)).alloc (.cells #[.slice (some ⟨g, 0, none⟩) l.length c, .slice none 0 0, .map (some w1.heap.size)] 97)).heap[k]? = w1.heap[k]? := fun k hk hne => (hA.block k hk).trans (Below.heap_setCell _ _ _ _ hne)
    have hrs : RS w1.heap.size (fun _ => True) (w1.heap.size + 1) w1.heap.size (((w1.setCell ⟨w.heap.size + 1, 0, none⟩ (.int .i64 a)).alloc (.map #[] 0)).alloc (.cells #[.slice (some ⟨g, 0, none⟩) l.length c, .slice none 0 0, .map (some w1.heap.size)] 97)) ⟨l, []⟩ :=
      RS.start (htk.out.same (hfar g hgl hgn)) hg.out hlc (hLW.same (by simp [World.setCell]; omega) (fun k hk => hfar k (by omega) (by omega))) hRR hM ⟨by omega, Nat.le_refl _⟩ (by omega)
    have q0 := Aside0.mk ((hfar w.heap.size (by omega) (by omega)).trans d0.out)
    have q2 := Aside0.mk ((hfar (w.heap.size + 1 + 1) (by omega) (by omega)).trans d2.out)
    have q1 := Aside0.mk ((hA.block (w.heap.size + 1) (by omega)).trans (blk_set d1.out 0 (.int .i64 a)))
    have hBW := Aside0.mk (((hB1.out.setCell (p := ⟨w.heap.size + 1, 0, none⟩) (by simp) (.int .i64 a))).trans (hA.mono (by omega)))
    have hHs : w1.heap.size ≤ (((w1.setCell ⟨w.heap.size + 1, 0, none⟩ (.int .i64 a)).alloc (.map #[] 0)).alloc (.cells #[.slice (some ⟨g, 0, none⟩) l.length c, .slice none 0 0, .map (some w1.heap.size)] 97)).heap.size := by have := hA.size; omega
    have HT := typedOK w1.heap.size 20 (Nat.le_refl _) (fun _ => True) _ _ _ _ false [] none 0 (fun _ _ => trivial) hrs (Kd.C_nil _ _) (Nat.le_refl _) (by simp)
    replace hrs := Aside0.mk hrs
    clear hA hLW hM hRR hfar c0 c1 c2 f0 f1 f2
    generalize (((w1.setCell ⟨w.heap.size + 1, 0, none⟩ (.int .i64 a)).alloc (.map #[] 0)).alloc (.cells #[.slice (some ⟨g, 0, none⟩) l.length c, .slice none 0 0, .map (some w1.heap.size)] 97)) = W2 at *
    cases hp : pTyped 20 false [] ⟨l, []⟩ with
    | error e =>
      have E : Aside0 (parseSpec s = ([], e.1, e.2)) := ⟨by unfold parseSpec; rw [hsp]; simp only; rw [if_neg (by simp), hp]⟩
      rw [hp] at HT
      replace HT := Aside0.mk HT
      refine HT.out.mono ?_
      rintro _ w3 ⟨rfl, hf3⟩
      go_wp2
      have g0 := (hf3.block w.heap.size (by have := blk_lt q0.out; omega) (by omega) (by omega) (fun h => by omega)).trans q0.out
      have g1 := (hf3.block (w.heap.size + 1) (by have := blk_lt q1.out; omega) (by omega) (by omega) (fun h => by omega)).trans q1.out
      have g2 := (hf3.block (w.heap.size + 1 + 1) (by have := blk_lt q2.out; omega) (by omega) (by omega) (fun h => by omega)).trans q2.out
      refine leaves_cons (f := 58) (args := #[.pointer (some ⟨w.heap.size, 0, none⟩), .pointer (some ⟨w.heap.size + 1, 0, none⟩), .pointer (some ⟨w.heap.size + 1 + 1, 0, none⟩)]) (by simp) (by simp [go_sem]) ?_
      refine (parsed1_stop w.heap.size (w.heap.size + 1) (w.heap.size + 1 + 1) _ _ _ e.1 e.2 w3 g0 g1 g2).mono ?_
      rintro e' u' w4 ⟨rfl, rfl, rfl⟩
      have hB3 : Below w.heap.size w w3 := hBW.out.trans ⟨hf3.os, hf3.tape, hf3.output, hf3.size, fun k hk => hf3.block k (by omega) (by omega) (by omega) (fun h => by omega)⟩
      have s0 := blk_lt g2
      have n01 : w.heap.size ≠ w.heap.size + 1 := by omega
      have n02 : w.heap.size ≠ w.heap.size + 1 + 1 := by omega
      have n12 : w.heap.size + 1 ≠ w.heap.size + 1 + 1 := by omega
      obtain ⟨m0, m1, m2⟩ := set3 g0 g1 g2 n01 n02 n12 (.slice none 0 0) (.int .i64 e.1) (.int .i64 e.2) rfl
      have hBU := ((((hB3.setCell (p := ⟨w.heap.size, 0, none⟩) (by simp) (.slice none 0 0)).setCell (p := ⟨w.heap.size + 1, 0, none⟩) (by simp) (.int .i64 e.1)).setCell (p := ⟨w.heap.size + 1 + 1, 0, none⟩) (by simp <;> omega) (.int .i64 e.2)).alloc (by simp; omega) (.cells #[.int .i64 e.1, .int .i64 e.2] 92))
      have m0 := blk_alloc m0 (.cells #[.int .i64 e.1, .int .i64 e.2] 92)
      have m1 := blk_alloc m1 (.cells #[.int .i64 e.1, .int .i64 e.2] 92)
      have m2 := blk_alloc m2 (.cells #[.int .i64 e.1, .int .i64 e.2] 92)
      generalize ((((w3.setCell ⟨w.heap.size, 0, none⟩ (.slice none 0 0)).setCell ⟨w.heap.size + 1, 0, none⟩ (.int .i64 e.1)).setCell ⟨w.heap.size + 1 + 1, 0, none⟩ (.int .i64 e.2)).alloc (.cells #[.int .i64 e.1, .int .i64 e.2] 92)) = U at m0 m1 m2 hBU ⊢
      have k0 := (blk_cell m0 0).trans rfl
      have k1 := (blk_cell m1 0).trans rfl
      have k2 := (blk_cell m2 0).trans rfl
      clear q0 q1 q2 hBW hf3 m0 m1 m2 g0 g1 g2 n01 n02 n12
      simp [Leaves, settle, results, Tryz.results47, go_sem, k0, k1, k2]
      rw [E.out]
      exact ⟨_, ⟨rfl, rfl, rfl⟩, Kd.R_nil _ _ _ _ _, hBU.drew⟩
    | ok r =>
      obtain ⟨n, q⟩ := r
      rw [hp] at HT
      replace HT := Aside0.mk HT
      refine HT.out.mono ?_
      rintro _ w3 ⟨rfl, hs3, hf3⟩
      have g0 := (hf3.block w.heap.size (by have := blk_lt q0.out; omega) (by omega) (by omega) (fun h => by omega)).trans q0.out
      have g1 := (hf3.block (w.heap.size + 1) (by have := blk_lt q1.out; omega) (by omega) (by omega) (fun h => by omega)).trans q1.out
      have g2 := (hf3.block (w.heap.size + 1 + 1) (by have := blk_lt q2.out; omega) (by omega) (by omega) (fun h => by omega)).trans q2.out
      have hB3 : Below w.heap.size w w3 := hBW.out.trans ⟨hf3.os, hf3.tape, hf3.output, hf3.size, fun k hk => hf3.block k (by omega) (by omega) (by omega) (fun h => by omega)⟩
      obtain ⟨gt, off, ln, cc, xx, yy, d0, dc, d1, d2, d3, d4, d5, dsz, _, dR, dg⟩ := hs3.tok
      have s0 := blk_lt g2
      replace g0 := Aside0.mk g0
      replace g1 := Aside0.mk g1
      replace g2 := Aside0.mk g2
      replace hB3 := Aside0.mk hB3
      by_cases h3 : q.tok.f0 = 3
      · have E : Aside0 (parseSpec s = (q.nodes, 0, 0)) := ⟨by unfold parseSpec; rw [hsp]; simp only; rw [if_neg (by simp), hp]; simp only; rw [if_neg (by simp [h3])]⟩
        have hb : (q.tok.f0 != 3) = false := by simp [h3]
        obtain ⟨g', off', c', nv, m, D, hx⟩ := hs3
        have hnod := hx.nodes
        obtain ⟨An, cn, rfl, _, _⟩ := Kd.R_reads hnod
        have r1 : w3.cell? ⟨w1.heap.size + 1, 1, none⟩ = some (.slice An q.nodes.length cn) := blk_cell hx.blk 1
        clear d4 d5
        replace hnod := Aside0.mk hnod
        replace h3 := Aside0.mk h3
        clear hx
        have k0 := (blk_cell g0.out 0).trans rfl
        have k1 := (blk_cell g1.out 0).trans rfl
        have k2 := (blk_cell g2.out 0).trans rfl
        have f0 := blk_frozen g0.out 0
        have f1 := blk_frozen g1.out 0
        have f2 := blk_frozen g2.out 0
        have n01 : w.heap.size ≠ w.heap.size + 1 := by omega
        have n02 : w.heap.size ≠ w.heap.size + 1 + 1 := by omega
        have n12 : w.heap.size + 1 ≠ w.heap.size + 1 + 1 := by omega
        go_wp2_with (fail)
        refine leaves_cons (f := 58) (args := #[.pointer (some ⟨w.heap.size, 0, none⟩), .pointer (some ⟨w.heap.size + 1, 0, none⟩), .pointer (some ⟨w.heap.size + 1 + 1, 0, none⟩)]) (by simp) (by simp [go_sem]) ?_
        refine (parsed1_idle _ _ _ _).mono ?_
        rintro e' u' w4 ⟨rfl, rfl, rfl⟩
        obtain ⟨m0, m1, m2⟩ := set3 g0.out g1.out g2.out n01 n02 n12 (.slice An q.nodes.length cn) (.int .i64 0) (.int .i64 0) rfl
        have hBU := ((hB3.out.setCell (p := ⟨w.heap.size, 0, none⟩) (by simp) (.slice An q.nodes.length cn)).setCell (p := ⟨w.heap.size + 1, 0, none⟩) (by simp) (.int .i64 0)).setCell (p := ⟨w.heap.size + 1 + 1, 0, none⟩) (by simp <;> omega) (.int .i64 0)
        have hN1 := Kd.R_lower (Kd.R_far (p := ⟨w.heap.size + 1 + 1, 0, none⟩) (Kd.R_far (p := ⟨w.heap.size + 1, 0, none⟩) (Kd.R_far (p := ⟨w.heap.size, 0, none⟩) (Kd.R_mono (Kd.R_bound hnod.out) (fun k hk => (⟨by have := hk.2.1; omega, by have := hk.2.1; omega, by have := hk.2.1; omega⟩ : k ≠ w.heap.size ∧ k ≠ w.heap.size + 1 ∧ k ≠ w.heap.size + 1 + 1))) (fun k hk => hk.1) (.slice An q.nodes.length cn)) (fun k hk => hk.2.1) (.int .i64 0)) (fun k hk => hk.2.2) (.int .i64 0)) (by omega : w.heap.size ≤ w1.heap.size)
        have hN := Aside0.mk (Kd.R_mono hN1 (fun k _ => (trivial : (fun _ => True) k)))
        clear hN1
        generalize ((w3.setCell ⟨w.heap.size, 0, none⟩ (.slice An q.nodes.length cn)).setCell ⟨w.heap.size + 1, 0, none⟩ (.int .i64 0)).setCell ⟨w.heap.size + 1 + 1, 0, none⟩ (.int .i64 0) = U at m0 m1 m2 hBU hN ⊢
        have k0 := (blk_cell m0 0).trans rfl
        have k1 := (blk_cell m1 0).trans rfl
        have k2 := (blk_cell m2 0).trans rfl
        replace hBU := Aside0.mk hBU
        clear q0 q1 q2 hBW hf3 m0 m1 m2 g0 g1 g2 n01 n02 n12
        simp [Leaves, settle, results, Tryz.results47, go_sem, k0, k1, k2]
        rw [E.out]
        exact ⟨_, ⟨rfl, rfl, rfl⟩, hN.out, hBU.out⟩
      · have E : Aside0 (parseSpec s = ([], q.tok.f2, 4)) := ⟨by unfold parseSpec; rw [hsp]; simp only; rw [if_neg (by simp), hp]; simp only; rw [if_pos h3]⟩
        have hb : (q.tok.f0 != 3) = true := by simp [h3]
        have HF := Aside0.mk (fail_calls hs3 4)
        replace h3 := Aside0.mk h3
        clear hs3
        go_wp2_with (go_at_call 60; refine HF.out.mono ?_; rintro _ w4 ⟨rfl, hd4⟩)
        have g0 := (hd4.below.block _ (by omega)).trans g0.out
        have g1 := (hd4.below.block _ (by omega)).trans g1.out
        have g2 := (hd4.below.block _ (by omega)).trans g2.out
        have hB3 := hB3.out.trans (hd4.below.mono (by omega))
        have s0 := blk_lt g2
        have n01 : w.heap.size ≠ w.heap.size + 1 := by omega
        have n02 : w.heap.size ≠ w.heap.size + 1 + 1 := by omega
        have n12 : w.heap.size + 1 ≠ w.heap.size + 1 + 1 := by omega
        generalize q.tok.f2 = ea at *
        refine leaves_cons (f := 58) (args := #[.pointer (some ⟨w.heap.size, 0, none⟩), .pointer (some ⟨w.heap.size + 1, 0, none⟩), .pointer (some ⟨w.heap.size + 1 + 1, 0, none⟩)]) (by simp) (by simp [go_sem]) ?_
        refine (parsed1_stop w.heap.size (w.heap.size + 1) (w.heap.size + 1 + 1) _ _ _ ea 4 w4 g0 g1 g2).mono ?_
        rintro e' u' w4 ⟨rfl, rfl, rfl⟩
        obtain ⟨m0, m1, m2⟩ := set3 g0 g1 g2 n01 n02 n12 (.slice none 0 0) (.int .i64 ea) (.int .i64 4) rfl
        have hBU := ((((hB3.setCell (p := ⟨w.heap.size, 0, none⟩) (by simp) (.slice none 0 0)).setCell (p := ⟨w.heap.size + 1, 0, none⟩) (by simp) (.int .i64 ea)).setCell (p := ⟨w.heap.size + 1 + 1, 0, none⟩) (by simp <;> omega) (.int .i64 4)).alloc (by simp; omega) (.cells #[.int .i64 ea, .int .i64 4] 92))
        have m0 := blk_alloc m0 (.cells #[.int .i64 ea, .int .i64 4] 92)
        have m1 := blk_alloc m1 (.cells #[.int .i64 ea, .int .i64 4] 92)
        have m2 := blk_alloc m2 (.cells #[.int .i64 ea, .int .i64 4] 92)
        generalize ((((w4.setCell ⟨w.heap.size, 0, none⟩ (.slice none 0 0)).setCell ⟨w.heap.size + 1, 0, none⟩ (.int .i64 ea)).setCell ⟨w.heap.size + 1 + 1, 0, none⟩ (.int .i64 4)).alloc (.cells #[.int .i64 ea, .int .i64 4] 92)) = U at m0 m1 m2 hBU ⊢
        have k0 := (blk_cell m0 0).trans rfl
        have k1 := (blk_cell m1 0).trans rfl
        have k2 := (blk_cell m2 0).trans rfl
        clear q0 q1 q2 hBW hf3 m0 m1 m2 g0 g1 g2 n01 n02 n12
        simp [Leaves, settle, results, Tryz.results47, go_sem, k0, k1, k2]
        rw [E.out]
        exact ⟨_, ⟨rfl, rfl, rfl⟩, Kd.R_nil _ _ _ _ _, hBU.drew⟩
  · have E : Aside0 (parseSpec s = ([], a, y)) := ⟨by unfold parseSpec; rw [hsp]; simp [hy]⟩
    have hb : (y != 0) = true := by simp [hy]
    rw [hsp] at HW
    go_enter_defers Tryz.func47, Tryz.ntmps47
    go_wp2_with (fail)
    have h3 := three w (.cells #[.slice none 0 0] 54) (.cells #[.int .i64 0] 3) (.cells #[.int .i64 0] 67)
    simp only at h3
    obtain ⟨b0, b1, b2, bs, bB⟩ := h3
    generalize ((w.alloc (.cells #[.slice none 0 0] 54)).alloc (.cells #[.int .i64 0] 3)).alloc (.cells #[.int .i64 0] 67) = wT at b0 b1 b2 bs bB ⊢
    refine (HW.out _).mono ?_
    rintro e w1 ⟨v, rfl, hR, hB⟩
    have d0 := (hB.block _ (by omega)).trans b0
    have d1 := (hB.block _ (by omega)).trans b1
    have d2 := (hB.block _ (by omega)).trans b2
    have c0 := (blk_cell d0 0).trans rfl
    have c1 := (blk_cell d1 0).trans rfl
    have c2 := (blk_cell d2 0).trans rfl
    have f0 := blk_frozen d0 0
    have f1 := blk_frozen d1 0
    have f2 := blk_frozen d2 0
    have hB1 : Aside0 (Below w.heap.size w w1) := ⟨bB.trans (hB.mono (by omega))⟩
    have hsz := blk_lt d2
    clear b0 b1 b2 bs bB hR hB d0 d1 d2
    go_wp2_with (fail)
    go_region
    all_goals go_wp2_with (fail)
    all_goals simp [bodyPostD, Leaves, settle, results, Tryz.results47, go_sem, c0, c1, c2]
    all_goals rw [E.out]
    all_goals exact ⟨_, ⟨rfl, rfl, rfl⟩, Kd.R_nil _ _ _ _ _, ((((hB1.out.setCell (by simp) _).setCell (by simp) _).setCell (by simp) _).setCell (by simp <;> omega) _).drew⟩
end Go.Proofs.YtkafikdjhiienaaGreatDoor
