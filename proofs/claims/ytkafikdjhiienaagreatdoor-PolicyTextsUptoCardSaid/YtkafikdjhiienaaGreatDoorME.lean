/- Which schema reads which: the relation and its contracts. -/
import Derived.Test.YtkafikdjhiienaaGreatDoorMG
import Derived.Test.YtkafikdjhiienaaGreatDoorMA
import Derived.Test.YtkafikdjhiienaaGreatDoorMB
import Derived.Maps.OwnOps
import Derived.Maps.OwnSet
import Derived.Maps.Views
import Derived.DeepKeys4
import Derived.Test.YtkafikdjhiienaaGreatDoorMC
import Derived.BigQuiet
import Derived.Deep.QuietTactic
import Derived.BigRegion
import Derived.Deep.RegionHeld3
set_option linter.unusedVariables false
set_option linter.unusedSimpArgs false
/- resspec -/
namespace Go.Proofs.YtkafikdjhiienaaGreatDoor
open Go.RowKit Go.Proofs.YtkafikdjhiienaaGreatDoorW.PrintWords

def promotesB (r w : Int) : Bool :=
  if r < 0 ∨ w < 0 ∨ 5 < r ∨ 5 < w then false else if r = w ∨ r = 3 ∧ w = 2 then true else decide (4 ≤ r) && decide (4 ≤ w)
abbrev Pairs := List (Int × Int)
def readsB (N : Pairs) (r k : Int) : Bool := !N.contains (r, k)
section
variable (rdB : Int → Int → Bool)
/-- One field of the reader's. -/
def fieldB (l : List Fld) (f : Fld) : Bool :=
  !((decide (findI (fun g : Fld => decide (g.f0 = f.f0)) l < 0) && !f.f1) || (decide (0 ≤ findI (fun g : Fld => decide (g.f0 = f.f0)) l) && !rdB f.f2 (PPolicyHolds.rd_T155 l (findI (fun g : Fld => decide (g.f0 = f.f0)) l)).f2))
def fieldsB (a b : Nod) : Bool := a.f5.all (fieldB rdB b.f5)
def holdsB (a b : Nod) (r k : Int) : Bool :=
  if b.f0 = 8 then !(b.f4.any fun j => !rdB r j)
  else if a.f0 = 8 then a.f4.any fun j => rdB j k
  else if a.f0 ≠ b.f0 then promotesB a.f0 b.f0
  else if a.f0 = 6 ∨ a.f0 = 7 then rdB (rd a.f4 0) (rd b.f4 0)
  else if a.f0 = 9 then decide (a.f1 = b.f1) && !(b.f3.any fun s => !Lib.containsS a.f3 s)
  else if a.f0 = 10 then decide (a.f1 = b.f1) && decide (a.f2 = b.f2)
  else if a.f0 = 11 then decide (a.f1 = b.f1) && fieldsB rdB a b
  else true
end
/-- One pair: struck out, if it may not stay. -/
def stepR (o1 o2 : List Nod) (i k : Nat) (st : Pairs × Bool) : Pairs × Bool :=
  if readsB st.1 i k = true ∧ holdsB (readsB st.1) (PPolicyHolds.rd_T110 o1 i) (PPolicyHolds.rd_T110 o2 k) i k = false then (st.1 ++ [((i : Int), (k : Int))], true) else st
/-- m rounds more, from k on. -/
def rowR (o1 o2 : List Nod) (i : Nat) : Nat → Nat → Pairs × Bool → Pairs × Bool
  | 0, _, st => st
  | m + 1, k, st => rowR o1 o2 i m (k + 1) (stepR o1 o2 i k st)
def sweepR (o1 o2 : List Nod) : Nat → Nat → Pairs × Bool → Pairs × Bool
  | 0, _, st => st
  | m + 1, i, st => sweepR o1 o2 m (i + 1) (rowR o1 o2 i o2.length 0 st)
def relR (o1 o2 : List Nod) : Nat → Pairs → Pairs
  | 0, N => N
  | f + 1, N => let st := sweepR o1 o2 o1.length 0 (N, false); if st.2 = true then relR o1 o2 f st.1 else st.1
def relOf (o1 o2 : List Nod) : Pairs := relR o1 o2 (o1.length * o2.length + 1) []
def canB (o1 o2 : List Nod) : Bool := (showSpec o1).isSome && (showSpec o2).isSome && readsB (relOf o1 o2) 0 0

/-- Pairs of a grid, each once. -/
structure Grid (n m : Nat) (N : Pairs) : Prop where
  nodup : N.Nodup
  sub : ∀ p ∈ N, 0 ≤ p.1 ∧ p.1 < (n : Int) ∧ 0 ≤ p.2 ∧ p.2 < (m : Int)
theorem nodup_lt : ∀ (b : Nat) (l : List Nat), l.Nodup → (∀ x ∈ l, x < b) → l.length ≤ b
  | 0, l, _, h => by
    cases l with
    | nil => simp
    | cons x r => exact absurd (h x (List.mem_cons_self ..)) (by omega)
  | b + 1, l, hn, h => by
    have h1 := nodup_lt b (l.erase b) (hn.erase b) (fun x hx => by
      have h2 := h x (List.mem_of_mem_erase hx)
      have h3 : x ≠ b := by
        rintro rfl
        exact (List.Nodup.not_mem_erase hn) hx
      omega)
    by_cases hb : b ∈ l
    · rw [List.length_erase_of_mem hb] at h1
      omega
    · rw [List.erase_of_not_mem hb] at h1
      omega
theorem Grid.le {n m : Nat} {N : Pairs} (h : Grid n m N) : N.length ≤ n * m := by
  have h1 := nodup_lt (n * m) (N.map fun p => p.1.toNat * m + p.2.toNat) (by
    rw [List.Nodup, List.pairwise_map]
    refine List.Pairwise.imp_of_mem ?_ h.nodup
    intro p q hp hq hne e
    obtain ⟨p1, p2, p3, p4⟩ := h.sub p hp
    obtain ⟨q1, q2, q3, q4⟩ := h.sub q hq
    apply hne
    have e1 : p.1.toNat = q.1.toNat := by
      rcases Nat.lt_trichotomy p.1.toNat q.1.toNat with hlt | heq | hgt
      · have := Nat.mul_le_mul_right m (Nat.succ_le_of_lt hlt)
        rw [Nat.succ_mul] at this
        omega
      · exact heq
      · have := Nat.mul_le_mul_right m (Nat.succ_le_of_lt hgt)
        rw [Nat.succ_mul] at this
        omega
    have e2 : p.2.toNat = q.2.toNat := by rw [e1] at e; omega
    ext <;> omega) (fun x hx => by
    obtain ⟨p, hp, rfl⟩ := List.mem_map.1 hx
    obtain ⟨p1, p2, p3, p4⟩ := h.sub p hp
    have := Nat.mul_le_mul_right m (Nat.succ_le_of_lt (by omega : p.1.toNat < n))
    rw [Nat.succ_mul] at this
    omega)
  simpa using h1
theorem Grid.step {n m : Nat} {o1 o2 : List Nod} {i k : Nat} {st : Pairs × Bool} (h : Grid n m st.1) (hi : i < n) (hk : k < m) : Grid n m (stepR o1 o2 i k st).1 := by
  unfold stepR
  split
  · rename_i hc
    refine ⟨?_, fun p hp => ?_⟩
    · rw [List.nodup_append]
      refine ⟨h.nodup, by simp, fun a ha b hb => ?_⟩
      rw [List.mem_singleton.1 hb]
      rintro rfl
      have := hc.1
      simp [readsB, ha] at this
    · rcases List.mem_append.1 hp with hp | hp
      · exact h.sub p hp
      · rw [List.mem_singleton.1 hp]; simp only; omega
  · exact h
theorem step_le (o1 o2 : List Nod) (i k : Nat) (st : Pairs × Bool) : st.1.length ≤ (stepR o1 o2 i k st).1.length ∧ ((stepR o1 o2 i k st).2 = true → st.2 = true ∨ st.1.length < (stepR o1 o2 i k st).1.length) := by
  unfold stepR
  split
  · simp
  · exact ⟨Nat.le_refl _, fun h => .inl h⟩
theorem row_good (o1 o2 : List Nod) (i : Nat) {n : Nat} (hi : i < n) : ∀ (m k : Nat) (st : Pairs × Bool), k + m ≤ o2.length → Grid n o2.length st.1 → Grid n o2.length (rowR o1 o2 i m k st).1 ∧ st.1.length ≤ (rowR o1 o2 i m k st).1.length ∧ ((rowR o1 o2 i m k st).2 = true → st.2 = true ∨ st.1.length < (rowR o1 o2 i m k st).1.length)
  | 0, _, st, _, h => ⟨h, Nat.le_refl _, fun h => .inl h⟩
  | m + 1, k, st, hk, h => by
    have s1 := h.step (o1 := o1) (o2 := o2) hi (by omega : k < o2.length)
    obtain ⟨a, b, c⟩ := row_good o1 o2 i hi m (k + 1) _ (by omega) s1
    obtain ⟨d, e⟩ := step_le o1 o2 i k st
    refine ⟨a, Nat.le_trans d b, fun h => ?_⟩
    rcases c h with h | h
    · rcases e h with h | h
      · exact .inl h
      · exact .inr (Nat.lt_of_lt_of_le h b)
    · exact .inr (Nat.lt_of_le_of_lt d h)
theorem sweep_good (o1 o2 : List Nod) {n : Nat} : ∀ (m i : Nat) (st : Pairs × Bool), i + m ≤ n → Grid n o2.length st.1 → Grid n o2.length (sweepR o1 o2 m i st).1 ∧ st.1.length ≤ (sweepR o1 o2 m i st).1.length ∧ ((sweepR o1 o2 m i st).2 = true → st.2 = true ∨ st.1.length < (sweepR o1 o2 m i st).1.length)
  | 0, _, st, _, h => ⟨h, Nat.le_refl _, fun h => .inl h⟩
  | m + 1, i, st, hi, h => by
    obtain ⟨s1, s2, s3⟩ := row_good o1 o2 i (by omega : i < n) o2.length 0 st (by omega) h
    obtain ⟨a, b, c⟩ := sweep_good o1 o2 m (i + 1) _ (by omega) s1
    refine ⟨a, Nat.le_trans s2 b, fun h => ?_⟩
    rcases c h with h | h
    · rcases s3 h with h | h
      · exact .inl h
      · exact .inr (Nat.lt_of_lt_of_le h b)
    · exact .inr (Nat.lt_of_le_of_lt s2 h)
/-- A schema that can be read: what the parser's nodes are like, and there is one. -/
structure SchemaOk (o : List Nod) : Prop where
  good : ∀ x ∈ o, GN o.length x ∧ Whole x
  len : o.length ≤ 200
  nods : NodsOk 20000000 o
theorem parse_schema (s : ByteArray) (h : (parseSpec s).2.2 = 0) (hw : (wordsSpec s).2.2 = 0 → Good (wordsSpec s).1) : SchemaOk (parseSpec s).1 := ⟨(parse_good s h hw).1, (parse_good s h hw).2, parse_nods s h hw⟩
theorem SchemaOk.nil : SchemaOk [] := ⟨by simp, by simp, ⟨by simp, by simp, by decide, by simp⟩⟩
theorem rd_mem {o : List Nod} {i : Int} (h0 : 0 ≤ i) (h1 : i < (o.length : Int)) : PPolicyHolds.rd_T110 o i ∈ o := getD_mem o i h0 h1
end Go.Proofs.YtkafikdjhiienaaGreatDoor

/- res1 -/
namespace Go.Proofs.YtkafikdjhiienaaGreatDoor
open Go.RowKit Go.Proofs.YtkafikdjhiienaaGreatDoorW.PrintWords

theorem laidOut' : laidOutB Tryz.prog = true := by kernel_rfl
theorem rowPair : (153 : TypeId) < Tryz.prog.types.size := of_decide_eq_true (by kernel_rfl)
theorem widePair : (match Tryz.prog.underlying 153 with | some (.array _ _) | some (.struct _) => true | _ => false) = true := by kernel_rfl
set_option maxRecDepth 100000 in
theorem lawPair : WideMaps.KeyLaw Tryz.prog 153 := deep_law_laid laidOut' (m := 2) (by omega) rowPair (by kernel_rfl) widePair
theorem keyedPair : Maps.Keyed Tryz.prog 153 := Maps.Keyed.of_law lawPair
theorem keyTypePair : Tryz.prog.keyType 153 = true := by kernel_rfl
theorem cellsPair : Tryz.prog.cellsOf 153 = 2 := by kernel_rfl
theorem cellsInt : Tryz.prog.cellsOf 3 = 1 := by kernel_rfl
def pairKey (r k : Int) : Lit := .string (keyBytes [.int .i64 r, .int .i64 k])
abbrev pairV (r k : Int) : Value := .agg #[.int .i64 r, .int .i64 k]
theorem sizeTypes : ∃ n, Tryz.prog.types.size + 1 = n + 2 := ⟨Tryz.prog.types.size - 1, by have : 0 < Tryz.prog.types.size := Nat.lt_of_le_of_lt (Nat.zero_le _) rowPair; omega⟩
set_option maxRecDepth 100000 in
theorem keyOf_pair {r k : Int} (hr : (Lit.int .i64 r).wf = true) (hk : (Lit.int .i64 k).wf = true) : keyOf Tryz.prog 153 (pairV r k) = some (pairKey r k) := by
  obtain ⟨n, hn⟩ := sizeTypes
  have hu := Tryz.underlying153
  have hi := Tryz.underlying3
  unfold keyOf
  rw [hu]
  simp only [keyTypePair, Bool.true_and]
  have hf : (pairV r k).formed Tryz.prog 153 = true := by simp [Value.formed, hu, cellsPair]
  rw [if_pos hf, hn]
  simp [Program.keyLits, hu, hi, cellsPair, cellsInt, Value.cells, hr, hk, pairKey]
theorem pairKey_inj {r k r' k' : Int} (hr : (Lit.int .i64 r).wf = true) (hk : (Lit.int .i64 k).wf = true) (hr' : (Lit.int .i64 r').wf = true) (hk' : (Lit.int .i64 k').wf = true) (h : pairKey r k = pairKey r' k') : r = r' ∧ k = k' := by
  have := keyedPair.inj (keyOf_pair hr hk) (by rw [h]; exact keyOf_pair hr' hk')
  simp only [pairV, Value.agg.injEq, Array.mk.injEq, List.cons.injEq, Value.int.injEq, true_and, and_true] at this
  exact this
theorem wf_small {r : Int} (h0 : 0 ≤ r) (h1 : r < 9223372036854775808) : (Lit.int .i64 r).wf = true := by
  simp [Lit.wf, IntKind.min, IntKind.max, IntKind.bits, IntKind.signed]; omega
theorem plainElem_bool_inv {P : Program} {e : TypeId} (he : P.underlying e = some .bool) {v : Value} {z : DataW Unit × List MemPlace} (h : plainElem P e v = some z) : ∃ b, v = .bool b ∧ z = (.lit (.bool b), []) := by
  unfold plainElem at h
  rw [he] at h
  cases v <;> simp at h
  exact ⟨_, rfl, h.symm⟩
theorem zeroBool (w : World) : (zeroValue 4).run Tryz.prog w = .ok (.bool false) w := by kernel_rfl

/-- The map in block Mb: the pairs N are struck out. -/
def NotIs (w : World) (Mb m : Nat) (N : Pairs) : Prop :=
  ∃ D, w.ownsMap Tryz.prog 153 (plainElem (H := Unit) Tryz.prog 4) Mb m D ∧ Maps.IsMap D ∧
    ∀ r k : Int, (Lit.int .i64 r).wf = true → (Lit.int .i64 k).wf = true → ∀ z, D.atKey (pairKey r k) z = if N.contains (r, k) = true then .lit (.bool true) else z
theorem NotIs.look {w : World} {Mb m : Nat} {N : Pairs} (h : NotIs w Mb m N) {r k : Int} (hr : (Lit.int .i64 r).wf = true) (hk : (Lit.int .i64 k).wf = true) :
    (Instr.lookup 149 (.map (some Mb)) (pairV r k) false).run Tryz.prog w = .ok (.bool (N.contains (r, k))) w := by
  obtain ⟨D, hown, _, hat⟩ := h
  obtain ⟨v, ps, hrun, hv⟩ := hown.lookup keyedPair Tryz.underlying149 (zeroBool w) (plainElem_bool Tryz.underlying4 false) (keyOf_pair hr hk)
  obtain ⟨b, rfl, hz⟩ := plainElem_bool_inv Tryz.underlying4 hv
  have e := congrArg Prod.fst hz
  simp only at e
  rw [hat r k hr hk] at e
  rw [hrun]
  cases hc : N.contains (r, k) <;> rw [hc] at e <;> simp at e <;> rw [e]
theorem NotIs.below {w w' : World} {Mb m : Nat} {N : Pairs} (h : NotIs w Mb m N) (hb : Below w.heap.size w w') : NotIs w' Mb m N := by
  obtain ⟨D, hown, hD⟩ := h
  exact ⟨D, hown.kept (grown_of_below hb none) (by simp), hD⟩
theorem NotIs.made (w : World) : NotIs (w.alloc (.map #[] 0)) w.heap.size 0 [] := ⟨.map [], World.ownsMap_made _ _ _ _, Maps.isMap_empty, fun _ _ _ _ _ => rfl⟩

/-- The relation in block X. -/
structure RelIs (w : World) (X Mb m : Nat) (A1 : Option Addr) (c1 : Nat) (o1 : List Nod) (A2 : Option Addr) (c2 : Nat) (o2 : List Nod) (N : Pairs) : Prop where
  blk : w.heap[X]? = some (.cells #[.slice A1 o1.length c1, .slice A2 o2.length c2, .map (some Mb)] 151 (0, 0))
  r1 : kNod.C w A1 o1.length o1
  r2 : kNod.C w A2 o2.length o2
  map : NotIs w Mb m N
theorem RelIs.below {w w' : World} {X Mb m c1 c2 : Nat} {A1 A2 : Option Addr} {o1 o2 : List Nod} {N : Pairs} (h : RelIs w X Mb m A1 c1 o1 A2 c2 o2 N) (hb : Below w.heap.size w w') : RelIs w' X Mb m A1 c1 o1 A2 c2 o2 N :=
  ⟨(hb.block X (blk_lt h.blk)).trans h.blk, Kd.C_below h.r1 hb, Kd.C_below h.r2 hb, h.map.below hb⟩

set_option maxRecDepth 100000 in
set_option maxHeartbeats 1000000 in
theorem reads_calls {w : World} {X Mb m c1 c2 : Nat} {A1 A2 : Option Addr} {o1 o2 : List Nod} {N : Pairs} (h : RelIs w X Mb m A1 c1 o1 A2 c2 o2 N) {r k : Int} (hr : (Lit.int .i64 r).wf = true) (hk : (Lit.int .i64 k).wf = true) :
    Calls Tryz.prog 88 #[.pointer (some ⟨X, 0, none⟩), .int .i64 r, .int .i64 k] w fun e w' => e = .returned (.bool (readsB N r k)) ∧ w = w' := by
  have hl := h.map.look hr hk
  have c2' : w.cell? ⟨X, 2, none⟩ = some (.map (some Mb)) := blk_cell h.blk 2
  have hbl := blk_lt h.blk
  have E := Aside0.mk (show readsB N r k = !N.contains (r, k) from rfl)
  generalize readsB N r k = b at E ⊢
  generalize N.contains (r, k) = q at hl E
  clear h hr hk
  go_enter Tryz.func88, Tryz.ntmps88
  go_wp2_with (fail)
  go_ret
  exact ⟨by rw [E.out]; rfl, rfl⟩

set_option maxHeartbeats 1000000 in
theorem promotes_calls (r k : Int) (w : World) : Calls Tryz.prog 145 #[.int .i64 r, .int .i64 k] w fun e w' => e = .returned (.bool (promotesB r k)) ∧ Below w.heap.size w w' := by
  generalize hE : promotesB r k = b
  unfold promotesB at hE
  replace hE := Aside0.mk hE
  go_enter Tryz.func145, Tryz.ntmps145
  go_wp2_with (fail)
  all_goals go_ret
  all_goals refine ⟨?_, Below.refl _ _⟩
  all_goals rw [← hE.out]
  all_goals refine congrArg Ending.returned (congrArg Value.bool ?_)
  all_goals (try (have q1 : r = k := by simpa using ‹(r == k) = true›))
  all_goals (try (have q1 : ¬ r = k := by simpa using ‹(r == k) = false›))
  all_goals (try (have q2 : k = 2 := by simpa using ‹(k == 2) = true›))
  all_goals (try (have q2 : ¬ k = 2 := by simpa using ‹(k == 2) = false›))
  all_goals (try (have q3 : r = 3 := by assumption))
  all_goals (try subst q3)
  all_goals clear hE
  all_goals (split <;> first | rfl | (exfalso; omega) | skip)
  all_goals (split <;> first | rfl | (exfalso; omega) | skip)
  all_goals (try (simp; done))
  all_goals (try (simp; omega))

/-! Where a function of texts first says yes. -/
set_option maxRecDepth 100000 in
set_option maxHeartbeats 1000000 in
theorem idxFunc_str (gf : Nat) (cap : Array Value) (q : ByteArray → Bool) (l : List ByteArray) (A : Option Addr) (c : Nat) (w : World) (hC : Kd.string.C w A l.length l)
    (hcall : ∀ (w : World) (x : ByteArray), (callFunc gf (#[.string x] ++ cap)).run Tryz.prog w = .ok (.enter gf (#[.string x] ++ cap)) w)
    (hq : ∀ (W : World) (x : ByteArray), Below w.heap.size w W → x ∈ l → Calls Tryz.prog gf (#[.string x] ++ cap) W fun e w' => e = .returned (.bool (q x)) ∧ Below W.heap.size W w') :
    Calls Tryz.prog 154 #[.slice A l.length c, .func (.func gf) #[] cap] w fun e w' => e = .returned (.int .i64 (findI q l)) ∧ Below w.heap.size w w' := by
  have HQ := Aside0.mk hq
  have HC := Aside0.mk hC
  have hmax := Kd.C_max hC
  clear hq hC
  go_enter Tryz.func154, Tryz.ntmps154
  go_wp2
  go_loopw [8] (fun v wr => ∃ k : Nat, v = .int .i64 k ∧ k ≤ l.length ∧ Aside0 ((l.take k).any q = false) ∧ Aside0 (Below w.heap.size w wr)) (fun v _ => l.length - (intOf v).toNat)
  case atStart => exact ⟨0, rfl, Nat.zero_le _, ⟨by simp⟩, ⟨Below.refl _ _⟩⟩
  case round =>
    obtain ⟨k, rfl, hk, ha, hb⟩ := hrel
    by_cases hlt : k < l.length
    · obtain ⟨b, off, rfl, hbl, hc⟩ := C_strings (Kd.C_below HC.out hb.out) (by omega)
      have hcell := hc k hlt
      have hx : Aside0 (l[k]? = some (l.getD k ByteArray.empty)) := ⟨by simp [List.getD_eq_getElem?_getD, List.getElem?_eq_getElem hlt]⟩
      have hm : Aside0 (l.getD k ByteArray.empty ∈ l) := ⟨List.mem_of_getElem? hx.out⟩
      clear hc
      generalize l.getD k ByteArray.empty = x at hcell hx hm
      cases hqx : q x with
      | true =>
        have HQ2 : Aside0 (Calls Tryz.prog gf (#[.string x] ++ cap) wr fun e w' => e = .returned (.bool true) ∧ Below wr.heap.size wr w') := ⟨by have := HQ.out wr _ hb.out hm.out; rw [hqx] at this; exact this⟩
        have E := Aside0.mk (findI_hit q l k _ hx.out ha.out hqx)
        clear hqx
        go_wp2_with (refine HQ2.out.mono ?_; rintro e w1 ⟨rfl, hb1⟩)
        go_ret
        exact ⟨by rw [E.out]; rfl, below_of hb.out hb1⟩
      | false =>
        have HQ2 : Aside0 (Calls Tryz.prog gf (#[.string x] ++ cap) wr fun e w' => e = .returned (.bool false) ∧ Below wr.heap.size wr w') := ⟨by have := HQ.out wr _ hb.out hm.out; rw [hqx] at this; exact this⟩
        have E := Aside0.mk (any_take_succ q l k _ hx.out ha.out hqx)
        clear hqx
        go_wp2_with (refine HQ2.out.mono ?_; rintro e w1 ⟨rfl, hb1⟩)
        go_roundw
        case rel => exact ⟨k + 1, by go_num, by omega, E, ⟨below_of hb.out hb1⟩⟩
        case measure => simp [intOf]; omega
    · obtain rfl : k = l.length := by omega
      have E := Aside0.mk (findI_miss q l ha.out)
      go_wp2
      go_ret
      exact ⟨by rw [E.out]; rfl, hb.out⟩
set_option maxHeartbeats 400000 in
theorem contFunc_str (gf : Nat) (cap : Array Value) (q : ByteArray → Bool) (l : List ByteArray) (A : Option Addr) (c : Nat) (w : World) (hC : Kd.string.C w A l.length l)
    (hcall : ∀ (w : World) (x : ByteArray), (callFunc gf (#[.string x] ++ cap)).run Tryz.prog w = .ok (.enter gf (#[.string x] ++ cap)) w)
    (hq : ∀ (W : World) (x : ByteArray), Below w.heap.size w W → x ∈ l → Calls Tryz.prog gf (#[.string x] ++ cap) W fun e w' => e = .returned (.bool (q x)) ∧ Below W.heap.size W w') :
    Calls Tryz.prog 146 #[.slice A l.length c, .func (.func gf) #[] cap] w fun e w' => e = .returned (.bool (l.any q)) ∧ Below w.heap.size w w' := by
  have H := Aside0.mk (idxFunc_str gf cap q l A c w hC hcall hq)
  have E := Aside0.mk (findI_neg q l)
  clear hq hcall hC
  go_enter Tryz.func146, Tryz.ntmps146
  go_wp2_with (go_at_call 154; refine H.out.mono ?_; rintro e w1 ⟨rfl, hb1⟩)
  go_ret
  exact ⟨by rw [← E.out]; rfl, hb1⟩

/-! The closures. -/
def Bnd (r : Int) : Prop := 0 ≤ r ∧ r < 9223372036854775808
theorem Bnd.wf {r : Int} (h : Bnd r) : (Lit.int .i64 r).wf = true := wf_small h.1 h.2
set_option maxHeartbeats 400000 in
theorem holds1_calls {w : World} {X Mb m c1 c2 : Nat} {A1 A2 : Option Addr} {o1 o2 : List Nod} {N : Pairs} (h : RelIs w X Mb m A1 c1 o1 A2 c2 o2 N) {r j : Int} (hr : Bnd r) (hj : Bnd j) (xB rB : Nat) (hx : w.cell? ⟨xB, 0, none⟩ = some (.pointer (some ⟨X, 0, none⟩))) (hr2 : w.cell? ⟨rB, 0, none⟩ = some (.int .i64 r)) :
    Calls Tryz.prog 143 #[.int .i64 j, .pointer (some ⟨xB, 0, none⟩), .pointer (some ⟨rB, 0, none⟩)] w fun e w' => e = .returned (.bool (!readsB N r j)) ∧ Below w.heap.size w w' := by
  have HR := Aside0.mk (reads_calls h hr.wf hj.wf)
  generalize readsB N r j = b at HR ⊢
  clear h hr hj
  go_enter Tryz.func143, Tryz.ntmps143
  go_wp2_with (refine HR.out.mono ?_; rintro _ w1 ⟨rfl, rfl⟩)
  go_ret
  exact ⟨rfl, Below.refl _ _⟩
set_option maxHeartbeats 400000 in
theorem holds2_calls {w : World} {X Mb m c1 c2 : Nat} {A1 A2 : Option Addr} {o1 o2 : List Nod} {N : Pairs} (h : RelIs w X Mb m A1 c1 o1 A2 c2 o2 N) {k j : Int} (hk : Bnd k) (hj : Bnd j) (xB kB : Nat) (hx : w.cell? ⟨xB, 0, none⟩ = some (.pointer (some ⟨X, 0, none⟩))) (hk2 : w.cell? ⟨kB, 0, none⟩ = some (.int .i64 k)) :
    Calls Tryz.prog 144 #[.int .i64 j, .pointer (some ⟨xB, 0, none⟩), .pointer (some ⟨kB, 0, none⟩)] w fun e w' => e = .returned (.bool (readsB N j k)) ∧ Below w.heap.size w w' := by
  have HR := Aside0.mk (reads_calls h hj.wf hk.wf)
  generalize readsB N j k = b at HR ⊢
  clear h hk hj
  go_enter Tryz.func144, Tryz.ntmps144
  go_wp2_with (refine HR.out.mono ?_; rintro _ w1 ⟨rfl, rfl⟩)
  go_ret
  exact ⟨rfl, Below.refl _ _⟩
set_option maxHeartbeats 400000 in
theorem holds3_calls {w : World} (aB : Nat) (A : Option Addr) (c : Nat) (l : List ByteArray) (s : ByteArray) (ha : w.cell? ⟨aB, 3, none⟩ = some (.slice A l.length c)) (hC : Kd.string.C w A l.length l) :
    Calls Tryz.prog 147 #[.string s, .pointer (some ⟨aB, 0, none⟩)] w fun e w' => e = .returned (.bool (!Lib.containsS l s)) ∧ Below w.heap.size w w' := by
  have HR := Aside0.mk (contains_str w A c l s hC)
  generalize Lib.containsS l s = b at HR ⊢
  clear hC
  go_enter Tryz.func147, Tryz.ntmps147
  go_wp2_with (go_at_call 138; refine HR.out.mono ?_; rintro e w1 ⟨rfl, rfl⟩)
  go_ret
  exact ⟨rfl, Below.refl _ _⟩
set_option maxHeartbeats 400000 in
theorem fields1r_calls {w : World} (fB : Nat) (g : Fld) (s : ByteArray) (hf : w.cell? ⟨fB, 0, none⟩ = some (.string s)) :
    Calls Tryz.prog 155 #[encFld g, .pointer (some ⟨fB, 0, none⟩)] w fun e w' => e = .returned (.bool (decide (g.f0 = s))) ∧ Below w.heap.size w w' := by
  have E := Aside0.mk (str_eq g.f0 s)
  have hl : fB < w.heap.size := World.block_lt_of_cell? w ⟨fB, 0, none⟩ hf
  go_enter Tryz.func155, Tryz.ntmps155
  go_wp2
  go_ret
  exact ⟨by rw [← E.out]; rfl, (Below.refl _ _).alloc (Nat.le_refl _) _⟩
end Go.Proofs.YtkafikdjhiienaaGreatDoor

/- res2 -/
namespace Go.Proofs.YtkafikdjhiienaaGreatDoor
open Go.RowKit Go.Proofs.YtkafikdjhiienaaGreatDoorW.PrintWords

theorem findI_range {α : Type} (q : α → Bool) (l : List α) : -1 ≤ findI q l ∧ findI q l < (l.length : Int) := by
  unfold findI
  split
  · rename_i h
    have h1 : l.any q = true := h
    rw [List.any_eq_true] at h1
    obtain ⟨x, hx, hq⟩ := h1
    have := List.findIdx_lt_length_of_exists ⟨x, hx, hq⟩
    omega
  · omega
theorem all_take_succ {α : Type} (q : α → Bool) (l : List α) (k : Nat) (x : α) (hx : l[k]? = some x) (h : (l.take k).all q = true) (hq : q x = true) : (l.take (k + 1)).all q = true := by
  have hk := (List.getElem?_eq_some_iff.1 hx).1
  have e := (List.getElem?_eq_some_iff.1 hx).2
  rw [List.take_succ_eq_append_getElem hk, List.all_append, h, e]
  simp [hq]
theorem all_false {α : Type} (q : α → Bool) (l : List α) (k : Nat) (x : α) (hx : l[k]? = some x) (hq : q x = false) : l.all q = false := by
  rw [List.all_eq_false]
  exact ⟨x, List.mem_of_getElem? hx, by simp [hq]⟩

set_option maxRecDepth 100000 in
set_option maxHeartbeats 4000000 in
theorem fieldsr_calls {w : World} {X Mb m c1 c2 : Nat} {A1 A2 : Option Addr} {o1 o2 : List Nod} {N : Pairs} (h : RelIs w X Mb m A1 c1 o1 A2 c2 o2 N) (a b : Nod) {n1 n2 : Nat} (ha : GN n1 a) (hb : GN n2 b) (hn : n1 ≤ 1000 ∧ n2 ≤ 1000)
    {A3 A4 A5 B3 B4 B5 : Option Addr} {c3 c4 c5 d3 d4 d5 : Nat} (h5 : kFld.C w A5 a.f5.length a.f5) (g5 : kFld.C w B5 b.f5.length b.f5) :
    Calls Tryz.prog 148 #[.pointer (some ⟨X, 0, none⟩), encNod a A3 A4 A5 c3 c4 c5, encNod b B3 B4 B5 d3 d4 d5] w fun e w' => e = .returned (.bool (fieldsB (readsB N) a b)) ∧ Below w.heap.size w w' := by
  have hA : Below w.heap.size w ((w.alloc (.cells #[.int .i64 a.f0, .string a.f1, .int .i64 a.f2, .slice A3 a.f3.length c3, .slice A4 a.f4.length c4, .slice A5 a.f5.length c5] 110)).alloc (.cells #[.int .i64 b.f0, .string b.f1, .int .i64 b.f2, .slice B3 b.f3.length d3, .slice B4 b.f4.length d4, .slice B5 b.f5.length d5] 110)) := ((Below.refl _ _).alloc (Nat.le_refl _) _).alloc (by simp) _
  have hx0 := two_b w (.cells #[.int .i64 a.f0, .string a.f1, .int .i64 a.f2, .slice A3 a.f3.length c3, .slice A4 a.f4.length c4, .slice A5 a.f5.length c5] 110) (.cells #[.int .i64 b.f0, .string b.f1, .int .i64 b.f2, .slice B3 b.f3.length d3, .slice B4 b.f4.length d4, .slice B5 b.f5.length d5] 110)
  have hx1 := two_a w (.cells #[.int .i64 a.f0, .string a.f1, .int .i64 a.f2, .slice A3 a.f3.length c3, .slice A4 a.f4.length c4, .slice A5 a.f5.length c5] 110) (.cells #[.int .i64 b.f0, .string b.f1, .int .i64 b.f2, .slice B3 b.f3.length d3, .slice B4 b.f4.length d4, .slice B5 b.f5.length d5] 110)
  have hmax := Kd.C_max h5
  replace hA := Aside0.mk hA
  replace hx1 := Aside0.mk hx1
  have b5 := (blk_cell hx0 5).trans rfl
  clear hx0
  replace h := Aside0.mk h
  replace h5 := Aside0.mk h5
  replace g5 := Aside0.mk g5
  replace ha := Aside0.mk ha
  replace hb := Aside0.mk hb
  generalize hspec : fieldsB (readsB N) a b = spec
  unfold fieldsB at hspec
  replace hspec := Aside0.mk hspec
  have hmf : ∀ (fn : Fn) (first cap : Array Value) (w : World), (Instr.makeFunc fn first cap).run Tryz.prog w = .ok (.func fn first cap) w := fun _ _ _ _ => rfl
  go_enter Tryz.func148, Tryz.ntmps148
  go_wp2_with (fail)
  generalize (w.alloc (.cells #[.int .i64 a.f0, .string a.f1, .int .i64 a.f2, .slice A3 a.f3.length c3, .slice A4 a.f4.length c4, .slice A5 a.f5.length c5] 110)).alloc (.cells #[.int .i64 b.f0, .string b.f1, .int .i64 b.f2, .slice B3 b.f3.length d3, .slice B4 b.f4.length d4, .slice B5 b.f5.length d5] 110) = wA at *
  clear b5
  go_loopw [13] (fun v wr => ∃ k : Nat, v = .int .i64 k ∧ k ≤ a.f5.length ∧ Aside0 ((a.f5.take k).all (fieldB (readsB N) b.f5) = true) ∧ Aside0 (Below w.heap.size w wr) ∧ Aside0 (wr.heap[w.heap.size + 1]? = some (.cells #[.int .i64 b.f0, .string b.f1, .int .i64 b.f2, .slice B3 b.f3.length d3, .slice B4 b.f4.length d4, .slice B5 b.f5.length d5] 110 (0, 0)))) (fun v _ => a.f5.length - (intOf v).toNat)
  case atStart => exact ⟨0, rfl, Nat.zero_le _, ⟨by simp⟩, hA, hx1⟩
  case round =>
    obtain ⟨k, rfl, hk, hall, hw, hbx⟩ := hrel
    by_cases hlt : k < a.f5.length
    · obtain ⟨ad, hAe, hcell, hcell1, hcell2⟩ := PPolicyHolds.at_T155 (Kd.C_below h5.out hw.out) k (by omega) (by omega)
      have hx : Aside0 (a.f5[k]? = some (PPolicyHolds.rd_T155 a.f5 k)) := ⟨by simp [PPolicyHolds.rd_T155, List.getD_eq_getElem?_getD, List.getElem?_eq_getElem hlt]⟩
      subst hAe
      rw [Int.toNat_natCast] at hcell hcell1 hcell2
      have hf := ha.out.flds _ (List.mem_of_getElem? hx.out)
      generalize PPolicyHolds.rd_T155 a.f5 k = f at *
      have hfw : Bnd f.f2 := ⟨hf.2.1, by have := hf.2.2; omega⟩
      replace hfw := Aside0.mk hfw
      clear hf
      have hAr : Below wr.heap.size wr (wr.alloc (.cells #[.string f.f0, .bool f.f1, .int .i64 f.f2] 155)) := (Below.refl _ _).alloc (Nat.le_refl _) _
      have hfb : (wr.alloc (.cells #[.string f.f0, .bool f.f1, .int .i64 f.f2] 155)).heap[wr.heap.size]? = some (.cells #[.string f.f0, .bool f.f1, .int .i64 f.f2] 155 (0, 0)) := World.alloc_heap_new _ _
      have hbl := blk_lt hbx.out
      have e5 := (blk_cell hbx.out 5).trans rfl
      have hwa := Aside0.mk (below_of hw.out hAr)
      have HI := Aside0.mk (idxFunc_fld 155 #[.pointer (some ⟨wr.heap.size, 0, none⟩)] (fun g => decide (g.f0 = f.f0)) b.f5 B5 d5 _ (Kd.C_below g5.out hwa.out) (fun _ _ => by go_simp) (fun W g hW _ => fields1r_calls wr.heap.size g f.f0 ((hW.cell (p := ⟨wr.heap.size, 0, none⟩) (by simp)).trans ((blk_cell hfb 0).trans rfl))))
      have hidx := findI_range (fun g : Fld => decide (g.f0 = f.f0)) b.f5
      have E : fieldB (readsB N) b.f5 f = !((decide (findI (fun g : Fld => decide (g.f0 = f.f0)) b.f5 < 0) && !f.f1) || (decide (0 ≤ findI (fun g : Fld => decide (g.f0 = f.f0)) b.f5) && !readsB N f.f2 (PPolicyHolds.rd_T155 b.f5 (findI (fun g : Fld => decide (g.f0 = f.f0)) b.f5)).f2)) := rfl
      generalize findI (fun g : Fld => decide (g.f0 = f.f0)) b.f5 = i at HI hidx E
      replace E := Aside0.mk E
      go_wp2_with (fail)
      refine HI.out.mono ?_
      rintro _ w2 ⟨rfl, hb2⟩
      have hfb2 := (hb2.block _ (blk_lt hfb)).trans hfb
      have hbx2 := Aside0.mk (((hAr.trans (hb2.mono (by simp))).block _ hbl).trans hbx.out)
      have hw2 := Aside0.mk (below_of hwa.out hb2)
      clear hcell hcell1 hcell2 HI hAr hfb hb2 e5
      have q1 : w2.cell? ⟨wr.heap.size, 1, none⟩ = some (.bool f.f1) := blk_cell hfb2 1
      have q2 : w2.cell? ⟨wr.heap.size, 2, none⟩ = some (.int .i64 f.f2) := blk_cell hfb2 2
      have q5 : w2.cell? ⟨w.heap.size + 1, 5, none⟩ = some (.slice B5 b.f5.length d5) := blk_cell hbx2.out 5
      clear hfb2
      by_cases hi : i < 0
      · have t1 : decide (i < 0) = true := decide_eq_true hi
        have t2 : decide (0 ≤ i) = false := decide_eq_false (by omega)
        cases hf1 : f.f1 with
        | true =>
          rw [hf1] at q1
          have E2 : fieldB (readsB N) b.f5 f = true := by rw [E.out, hf1, t2]; simp
          have Ea := Aside0.mk (all_take_succ _ _ k f hx.out hall.out E2)
          replace hf1 := Aside0.mk hf1
          clear E2
          go_wp2_with (fail)
          go_quiet (fail)
          go_wp2_with (fail)
          go_roundw
          case rel => exact ⟨k + 1, by go_num, by omega, Ea, ⟨pw_below_drewN hw2.out _⟩, ⟨hbx2.out⟩⟩
          case measure => simp [intOf]; omega
        | false =>
          rw [hf1] at q1
          have E2 : fieldB (readsB N) b.f5 f = false := by rw [E.out, hf1, t1]; simp
          have Ea : Aside0 (spec = false) := ⟨by rw [← hspec.out]; exact all_false _ _ k f hx.out E2⟩
          replace hf1 := Aside0.mk hf1
          clear E2
          go_wp2_with (fail)
          go_quiet (fail)
          go_wp2_with (fail)
          go_ret
          exact ⟨by rw [Ea.out]; rfl, pw_below_drewN hw2.out _⟩
      · have t1 : decide (i < 0) = false := decide_eq_false hi
        have t2 : decide (0 ≤ i) = true := decide_eq_true (by omega)
        have hi0 : 0 ≤ i := by omega
        obtain ⟨bd, hBe, s0, s1, s2⟩ := PPolicyHolds.at_T155 (Kd.C_below g5.out hw2.out) i hi0 hidx.2
        have hgm : PPolicyHolds.rd_T155 b.f5 i ∈ b.f5 := by
          unfold PPolicyHolds.rd_T155
          rw [List.getD_eq_getElem?_getD, List.getElem?_eq_getElem (by omega : i.toNat < b.f5.length)]
          exact List.getElem_mem _
        have hg := hb.out.flds _ hgm
        have hgw : Bnd (PPolicyHolds.rd_T155 b.f5 i).f2 := ⟨hg.2.1, by have := hg.2.2; omega⟩
        subst hBe
        generalize PPolicyHolds.rd_T155 b.f5 i = g at *
        have HR : Aside0 (∀ n, Calls Tryz.prog 88 #[.pointer (some ⟨X, 0, none⟩), .int .i64 f.f2, .int .i64 g.f2] (w2.drewN n) fun e w' => e = .returned (.bool (readsB N f.f2 g.f2)) ∧ w' = w2.drewN n) := ⟨fun n => (reads_calls (h.out.below (pw_below_drewN hw2.out n)) hfw.out.wf hgw.wf).mono fun e w' ⟨x, y⟩ => ⟨x, y.symm⟩⟩
        clear hg hgm hgw s0 s1
        cases hr : readsB N f.f2 g.f2 with
        | true =>
          rw [hr] at HR
          have E2 : fieldB (readsB N) b.f5 f = true := by rw [E.out, hr, t1]; simp
          have Ea := Aside0.mk (all_take_succ _ _ k f hx.out hall.out E2)
          replace hr := Aside0.mk hr
          clear E2
          go_wp2_with (fail)
          go_quiet ((go_at_call 88; exact Calls.quiet_of_same (HR.out _)))
          go_wp2_with (fail)
          go_roundw
          case rel => exact ⟨k + 1, by go_num, by omega, Ea, ⟨pw_below_drewN hw2.out _⟩, ⟨hbx2.out⟩⟩
          case measure => simp [intOf]; omega
        | false =>
          rw [hr] at HR
          have E2 : fieldB (readsB N) b.f5 f = false := by rw [E.out, hr, t2]; simp
          have Ea : Aside0 (spec = false) := ⟨by rw [← hspec.out]; exact all_false _ _ k f hx.out E2⟩
          replace hr := Aside0.mk hr
          clear E2
          go_wp2_with (fail)
          go_quiet ((go_at_call 88; exact Calls.quiet_of_same (HR.out _)))
          go_wp2_with (fail)
          go_ret
          exact ⟨by rw [Ea.out]; rfl, pw_below_drewN hw2.out _⟩
    · obtain rfl : k = a.f5.length := by omega
      have Ea : Aside0 (spec = true) := ⟨by rw [← hspec.out]; have := hall.out; rwa [List.take_length] at this⟩
      go_wp2_with (fail)
      go_ret
      exact ⟨by rw [Ea.out]; rfl, hw.out⟩
end Go.Proofs.YtkafikdjhiienaaGreatDoor

/- res3 -/
namespace Go.Proofs.YtkafikdjhiienaaGreatDoor
open Go.RowKit Go.Proofs.YtkafikdjhiienaaGreatDoorW.PrintWords

abbrev nodCells (x : Nod) (A3 A4 A5 : Option Addr) (c3 c4 c5 : Nat) : Array Value := #[.int .i64 x.f0, .string x.f1, .int .i64 x.f2, .slice A3 x.f3.length c3, .slice A4 x.f4.length c4, .slice A5 x.f5.length c5]

/-- .. of two nodes of one kind, none a union. -/
def holdsB' (rdB : Int → Int → Bool) (a b : Nod) : Bool :=
  if a.f0 = 6 ∨ a.f0 = 7 then rdB (rd a.f4 0) (rd b.f4 0)
  else if a.f0 = 9 then decide (a.f1 = b.f1) && !(b.f3.any fun s => !Lib.containsS a.f3 s)
  else if a.f0 = 10 then decide (a.f1 = b.f1) && decide (a.f2 = b.f2)
  else if a.f0 = 11 then decide (a.f1 = b.f1) && fieldsB rdB a b
  else true
theorem add_zero2 (a : Addr) : a.add 0 = a := by cases a; simp [Addr.add]

set_option maxRecDepth 100000 in
set_option maxHeartbeats 8000000 in
theorem holds_calls {w : World} {X Mb m c1 c2 : Nat} {A1 A2 : Option Addr} {o1 o2 : List Nod} {N : Pairs} (h : RelIs w X Mb m A1 c1 o1 A2 c2 o2 N) (s1 : SchemaOk o1) (s2 : SchemaOk o2) (i k : Nat) (hi : i < o1.length) (hk : k < o2.length) :
    Calls Tryz.prog 123 #[.pointer (some ⟨X, 0, none⟩), .int .i64 i, .int .i64 k] w fun e w' => e = .returned (.bool (holdsB (readsB N) (PPolicyHolds.rd_T110 o1 i) (PPolicyHolds.rd_T110 o2 k) i k)) ∧ Below w.heap.size w w' := by
  have hA : Below w.heap.size w (((w.alloc (.cells #[.pointer (some ⟨X, 0, none⟩)] 125)).alloc (.cells #[.int .i64 i] 3)).alloc (.cells #[.int .i64 k] 3)) := (((Below.refl _ _).alloc (Nat.le_refl _) _).alloc (by simp) _).alloc (by simp; omega) _
  have h3 := three w (.cells #[.pointer (some ⟨X, 0, none⟩)] 125) (.cells #[.int .i64 i] 3) (.cells #[.int .i64 k] 3)
  simp only at h3
  obtain ⟨b0, b1, b2, bs, bB⟩ := h3
  have hl1 := s1.len
  have hl2 := s2.len
  have ha := s1.good _ (rd_mem (o := o1) (i := (i : Int)) (by omega) (by omega))
  have hb := s2.good _ (rd_mem (o := o2) (i := (k : Int)) (by omega) (by omega))
  have hsA := h.below hA
  obtain ⟨ab, ao, hA1, labd, _⟩ := C_place hsA.r1 (by omega) (by decide)
  obtain ⟨bb, bo, hB1, lbbd, _⟩ := C_place hsA.r2 (by omega) (by decide)
  subst hA1 hB1
  obtain ⟨ad, A3, c3, A4, c4, A5, c5, hAe, e0, e1, e2, e3, e4, e5, l3, g3, l4, g4, l5, g5⟩ := PPolicyHolds.at_T110 hsA.r1 i (by omega) (by omega)
  obtain ⟨bd, B3, d3, B4, d4, B5, d5, hBe, f0, f1, f2, f3, f4, f5, m3, k3, m4, k4, m5, k5⟩ := PPolicyHolds.at_T110 hsA.r2 k (by omega) (by omega)
  cases hAe
  cases hBe
  simp only [Int.toNat_natCast, add_at] at e0 e1 e2 e3 e4 e5 f0 f1 f2 f3 f4 f5
  generalize PPolicyHolds.rd_T110 o1 i = a at *
  generalize PPolicyHolds.rd_T110 o2 k = b at *
  generalize hspec : holdsB (readsB N) a b i k = spec
  unfold holdsB at hspec
  have hC := hsA.blk
  have r0 := (blk_cell hC 0).trans rfl
  have r1 := (blk_cell hC 1).trans rfl
  have hXl := blk_lt h.blk
  replace hspec := Aside0.mk hspec
  replace h := Aside0.mk h
  replace hsA := Aside0.mk hsA
  replace ha := Aside0.mk ha
  replace hb := Aside0.mk hb
  replace hA := Aside0.mk hA
  have p0 := (blk_cell b0 0).trans rfl
  have p1 := (blk_cell b1 0).trans rfl
  have p2 := (blk_cell b2 0).trans rfl
  replace b0 := Aside0.mk b0
  replace b1 := Aside0.mk b1
  replace b2 := Aside0.mk b2
  have hbs := Aside0.mk bs
  replace g3 := Aside0.mk g3
  replace g4 := Aside0.mk g4
  replace g5 := Aside0.mk g5
  replace k3 := Aside0.mk k3
  replace k4 := Aside0.mk k4
  replace k5 := Aside0.mk k5
  clear bs bB hC
  have hi0 : (0 : Int) ≤ (i : Int) := by omega
  have hk0 : (0 : Int) ≤ (k : Int) := by omega
  have hi1 : (i : Int) < (o1.length : Int) := by omega
  have hk1 : (k : Int) < (o2.length : Int) := by omega
  have hmf : ∀ (fn : Fn) (first cap : Array Value) (w : World), (Instr.makeFunc fn first cap).run Tryz.prog w = .ok (.func fn first cap) w := fun _ _ _ _ => rfl
  go_enter Tryz.func123, Tryz.ntmps123
  go_wp2_with (fail)
  generalize ((w.alloc (.cells #[.pointer (some ⟨X, 0, none⟩)] 125)).alloc (.cells #[.int .i64 i] 3)).alloc (.cells #[.int .i64 k] 3) = wA at *
  go_cut [7, 8] from 9 to 24 (fun s7 s8 wx => ∃ aB bB : Nat, s7 = .pointer (some ⟨aB, 0, none⟩) ∧ s8 = .pointer (some ⟨bB, 0, none⟩) ∧ Aside0 (wx.heap[aB]? = some (.cells (nodCells a A3 A4 A5 c3 c4 c5) 110 (0, 0))) ∧ Aside0 (wx.heap[bB]? = some (.cells (nodCells b B3 B4 B5 d3 d4 d5) 110 (0, 0))) ∧ Aside0 (Below wA.heap.size wA wx))
  case first =>
    have z := hbs.out
    have n0 : wA.heap.size ≠ w.heap.size := by omega
    have n1 : wA.heap.size ≠ w.heap.size + 1 := by omega
    have n2 : wA.heap.size ≠ w.heap.size + 1 + 1 := by omega
    have n3 : wA.heap.size ≠ X := by omega
    have n4 : wA.heap.size ≠ ab := by omega
    have n5 : wA.heap.size ≠ bb := by omega
    have u0 : wA.heap.size + 1 ≠ w.heap.size := by omega
    have u1 : wA.heap.size + 1 ≠ w.heap.size + 1 := by omega
    have u2 : wA.heap.size + 1 ≠ w.heap.size + 1 + 1 := by omega
    have u3 : wA.heap.size + 1 ≠ X := by omega
    have u4 : wA.heap.size + 1 ≠ ab := by omega
    have u5 : wA.heap.size + 1 ≠ bb := by omega
    replace z := Aside0.mk z
    go_region_held3 (fun w' => w'.cell? ⟨w.heap.size, 0, none⟩ = some (.pointer (some ⟨X, 0, none⟩)) ∧ w'.cell? ⟨w.heap.size + 1, 0, none⟩ = some (.int .i64 i) ∧ w'.cell? ⟨w.heap.size + 1 + 1, 0, none⟩ = some (.int .i64 k) ∧ w'.cell? ⟨X, 0, none⟩ = some (.slice (some ⟨ab, ao, none⟩) o1.length c1) ∧ w'.cell? ⟨X, 1, none⟩ = some (.slice (some ⟨bb, bo, none⟩) o2.length c2) ∧
      w'.cell? ⟨ab, ao + i * 6, none⟩ = some (.int .i64 a.f0) ∧ w'.cell? ⟨ab, ao + i * 6 + 1, none⟩ = some (.string a.f1) ∧ w'.cell? ⟨ab, ao + i * 6 + 2, none⟩ = some (.int .i64 a.f2) ∧ w'.cell? ⟨ab, ao + i * 6 + 3, none⟩ = some (.slice A3 a.f3.length c3) ∧ w'.cell? ⟨ab, ao + i * 6 + 4, none⟩ = some (.slice A4 a.f4.length c4) ∧ w'.cell? ⟨ab, ao + i * 6 + 5, none⟩ = some (.slice A5 a.f5.length c5) ∧
      w'.cell? ⟨bb, bo + k * 6, none⟩ = some (.int .i64 b.f0) ∧ w'.cell? ⟨bb, bo + k * 6 + 1, none⟩ = some (.string b.f1) ∧ w'.cell? ⟨bb, bo + k * 6 + 2, none⟩ = some (.int .i64 b.f2) ∧ w'.cell? ⟨bb, bo + k * 6 + 3, none⟩ = some (.slice B3 b.f3.length d3) ∧ w'.cell? ⟨bb, bo + k * 6 + 4, none⟩ = some (.slice B4 b.f4.length d4) ∧ w'.cell? ⟨bb, bo + k * 6 + 5, none⟩ = some (.slice B5 b.f5.length d5)) (go_keep) (first | fail)
    all_goals (go_wp2_with fail; go_meet)
    · exact ⟨_, _, rfl, rfl, ⟨two_b _ _ _⟩, ⟨two_a _ _ _⟩, ⟨((((Below.refl _ _).alloc (Nat.le_refl _) _).alloc (by simp) _)).drew⟩⟩
    · exact ⟨_, _, rfl, rfl, ⟨two_a _ _ _⟩, ⟨two_b _ _ _⟩, ⟨((((Below.refl _ _).alloc (Nat.le_refl _) _).alloc (by simp) _)).drew⟩⟩
  case rest =>
    obtain ⟨aB, bB, rfl, rfl, hab, hbb, hbl⟩ := hcut
    have qa0 : wc.cell? ⟨aB, 0, none⟩ = some (.int .i64 a.f0) := blk_cell hab.out 0
    have qa1 : wc.cell? ⟨aB, 1, none⟩ = some (.string a.f1) := blk_cell hab.out 1
    have qa2 : wc.cell? ⟨aB, 2, none⟩ = some (.int .i64 a.f2) := blk_cell hab.out 2
    have qa3 : wc.cell? ⟨aB, 3, none⟩ = some (.slice A3 a.f3.length c3) := blk_cell hab.out 3
    have qa4 : wc.cell? ⟨aB, 4, none⟩ = some (.slice A4 a.f4.length c4) := blk_cell hab.out 4
    have qa5 : wc.cell? ⟨aB, 5, none⟩ = some (.slice A5 a.f5.length c5) := blk_cell hab.out 5
    have qb0 : wc.cell? ⟨bB, 0, none⟩ = some (.int .i64 b.f0) := blk_cell hbb.out 0
    have qb1 : wc.cell? ⟨bB, 1, none⟩ = some (.string b.f1) := blk_cell hbb.out 1
    have qb2 : wc.cell? ⟨bB, 2, none⟩ = some (.int .i64 b.f2) := blk_cell hbb.out 2
    have qb3 : wc.cell? ⟨bB, 3, none⟩ = some (.slice B3 b.f3.length d3) := blk_cell hbb.out 3
    have qb4 : wc.cell? ⟨bB, 4, none⟩ = some (.slice B4 b.f4.length d4) := blk_cell hbb.out 4
    have qb5 : wc.cell? ⟨bB, 5, none⟩ = some (.slice B5 b.f5.length d5) := blk_cell hbb.out 5
    have z := hbs.out
    have hw := Aside0.mk (hA.out.trans (hbl.out.mono (by omega)))
    have hrel := Aside0.mk (hsA.out.below hbl.out)
    have x0 : wc.cell? ⟨w.heap.size, 0, none⟩ = some (.pointer (some ⟨X, 0, none⟩)) := (hbl.out.cell (p := ⟨w.heap.size, 0, none⟩) (by simp only; omega)).trans p0
    have x1 : wc.cell? ⟨w.heap.size + 1, 0, none⟩ = some (.int .i64 i) := (hbl.out.cell (p := ⟨w.heap.size + 1, 0, none⟩) (by simp only; omega)).trans p1
    have x2 : wc.cell? ⟨w.heap.size + 1 + 1, 0, none⟩ = some (.int .i64 k) := (hbl.out.cell (p := ⟨w.heap.size + 1 + 1, 0, none⟩) (by simp only; omega)).trans p2
    have bi : Aside0 (Bnd (i : Int)) := ⟨by unfold Bnd; omega⟩
    have bk : Aside0 (Bnd (k : Int)) := ⟨by unfold Bnd; omega⟩
    have ba : Aside0 (∀ j ∈ a.f4, Bnd j) := ⟨fun j hj => by have := ha.out.1.items j hj; unfold Bnd; omega⟩
    have bb4 : Aside0 (∀ j ∈ b.f4, Bnd j) := ⟨fun j hj => by have := hb.out.1.items j hj; unfold Bnd; omega⟩
    have xsz : w.heap.size + 1 + 1 < wc.heap.size := by have := hbl.out.size; omega
    replace z := Aside0.mk z
    clear e0 e1 e2 e3 e4 e5 f0 f1 f2 f3 f4 f5 r0 r1 p0 p1 p2
    by_cases kb8 : b.f0 = 8
    · have t1 : (b.f0 == 8) = true := by simp [kb8]
      have E : Aside0 (spec = !(b.f4.any fun j => !readsB N i j)) := ⟨by rw [← hspec.out, if_pos kb8]⟩
      have HC := Aside0.mk (contFunc_int 143 #[.pointer (some ⟨w.heap.size, 0, none⟩), .pointer (some ⟨w.heap.size + 1, 0, none⟩)] (fun j => !readsB N i j) b.f4 B4 d4 wc (Kd.C_below k4.out hbl.out) (fun _ _ => by go_simp) (fun W x hW hx => holds1_calls (hrel.out.below hW) bi.out (bb4.out x hx) _ _ ((hW.cell (p := ⟨w.heap.size, 0, none⟩) (by simp only; omega)).trans x0) ((hW.cell (p := ⟨w.heap.size + 1, 0, none⟩) (by simp only; omega)).trans x1)))
      generalize (b.f4.any fun j => !readsB N i j) = q at E HC
      replace kb8 := Aside0.mk kb8
      go_wp2_with (fail)
      refine HC.out.mono ?_
      rintro _ w2 ⟨rfl, hb2⟩
      replace hb2 := Aside0.mk hb2
      go_wp2_with (fail)
      go_ret
      exact ⟨by rw [E.out]; rfl, below_of hw.out hb2.out⟩
    have t1 : (b.f0 == 8) = false := by simp [kb8]
    by_cases ka8 : a.f0 = 8
    · have t2 : (a.f0 == 8) = true := by simp [ka8]
      have E : Aside0 (spec = (a.f4.any fun j => readsB N j k)) := ⟨by rw [← hspec.out, if_neg kb8, if_pos ka8]⟩
      have HC := Aside0.mk (contFunc_int 144 #[.pointer (some ⟨w.heap.size, 0, none⟩), .pointer (some ⟨w.heap.size + 1 + 1, 0, none⟩)] (fun j => readsB N j k) a.f4 A4 c4 wc (Kd.C_below g4.out hbl.out) (fun _ _ => by go_simp) (fun W x hW hx => holds2_calls (hrel.out.below hW) bk.out (ba.out x hx) _ _ ((hW.cell (p := ⟨w.heap.size, 0, none⟩) (by simp only; omega)).trans x0) ((hW.cell (p := ⟨w.heap.size + 1 + 1, 0, none⟩) (by simp only; omega)).trans x2)))
      generalize (a.f4.any fun j => readsB N j k) = q at E HC
      replace kb8 := Aside0.mk kb8
      replace ka8 := Aside0.mk ka8
      go_wp2_with (fail)
      refine HC.out.mono ?_
      rintro _ w2 ⟨rfl, hb2⟩
      replace hb2 := Aside0.mk hb2
      go_wp2_with (fail)
      go_ret
      exact ⟨by rw [E.out]; rfl, below_of hw.out hb2.out⟩
    have t2 : (a.f0 == 8) = false := by simp [ka8]
    by_cases kne : a.f0 = b.f0
    · have t3 : (a.f0 != b.f0) = false := by simp [kne]
      have hs1 : holdsB' (readsB N) a b = spec := by
        have := hspec.out
        rw [if_neg kb8, if_neg ka8, if_neg (by simp [kne])] at this
        exact this
      unfold holdsB' at hs1
      clear hspec
      by_cases k67 : a.f0 = 6 ∨ a.f0 = 7
      · rw [if_pos k67] at hs1
        have hla : a.f4.length = 1 := ha.out.2 k67
        have hlb : b.f4.length = 1 := hb.out.2 (by rw [← kne]; exact k67)
        obtain ⟨aa, hA4, s0⟩ := Kd.at_int (Kd.C_below g4.out hbl.out) 0 (by omega) (by omega)
        obtain ⟨b_, hB4, s1⟩ := Kd.at_int (Kd.C_below k4.out hbl.out) 0 (by omega) (by omega)
        subst hA4 hB4
        have s0' : wc.cell? aa = some (.int .i64 (rd a.f4 0)) := by have := s0; rwa [show ((0 : Int).toNat) = 0 from rfl, add_zero2] at this
        have s1' : wc.cell? b_ = some (.int .i64 (rd b.f4 0)) := by have := s1; rwa [show ((0 : Int).toNat) = 0 from rfl, add_zero2] at this
        have m0 : Bnd (rd a.f4 0) := ba.out _ (by simp [rd, List.getD_eq_getElem?_getD, List.getElem?_eq_getElem (by omega : 0 < a.f4.length)])
        have m1 : Bnd (rd b.f4 0) := bb4.out _ (by simp [rd, List.getD_eq_getElem?_getD, List.getElem?_eq_getElem (by omega : 0 < b.f4.length)])
        have HR : Aside0 (∀ n, Calls Tryz.prog 88 #[.pointer (some ⟨X, 0, none⟩), .int .i64 (rd a.f4 0), .int .i64 (rd b.f4 0)] (wc.drewN n) fun e w' => e = .returned (.bool (readsB N (rd a.f4 0) (rd b.f4 0))) ∧ w' = wc.drewN n) := ⟨fun n => (reads_calls (hrel.out.below (drawnN_below wc n)) m0.wf m1.wf).mono fun e w' ⟨x, y⟩ => ⟨x, y.symm⟩⟩
        have E := Aside0.mk hs1
        generalize rd a.f4 0 = u at *
        generalize rd b.f4 0 = v at *
        clear s0 s1 m0 m1 hs1
        have gla : 0 < a.f4.length := by omega
        have glb : 0 < b.f4.length := by omega
        replace hla := Aside0.mk hla
        replace hlb := Aside0.mk hlb
        replace kb8 := Aside0.mk kb8
        replace ka8 := Aside0.mk ka8
        generalize readsB N u v = q at E HR
        rcases k67 with k6 | k7
        · have t6 : (a.f0 == 6) = true := by simp [k6]
          replace k6 := Aside0.mk k6
          replace kne := Aside0.mk kne
          go_wp2_with (fail)
          go_quiet ((go_at_call 88; exact Calls.quiet_of_same (HR.out _)))
          go_wp2_with (fail)
          go_ret
          exact ⟨by rw [← E.out]; rfl, pw_below_drewN hw.out _⟩
        · have t6 : (a.f0 == 6) = false := by simp [k7]
          have t7 : (a.f0 == 7) = true := by simp [k7]
          replace k7 := Aside0.mk k7
          replace kne := Aside0.mk kne
          go_wp2_with (fail)
          go_quiet ((go_at_call 88; exact Calls.quiet_of_same (HR.out _)))
          go_wp2_with (fail)
          go_ret
          exact ⟨by rw [← E.out]; rfl, pw_below_drewN hw.out _⟩
      rw [if_neg k67] at hs1
      have t6 : (a.f0 == 6) = false := by simp; exact fun e => k67 (.inl e)
      have t7 : (a.f0 == 7) = false := by simp; exact fun e => k67 (.inr e)
      replace k67 := Aside0.mk k67
      by_cases k9 : a.f0 = 9
      · rw [if_pos k9] at hs1
        have t9 : (a.f0 == 9) = true := by simp [k9]
        replace hs1 := Aside0.mk hs1
        replace k9 := Aside0.mk k9
        replace kb8 := Aside0.mk kb8
        replace ka8 := Aside0.mk ka8
        replace kne := Aside0.mk kne
        have hnm := str_eq a.f1 b.f1
        by_cases kn : a.f1 = b.f1
        · rw [decide_eq_true kn] at hnm
          have E : Aside0 (spec = !(b.f3.any fun s => !Lib.containsS a.f3 s)) := ⟨by rw [← hs1.out, decide_eq_true kn, Bool.true_and]⟩
          have hal := blk_lt hab.out
          have HC := Aside0.mk (contFunc_str 147 #[.pointer (some ⟨aB, 0, none⟩)] (fun s => !Lib.containsS a.f3 s) b.f3 B3 d3 wc (Kd.C_below k3.out hbl.out) (fun _ _ => by go_simp) (fun W x hW _ => holds3_calls aB A3 c3 a.f3 x ((hW.cell (p := ⟨aB, 3, none⟩) hal).trans qa3) (Kd.C_below (Kd.C_below g3.out hbl.out) hW)))
          generalize (b.f3.any fun s => !Lib.containsS a.f3 s) = q at E HC
          replace kn := Aside0.mk kn
          go_wp2_with (fail)
          refine HC.out.mono ?_
          rintro _ w2 ⟨rfl, hb2⟩
          replace hb2 := Aside0.mk hb2
          go_wp2_with (fail)
          go_ret
          exact ⟨by rw [E.out]; rfl, below_of hw.out hb2.out⟩
        · rw [decide_eq_false kn] at hnm
          have E : Aside0 (spec = false) := ⟨by rw [← hs1.out, decide_eq_false kn, Bool.false_and]⟩
          replace kn := Aside0.mk kn
          go_wp2_with (fail)
          go_ret
          exact ⟨by rw [E.out]; rfl, hw.out⟩
      rw [if_neg k9] at hs1
      have t9 : (a.f0 == 9) = false := by simp [k9]
      replace k9 := Aside0.mk k9
      by_cases k10 : a.f0 = 10
      · rw [if_pos k10] at hs1
        have t10 : (a.f0 == 10) = true := by simp [k10]
        replace hs1 := Aside0.mk hs1
        replace k10 := Aside0.mk k10
        replace kb8 := Aside0.mk kb8
        replace ka8 := Aside0.mk ka8
        replace kne := Aside0.mk kne
        have hnm := str_eq a.f1 b.f1
        by_cases kn : a.f1 = b.f1
        · rw [decide_eq_true kn] at hnm
          by_cases kz : a.f2 = b.f2
          · have tz : (a.f2 == b.f2) = true := by simp [kz]
            have E : Aside0 (spec = true) := ⟨by rw [← hs1.out, decide_eq_true kn, decide_eq_true kz]; rfl⟩
            replace kn := Aside0.mk kn
            replace kz := Aside0.mk kz
            go_wp2_with (fail)
            go_ret
            exact ⟨by rw [E.out]; rfl, hw.out⟩
          · have tz : (a.f2 == b.f2) = false := by simp [kz]
            have E : Aside0 (spec = false) := ⟨by rw [← hs1.out, decide_eq_true kn, decide_eq_false kz]; rfl⟩
            replace kn := Aside0.mk kn
            replace kz := Aside0.mk kz
            go_wp2_with (fail)
            go_ret
            exact ⟨by rw [E.out]; rfl, hw.out⟩
        · rw [decide_eq_false kn] at hnm
          have E : Aside0 (spec = false) := ⟨by rw [← hs1.out, decide_eq_false kn, Bool.false_and]⟩
          replace kn := Aside0.mk kn
          go_wp2_with (fail)
          go_ret
          exact ⟨by rw [E.out]; rfl, hw.out⟩
      rw [if_neg k10] at hs1
      have t10 : (a.f0 == 10) = false := by simp [k10]
      replace k10 := Aside0.mk k10
      by_cases k11 : a.f0 = 11
      · rw [if_pos k11] at hs1
        have t11 : (a.f0 == 11) = true := by simp [k11]
        replace hs1 := Aside0.mk hs1
        replace k11 := Aside0.mk k11
        replace kb8 := Aside0.mk kb8
        replace ka8 := Aside0.mk ka8
        replace kne := Aside0.mk kne
        have hnm := str_eq a.f1 b.f1
        by_cases kn : a.f1 = b.f1
        · rw [decide_eq_true kn] at hnm
          have E : Aside0 (spec = fieldsB (readsB N) a b) := ⟨by rw [← hs1.out, decide_eq_true kn, Bool.true_and]⟩
          have HC := Aside0.mk (fieldsr_calls (A3 := A3) (A4 := A4) (c3 := c3) (c4 := c4) (c5 := c5) (B3 := B3) (B4 := B4) (d3 := d3) (d4 := d4) (d5 := d5) hrel.out a b ha.out.1 hb.out.1 ⟨by omega, by omega⟩ (Kd.C_below g5.out hbl.out) (Kd.C_below k5.out hbl.out))
          generalize fieldsB (readsB N) a b = q at E HC
          replace kn := Aside0.mk kn
          go_wp2_with (fail)
          refine HC.out.mono ?_
          rintro _ w2 ⟨rfl, hb2⟩
          replace hb2 := Aside0.mk hb2
          go_wp2_with (fail)
          go_ret
          exact ⟨by rw [E.out]; rfl, below_of hw.out hb2.out⟩
        · rw [decide_eq_false kn] at hnm
          have E : Aside0 (spec = false) := ⟨by rw [← hs1.out, decide_eq_false kn, Bool.false_and]⟩
          replace kn := Aside0.mk kn
          go_wp2_with (fail)
          go_ret
          exact ⟨by rw [E.out]; rfl, hw.out⟩
      · rw [if_neg k11] at hs1
        have t11 : (a.f0 == 11) = false := by simp [k11]
        replace hs1 := Aside0.mk hs1
        replace k11 := Aside0.mk k11
        replace kb8 := Aside0.mk kb8
        replace ka8 := Aside0.mk ka8
        replace kne := Aside0.mk kne
        go_wp2_with (fail)
        go_ret
        exact ⟨by rw [← hs1.out]; rfl, hw.out⟩
    · have t3 : (a.f0 != b.f0) = true := by simp [kne]
      have E : Aside0 (spec = promotesB a.f0 b.f0) := ⟨by rw [← hspec.out, if_neg kb8, if_neg ka8, if_pos kne]⟩
      have HP := Aside0.mk (fun W => promotes_calls a.f0 b.f0 W)
      generalize promotesB a.f0 b.f0 = q at E HP
      replace kb8 := Aside0.mk kb8
      replace ka8 := Aside0.mk ka8
      replace kne := Aside0.mk kne
      go_wp2_with (fail)
      refine (HP.out _).mono ?_
      rintro _ w2 ⟨rfl, hb2⟩
      replace hb2 := Aside0.mk hb2
      go_wp2_with (fail)
      go_ret
      exact ⟨by rw [E.out]; rfl, below_of hw.out hb2.out⟩
end Go.Proofs.YtkafikdjhiienaaGreatDoor
