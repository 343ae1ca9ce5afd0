/- PolicyTexts: the texts of entries at places: where what it reads is of bulk at most 1048576, the law returns true and leaves its arguments as they were. -/
import Derived.Test.YtkafikdjhiienaaGreatDoorMF
import Derived.LaidMore
import Derived.Deep.Slices
import Derived.Lib.SmallJoins
set_option linter.unusedVariables false
set_option linter.unusedSimpArgs false
/- text -/
namespace Go.Proofs.YtkafikdjhiienaaGreatDoor
open Go.RowKit Go.Proofs.YtkafikdjhiienaaGreatDoorW.PrintWords

structure Ent where
  f0 : Bool
  f1 : Int
  f2 : ByteArray
  f3 : Int
def zEnt : Ent := ⟨false, 0, ⟨#[]⟩, 0⟩
def kEnt : Kd Ent := Kd.iso (Kd.pair Kd.bool (Kd.pair (Kd.int .i64) (Kd.pair Kd.string (Kd.int .u64)))) (fun x : Ent => (x.f0, x.f1, x.f2, x.f3))
theorem kEnt_open {w : World} {x : Ent} {cs : List Value} (h : kEnt.K w x cs) : cs = [.bool x.f0, .int .i64 x.f1, .string x.f2, .int .u64 x.f3] := by
  obtain ⟨_, _, rfl, rfl, ⟨_, _, rfl, rfl, ⟨_, _, rfl, rfl, rfl⟩⟩⟩ := h
  exact rfl
theorem kEnt_mk (w : World) (x : Ent) : kEnt.K w x [.bool x.f0, .int .i64 x.f1, .string x.f2, .int .u64 x.f3] := ⟨[.bool x.f0], [.int .i64 x.f1, .string x.f2, .int .u64 x.f3], rfl, rfl, ⟨[.int .i64 x.f1], [.string x.f2, .int .u64 x.f3], rfl, rfl, ⟨[.string x.f2], [.int .u64 x.f3], rfl, rfl, rfl⟩⟩⟩
theorem kEnt_mkM (w : World) (base : Nat) (ok : Nat → Prop) (x : Ent) : kEnt.M w base ok x [.bool x.f0, .int .i64 x.f1, .string x.f2, .int .u64 x.f3] := ⟨[.bool x.f0], [.int .i64 x.f1, .string x.f2, .int .u64 x.f3], rfl, rfl, ⟨[.int .i64 x.f1], [.string x.f2, .int .u64 x.f3], rfl, rfl, ⟨[.string x.f2], [.int .u64 x.f3], rfl, rfl, rfl⟩⟩⟩
def rdEnt (xs : List Ent) (i : Int) : Ent := xs.getD i.toNat zEnt
theorem at_Ent {w : World} {A : Option Addr} {n : Nat} {xs : List Ent} (h : Kd.C kEnt w A n xs) (i : Int) (h0 : 0 ≤ i) (h1 : i < n) : ∃ ad, A = some ad ∧ w.cell? (ad.add (i.toNat * 4)) = some (.bool (rdEnt xs i).f0) ∧ w.cell? ⟨(ad.add (i.toNat * 4)).block, (ad.add (i.toNat * 4)).off + 1, none⟩ = some (.int .i64 (rdEnt xs i).f1) ∧ w.cell? ⟨(ad.add (i.toNat * 4)).block, (ad.add (i.toNat * 4)).off + 2, none⟩ = some (.string (rdEnt xs i).f2) ∧ w.cell? ⟨(ad.add (i.toNat * 4)).block, (ad.add (i.toNat * 4)).off + 3, none⟩ = some (.int .u64 (rdEnt xs i).f3) := by
  obtain ⟨ad, c, e, _, hK, hc0⟩ := Kd.C_get h zEnt i h0 h1
  have hc : ∀ j u, c[j]? = some u → w.cell? (ad.add (i.toNat * 4 + j)) = some u := hc0
  obtain rfl := kEnt_open hK
  exact ⟨ad, e, hc 0 _ rfl, by rw [← add_field _ _ 1 (by omega)]; exact hc 1 _ rfl, by rw [← add_field _ _ 2 (by omega)]; exact hc 2 _ rfl, by rw [← add_field _ _ 3 (by omega)]; exact hc 3 _ rfl⟩

def textOf (l : List Ent) (i : Int) : List ByteArray := if 0 ≤ i ∧ i < (l.length : Int) then [(rdEnt l i).f2] else []
def textsB (l : List Ent) (p : List Int) : List ByteArray := p.flatMap (textOf l)
theorem textsB_len (l : List Ent) : ∀ p : List Int, (textsB l p).length ≤ p.length
  | [] => Nat.le_refl _
  | x :: p => by
    show (textOf l x ++ textsB l p).length ≤ _
    rw [List.length_append, List.length_cons]
    have := textsB_len l p
    unfold textOf
    split <;> simp <;> omega

theorem infoStr13 : (Tryz.prog.info? 9).map (fun i => (i.zero, i.size, i.bytes)) = some (some (.string ByteArray.empty), 1, 16) := by kernel_rfl
theorem C_ints {w : World} {A : Option Addr} {l : List Int} (h : (Kd.int .i64).C w A l.length l) (h0 : 0 < l.length) :
    ∃ b off, A = some ⟨b, off, none⟩ ∧ b < w.heap.size ∧ ∀ j, j < l.length → w.cell? ⟨b, off + j, none⟩ = some (.int .i64 (l.getD j 0)) := by
  obtain ⟨b, off, e, hb, hc⟩ := C_place h h0 (by decide)
  refine ⟨b, off, e, hb, fun j hj => ?_⟩
  obtain ⟨c, _, hk, hu⟩ := hc j _ (List.getElem?_eq_getElem hj)
  obtain rfl : c = [.int .i64 l[j]] := hk
  have := hu 0 _ rfl
  have e1 : (Kd.int .i64).sz = 1 := rfl
  rw [e1, Nat.mul_one, Nat.add_zero] at this
  rw [this, List.getD_eq_getElem?_getD, List.getElem?_eq_getElem hj]; rfl
theorem C_ents {w : World} {A : Option Addr} {l : List Ent} (h : kEnt.C w A l.length l) (h0 : 0 < l.length) :
    ∃ b off, A = some ⟨b, off, none⟩ ∧ b < w.heap.size ∧ ∀ j, j < l.length → w.cell? ⟨b, off + j * 4, none⟩ = some (.bool (rdEnt l j).f0) ∧ w.cell? ⟨b, off + j * 4 + 1, none⟩ = some (.int .i64 (rdEnt l j).f1) ∧ w.cell? ⟨b, off + j * 4 + 2, none⟩ = some (.string (rdEnt l j).f2) ∧ w.cell? ⟨b, off + j * 4 + 3, none⟩ = some (.int .u64 (rdEnt l j).f3) := by
  obtain ⟨b, off, e, hb, hc⟩ := C_place h h0 (by decide)
  refine ⟨b, off, e, hb, fun j hj => ?_⟩
  obtain ⟨c, _, hk, hu⟩ := hc j _ (List.getElem?_eq_getElem hj)
  obtain rfl := kEnt_open hk
  have er : rdEnt l j = l[j] := by simp [rdEnt, List.getD_eq_getElem?_getD, List.getElem?_eq_getElem hj]
  rw [er]
  have e1 : kEnt.sz = 4 := rfl
  have k0 := hu 0 _ rfl
  have k1 := hu 1 _ rfl
  have k2 := hu 2 _ rfl
  have k3 := hu 3 _ rfl
  rw [e1] at k0 k1 k2 k3
  exact ⟨k0, k1, k2, k3⟩

def TextsPost (l : List Ent) (p : List Int) (w : World) (e : Ending) (w' : World) : Prop :=
  ∃ A c, e = .returned (.slice A (textsB l p).length c) ∧ (textsB l p).length ≤ c ∧ Kd.string.C w' A (textsB l p).length (textsB l p) ∧ Below w.heap.size w w'

set_option maxRecDepth 100000 in
set_option maxHeartbeats 2000000 in
theorem texts_calls (l : List Ent) (p : List Int) (hp : p.length ≤ 1048576) {A A2 : Option Addr} {c c2 : Nat} {w : World} (hC : kEnt.C w A l.length l) (hD : (Kd.int .i64).C w A2 p.length p) :
    Calls Tryz.prog 20 #[.slice A l.length c, .slice A2 p.length c2] w (TextsPost l p w) := by
  have hfin : Aside0 (∀ w' A' c' n, n = (textsB l p).length → Kd.string.R 9 w' w.heap.size (fun i => w.heap.size ≤ i) (.slice A' n c') (textsB l p) → Below w.heap.size w w' → TextsPost l p w (.returned (.slice A' n c')) w') := ⟨fun w' A' c' n hn h hb => by
    subst hn
    obtain ⟨_, hle, hc⟩ := Kd.R_reads' h
    exact ⟨A', c', rfl, hle, hc, hb⟩⟩
  have hlen := Kd.C_max hC
  replace hC := Aside0.mk hC
  replace hD := Aside0.mk hD
  generalize TextsPost l p w = P at *
  go_enter Tryz.func20, Tryz.ntmps20
  go_wp2_with (fail)
  go_loopw [5, 10] (fun v5 v10 wr => ∃ (k n : Nat) (A1 : Option Addr) (c1 : Nat), v10 = .int .i64 k ∧ v5 = .slice A1 n c1 ∧ n = (textsB l (p.take k)).length ∧ k ≤ p.length ∧ Aside0 (Kd.string.R 9 wr w.heap.size (fun i => w.heap.size ≤ i) (.slice A1 n c1) (textsB l (p.take k))) ∧ Aside0 (Below w.heap.size w wr)) (fun _ v _ => p.length - (intOf v).toNat)
  case atStart => exact ⟨0, 0, none, 0, rfl, rfl, rfl, Nat.zero_le _, ⟨Kd.R_nil _ _ _ _ _⟩, ⟨Below.refl _ _⟩⟩
  case round =>
    obtain ⟨k, n, A1, c1, rfl, rfl, hn, hk, hrow, hb⟩ := hrel
    have hn2 : n ≤ 1048576 := by have := textsB_len l (p.take k); have h2 : (p.take k).length ≤ p.length := by simp; omega
                                 omega
    replace hn := Aside0.mk hn
    by_cases hlt : k < p.length
    · have hDw := Kd.C_below hD.out hb.out
      obtain ⟨b, off, rfl, hbl, hcs⟩ := C_ints hDw (by omega)
      have hcell := hcs k hlt
      clear hcs
      have htk : Aside0 (textsB l (p.take (k + 1)) = textsB l (p.take k) ++ textOf l (p.getD k 0)) := ⟨by
        have e : p.getD k 0 = p[k] := by simp [List.getD_eq_getElem?_getD, List.getElem?_eq_getElem hlt]
        rw [List.take_add_one, List.getElem?_eq_getElem hlt, e]
        show textsB l (p.take k ++ [p[k]]) = _
        unfold textsB
        rw [List.flatMap_append, List.flatMap_cons, List.flatMap_nil, List.append_nil]⟩
      clear hDw
      generalize p.getD k 0 = x at *
      by_cases hx : 0 ≤ x ∧ x < (l.length : Int)
      · obtain ⟨h0, h1⟩ := hx
        obtain ⟨j, rfl⟩ := Int.eq_ofNat_of_zero_le h0
        obtain ⟨be, oe, rfl, -, hes⟩ := C_ents (Kd.C_below hC.out hb.out) (by omega)
        have he := (hes j (by omega)).2.2.1
        have hto : Aside0 (textOf l (j : Int) = [(rdEnt l j).f2]) := ⟨by unfold textOf; rw [if_pos ⟨h0, h1⟩]⟩
        clear hes
        generalize (rdEnt l j).f2 = s at *
        have hbw : w.heap.size ≤ wr.heap.size := hb.out.size
        have hll : (textsB l (p.take k)).length = n := hn.out.symm
        replace hll := Aside0.mk hll
        go_wp2_with (at_builtin; refine Kd.R_append Kd.string (w0 := w) w.heap.size rfl (.tmp 22) (.tmp 28) 22 9 _ 16 rfl Tryz.underlying22 infoStr13 rfl (by decide) (by omega) (.slice A1 n c1) (textsB l (p.take k)) s [.string s] (fun i => w.heap.size ≤ i) (fun _ => False) rfl rfl ?aP (fun _ hk => hk.elim) ?aF hrow.out hb.out hbw ?aL ?_; (case aP => rfl); (case aF => exact fun i hi => Nat.le_trans hbw hi); (case aL => rw [hll.out]; omega); intro v3 w3 hR3 hB3 hg3 hat3; rw [← hto.out, ← htk.out] at hR3; obtain ⟨A3, c3, rfl⟩ := Kd.R_slice hR3; replace hR3 := Aside0.mk hR3; replace hB3 := Aside0.mk hB3; clear hg3 hat3)
        go_roundw
        case rel => exact ⟨k + 1, _, A3, c3, by go_num, rfl, rfl, by omega, hR3, hB3⟩
        case measure => simp [intOf]; omega
      · have hto : textOf l x = [] := by unfold textOf; rw [if_neg hx]
        have hto2 : textsB l (p.take (k + 1)) = textsB l (p.take k) := by rw [htk.out, hto, List.append_nil]
        have hrow2 := hrow.out
        rw [← hto2] at hrow2
        have hn3 := hn.out
        rw [← hto2] at hn3
        replace hrow2 := Aside0.mk hrow2
        replace hn3 := Aside0.mk hn3
        clear hto hto2
        by_cases h0 : 0 ≤ x
        · have h1 : ¬ x < (l.length : Int) := fun h => hx ⟨h0, h⟩
          clear hx
          go_wp2_with (fail)
          go_roundw
          case rel => exact ⟨k + 1, n, A1, c1, by go_num, rfl, hn3.out, by omega, hrow2, hb⟩
          case measure => simp [intOf]; omega
        · clear hx
          go_wp2_with (fail)
          go_roundw
          case rel => exact ⟨k + 1, n, A1, c1, by go_num, rfl, hn3.out, by omega, hrow2, hb⟩
          case measure => simp [intOf]; omega
    · obtain rfl : k = p.length := by omega
      have hrow2 := hrow.out
      have hn3 := hn.out
      rw [List.take_length] at hrow2 hn3
      replace hrow2 := Aside0.mk hrow2
      replace hn3 := Aside0.mk hn3
      go_wp2_with (fail)
      exact hfin.out _ _ _ _ hn3.out hrow2.out hb.out

set_option maxRecDepth 100000 in
set_option maxHeartbeats 2000000 in
theorem rtexts_calls (l : List Ent) (p : List Int) (hp : p.length ≤ 1048576) {A A2 : Option Addr} {c c2 : Nat} {w : World} (hC : kEnt.C w A l.length l) (hD : (Kd.int .i64).C w A2 p.length p) :
    Calls Tryz.prog 21 #[.slice A l.length c, .slice A2 p.length c2] w (TextsPost l p w) := by
  have hfin : Aside0 (∀ w' A' c' n, n = (textsB l p).length → Kd.string.R 9 w' w.heap.size (fun i => w.heap.size ≤ i) (.slice A' n c') (textsB l p) → Below w.heap.size w w' → TextsPost l p w (.returned (.slice A' n c')) w') := ⟨fun w' A' c' n hn h hb => by
    subst hn
    obtain ⟨_, hle, hc⟩ := Kd.R_reads' h
    exact ⟨A', c', rfl, hle, hc, hb⟩⟩
  have hlen := Kd.C_max hC
  replace hC := Aside0.mk hC
  replace hD := Aside0.mk hD
  have hE := Aside0.mk (R_empty w w.heap.size (Nat.le_refl _))
  have hA : Aside0 (Below w.heap.size w (w.alloc (.cells #[] 9))) := ⟨(Below.refl _ _).alloc (Nat.le_refl _) _⟩
  generalize TextsPost l p w = P at *
  go_enter Tryz.func21, Tryz.ntmps21
  go_wp2_with (fail)
  go_loopw [5, 6] (fun v5 v10 wr => ∃ (k n : Nat) (A1 : Option Addr) (c1 : Nat), v10 = .int .i64 k ∧ v5 = .slice A1 n c1 ∧ n = (textsB l (p.take k)).length ∧ k ≤ p.length ∧ Aside0 (Kd.string.R 9 wr w.heap.size (fun i => w.heap.size ≤ i) (.slice A1 n c1) (textsB l (p.take k))) ∧ Aside0 (Below w.heap.size w wr)) (fun _ v _ => p.length - (intOf v).toNat)
  case atStart => exact ⟨0, 0, _, 0, rfl, rfl, rfl, Nat.zero_le _, hE, hA⟩
  case round =>
    obtain ⟨k, n, A1, c1, rfl, rfl, hn, hk, hrow, hb⟩ := hrel
    have hn2 : n ≤ 1048576 := by have := textsB_len l (p.take k); have h2 : (p.take k).length ≤ p.length := by simp; omega
                                 omega
    replace hn := Aside0.mk hn
    by_cases hlt : k < p.length
    · have hDw := Kd.C_below hD.out hb.out
      obtain ⟨b, off, rfl, hbl, hcs⟩ := C_ints hDw (by omega)
      have hcell := hcs k hlt
      clear hcs
      have htk : Aside0 (textsB l (p.take (k + 1)) = textsB l (p.take k) ++ textOf l (p.getD k 0)) := ⟨by
        have e : p.getD k 0 = p[k] := by simp [List.getD_eq_getElem?_getD, List.getElem?_eq_getElem hlt]
        rw [List.take_add_one, List.getElem?_eq_getElem hlt, e]
        show textsB l (p.take k ++ [p[k]]) = _
        unfold textsB
        rw [List.flatMap_append, List.flatMap_cons, List.flatMap_nil, List.append_nil]⟩
      clear hDw
      generalize p.getD k 0 = x at *
      by_cases hx : 0 ≤ x ∧ x < (l.length : Int)
      · obtain ⟨h0, h1⟩ := hx
        obtain ⟨j, rfl⟩ := Int.eq_ofNat_of_zero_le h0
        obtain ⟨be, oe, rfl, -, hes⟩ := C_ents (Kd.C_below hC.out hb.out) (by omega)
        have he := (hes j (by omega)).2.2.1
        have hto : Aside0 (textOf l (j : Int) = [(rdEnt l j).f2]) := ⟨by unfold textOf; rw [if_pos ⟨h0, h1⟩]⟩
        clear hes
        generalize (rdEnt l j).f2 = s at *
        have hbw : w.heap.size ≤ wr.heap.size := hb.out.size
        have hll : (textsB l (p.take k)).length = n := hn.out.symm
        replace hll := Aside0.mk hll
        go_wp2_with (at_builtin; refine Kd.R_append Kd.string (w0 := w) w.heap.size rfl (.tmp 28) (.tmp 37) 22 9 _ 16 rfl Tryz.underlying22 infoStr13 rfl (by decide) (by omega) (.slice A1 n c1) (textsB l (p.take k)) s [.string s] (fun i => w.heap.size ≤ i) (fun _ => False) rfl rfl ?aP (fun _ hk => hk.elim) ?aF hrow.out hb.out hbw ?aL ?_; (case aP => rfl); (case aF => exact fun i hi => Nat.le_trans hbw hi); (case aL => rw [hll.out]; omega); intro v3 w3 hR3 hB3 hg3 hat3; rw [← hto.out, ← htk.out] at hR3; obtain ⟨A3, c3, rfl⟩ := Kd.R_slice hR3; replace hR3 := Aside0.mk hR3; replace hB3 := Aside0.mk hB3; clear hg3 hat3)
        go_roundw
        case rel => exact ⟨k + 1, _, A3, c3, by go_num, rfl, rfl, by omega, hR3, hB3⟩
        case measure => simp [intOf]; omega
      · have hto : textOf l x = [] := by unfold textOf; rw [if_neg hx]
        have hto2 : textsB l (p.take (k + 1)) = textsB l (p.take k) := by rw [htk.out, hto, List.append_nil]
        have hrow2 := hrow.out
        rw [← hto2] at hrow2
        have hn3 := hn.out
        rw [← hto2] at hn3
        replace hrow2 := Aside0.mk hrow2
        replace hn3 := Aside0.mk hn3
        clear hto hto2
        by_cases h0 : 0 ≤ x
        · have h1 : ¬ x < (l.length : Int) := fun h => hx ⟨h0, h⟩
          clear hx
          go_wp2_with (fail)
          go_roundw
          case rel => exact ⟨k + 1, n, A1, c1, by go_num, rfl, hn3.out, by omega, hrow2, hb⟩
          case measure => simp [intOf]; omega
        · clear hx
          go_wp2_with (fail)
          go_roundw
          case rel => exact ⟨k + 1, n, A1, c1, by go_num, rfl, hn3.out, by omega, hrow2, hb⟩
          case measure => simp [intOf]; omega
    · obtain rfl : k = p.length := by omega
      have hrow2 := hrow.out
      have hn3 := hn.out
      rw [List.take_length] at hrow2 hn3
      replace hrow2 := Aside0.mk hrow2
      replace hn3 := Aside0.mk hn3
      go_wp2_with (fail)
      exact hfin.out _ _ _ _ hn3.out hrow2.out hb.out

/-- Two lists that are one. -/
theorem same01_calls (l : List ByteArray) {A B : Option Addr} {c d : Nat} {w : World} (hC : Kd.string.C w A l.length l) (hD : Kd.string.C w B l.length l) :
    Calls Tryz.prog 19 #[.slice A l.length c, .slice B l.length d] w fun e w' => e = .returned (.bool true) ∧ Below w.heap.size w w' := by
  have hmax := Kd.C_max hC
  replace hC := Aside0.mk hC
  replace hD := Aside0.mk hD
  go_enter Tryz.func19, Tryz.ntmps19
  go_wp2_with (fail)
  go_loopw [5] (fun v wr => ∃ k : Nat, v = .int .i64 k ∧ k ≤ l.length ∧ Aside0 (Below w.heap.size w wr)) (fun v _ => l.length - (intOf v).toNat)
  case atStart => exact ⟨0, rfl, Nat.zero_le _, ⟨Below.refl _ _⟩⟩
  case round =>
    obtain ⟨k, rfl, hk, hb⟩ := hrel
    by_cases hlt : k < l.length
    · obtain ⟨b, off, rfl, -, hcs⟩ := C_strings (Kd.C_below hC.out hb.out) (by omega)
      obtain ⟨b2, off2, rfl, -, hcs2⟩ := C_strings (Kd.C_below hD.out hb.out) (by omega)
      have hcell := hcs k hlt
      have hcell2 := hcs2 k hlt
      clear hcs hcs2
      generalize l.getD k ByteArray.empty = s at *
      go_wp2_with (fail)
      go_quiet (fail)
      all_goals go_wp2_with (fail)
      all_goals exact ⟨⟨k + 1, by go_num, by omega, ⟨below_of hb.out (pw_below_drewN (Below.refl _ _) _)⟩⟩, by simp [intOf]; omega⟩
    · obtain rfl : k = l.length := by omega
      go_wp2_with (fail)
      go_ret
      exact ⟨rfl, hb.out⟩

theorem infoEnt : (Tryz.prog.info? 64).map (fun i => (i.zero, i.size, i.bytes)) = some (some (.agg #[.bool false, .int .i64 0, .string ByteArray.empty, .int .u64 0]), 4, 40) := by kernel_rfl
theorem infoInt13 : (Tryz.prog.info? 3).map (fun i => (i.zero, i.size, i.bytes)) = some (some (.int .i64 0), 1, 8) := by kernel_rfl
theorem R_emptyE (w : World) (base : Nat) (hb : base ≤ w.heap.size) : kEnt.R 64 (w.alloc (.cells #[] 64)) base (fun i => w.heap.size ≤ i) (.slice (some ⟨w.heap.size, 0, none⟩) 0 0) [] :=
  ⟨fun k hk => by have : w.heap.size = k := by simpa [Value.ownBlock] using hk
                  omega, [], by have h := World.ownsRow_lit (base := base) (e := 64) (size := 4) w #[] 0 hb (by decide) (by simp); exact h, Reps.none _ _⟩
theorem R_emptyI (w : World) (base : Nat) (hb : base ≤ w.heap.size) : (Kd.int .i64).R 3 (w.alloc (.cells #[] 3)) base (fun i => w.heap.size ≤ i) (.slice (some ⟨w.heap.size, 0, none⟩) 0 0) [] :=
  ⟨fun k hk => by have : w.heap.size = k := by simpa [Value.ownBlock] using hk
                  omega, [], by have h := World.ownsRow_lit (base := base) (e := 3) (size := 1) w #[] 0 hb (by decide) (by simp); exact h, Reps.none _ _⟩

set_option maxRecDepth 100000 in
set_option maxHeartbeats 2000000 in
theorem lawTexts_calls (l : List Ent) (p : List Int) (hl : l.length ≤ 1048576) (hp : p.length ≤ 1048576) {A A2 : Option Addr} {c c2 : Nat} (w : World) (hL : LaidAt w) (hNm : NamesAt w) (hC : kEnt.C w A l.length l) (hD : (Kd.int .i64).C w A2 p.length p) :
    Calls Tryz.prog 6 #[.slice A l.length c, .slice A2 p.length c2] w fun e w' => e = .returned (.bool true) ∧ Below w.heap.size w w' := by
  have hE := Aside0.mk (R_emptyE w w.heap.size (Nat.le_refl _))
  have hA : Aside0 (Below w.heap.size w (w.alloc (.cells #[] 64))) := ⟨(Below.refl _ _).alloc (Nat.le_refl _) _⟩
  have hCA := Aside0.mk (Kd.C_below hC hA.out)
  have hs1 : w.heap.size + 1 = (w.alloc (.cells #[] 64)).heap.size := by simp
  have HT : Aside0 (∀ W A1 B1 c1 d1, Below w.heap.size w W → kEnt.C W A1 l.length l → (Kd.int .i64).C W B1 p.length p → Calls Tryz.prog 20 #[.slice A1 l.length c1, .slice B1 p.length d1] W (TextsPost l p W)) := ⟨fun W A1 B1 c1 d1 hW h1 h2 => texts_calls l p hp h1 h2⟩
  have HR : Aside0 (∀ W, Below w.heap.size w W → Calls Tryz.prog 21 #[.slice A l.length c, .slice A2 p.length c2] W (TextsPost l p W)) := ⟨fun W hW => rtexts_calls l p hp (Kd.C_below hC hW) (Kd.C_below hD hW)⟩
  have HLv : Aside0 (∀ W, Below w.heap.size w W → Calls Tryz.prog 15 #[] W fun e w' => e = .returned (.bool true) ∧ Below W.heap.size W w') := ⟨fun W hW => lives_calls W (hL.below hW) (hNm.below hW)⟩
  replace hC := Aside0.mk hC
  replace hD := Aside0.mk hD
  replace hL := Aside0.mk hL
  replace hNm := Aside0.mk hNm
  go_enter Tryz.func6, Tryz.ntmps6
  go_wp2_with (first
    | (at_builtin; refine Kd.R_append_rows kEnt (Rr := fun x cs => cs = [.bool x.f0, .int .i64 x.f1, .string x.f2, .int .u64 x.f3]) (w0 := w) w.heap.size rfl (.tmp 5) (.tmp 6) 32 64 _ 40 rfl Tryz.underlying32 infoEnt rfl (by decide) (by omega) (.slice (some ⟨w.heap.size, 0, none⟩) 0 0) [] l A l.length c (fun i => w.heap.size ≤ i) (fun _ => False) rfl rfl hE.out (hCA.out.imp_ (Below.refl _ _) (fun _ _ h => kEnt_open h)) ?aK (fun _ hk => hk.elim) ?aF hA.out hA.out.size ?aL ?_; (case aK => exact fun x cs h => by subst h; exact kEnt_mkM _ _ _ _); (case aF => exact fun i hi => Nat.le_trans (by simp) hi); (case aL => simp; omega); intro v3 w3 hR3 hB3 hg3 hat3; rw [List.nil_append] at hR3; obtain ⟨A3, c3, rfl, -, hC3⟩ := Kd.R_reads hR3; have hE2 := Aside0.mk (R_emptyI w3 w3.heap.size (Nat.le_refl _)); have hA2 : Aside0 (Below w3.heap.size w3 (w3.alloc (.cells #[] 3))) := ⟨(Below.refl _ _).alloc (Nat.le_refl _) _⟩; have hDA := Aside0.mk (Kd.C_below (Kd.C_below hD.out hB3) hA2.out); replace hB3 := Aside0.mk hB3; replace hC3 := Aside0.mk hC3; clear hR3 hg3 hat3)
    | (at_builtin; refine Kd.R_append_rows (Kd.int .i64) (Rr := fun x cs => cs = [.int .i64 x]) (w0 := w3) w3.heap.size rfl (.tmp 8) (.tmp 9) 33 3 _ 8 rfl Tryz.underlying33 infoInt13 rfl (by decide) (by omega) (.slice (some ⟨w3.heap.size, 0, none⟩) 0 0) [] p A2 p.length c2 (fun i => w3.heap.size ≤ i) (fun _ => False) rfl rfl hE2.out hDA.out ?aK (fun _ hk => hk.elim) ?aF hA2.out hA2.out.size ?aL ?_; (case aK => exact fun x cs h => h); (case aF => exact fun i hi => Nat.le_trans (by simp) hi); (case aL => simp; omega); intro v4 w4 hR4 hB4 hg4 hat4; rw [List.nil_append] at hR4; obtain ⟨A4, c4, rfl, -, hD4⟩ := Kd.R_reads hR4; have hB4w := Aside0.mk (below_of hB3.out hB4); have HT4 := Aside0.mk (HT.out w4 A3 A4 c3 c4 hB4w.out (Kd.C_below hC3.out hB4) hD4); clear hR4 hg4 hat4 hB4 hD4)
    | (go_at_call 20; refine HT4.out.mono ?_; rintro _ w5 ⟨A5, c5, rfl, -, hC5, hb5⟩; have hB5 := Aside0.mk (below_of hB4w.out hb5); have HR5 := Aside0.mk (HR.out w5 hB5.out); replace hC5 := Aside0.mk hC5; clear hb5)
    | (go_at_call 21; refine HR5.out.mono ?_; rintro _ w6 ⟨A6, c6, rfl, -, hC6, hb6⟩; have hB6 := Aside0.mk (below_of hB5.out hb6); have HS6 := Aside0.mk (same01_calls (c := c5) (d := c6) (textsB l p) (Kd.C_below hC5.out hb6) hC6); clear hb6 hC6)
    | (go_at_call 19; refine HS6.out.mono ?_; rintro _ w7 ⟨rfl, hb7⟩; have hB7 := Aside0.mk (below_of hB6.out hb7); clear hb7)
    | (go_at_call 15; refine (HLv.out _ hB7.out).mono ?_; rintro _ w8 ⟨rfl, hb8⟩))
  go_ret
  exact ⟨rfl, below_of hB7.out hb8⟩
end Go.Proofs.YtkafikdjhiienaaGreatDoor

/- texts -/
namespace Go.Proofs.YtkafikdjhiienaaGreatDoor
open Go.ChangeShapes Go.WideShapes Go.ChangeAt Go.RowKit Go.Proofs.YtkafikdjhiienaaGreatDoorW.PrintWords Go.Deep Go.Joins

theorem bulk_one {H : Type} (d : DataW H) : 1 ≤ Rows.uptoBulk d := by
  cases d with
  | lit l => cases l <;> simp [Rows.uptoBulk]
  | nil => simp [Rows.uptoBulk]
  | ptr d => simp [Rows.uptoBulk]
  | slice elems spare => simp [Rows.uptoBulk]
  | agg parts => simp [Rows.uptoBulk]
  | iface t d => simp [Rows.uptoBulk]
  | map entries => simp [Rows.uptoBulk]
  | held h => simp [Rows.uptoBulk]
theorem bulk_len {H : Type} (l : List (DataW H)) : l.length ≤ Rows.uptoBulkAll l := by
  induction l with
  | nil => simp [Rows.uptoBulkAll]
  | cons x r ih => have := bulk_one x; simp only [Rows.uptoBulkAll, List.length_cons]; omega

instance : Inhabited Ent := ⟨zEnt⟩
theorem c_ent : Tryz.prog.cellsOf 64 = 4 := by kernel_rfl
theorem c_int : Tryz.prog.cellsOf 3 = 1 := by kernel_rfl
theorem c_bool : Tryz.prog.cellsOf 4 = 1 := by kernel_rfl

theorem ent_of {H : Type} {enc : TypeId × Value → H} {W : World} {base : Nat} {sp : Nat → Bool} {held : Bool} {fuel : Nat} {cs : List Value} {x : DataW H × List MemPlace}
    (h : DataW.trod enc Tryz.prog W base sp held fuel 64 cs = some x) : ∃ e : Ent, cs = [.bool e.f0, .int .i64 e.f1, .string e.f2, .int .u64 e.f3] ∧ e.f2.size ≤ maxLen := by
  obtain ⟨y0, y1, y2, y3, n, _, hl, h0, h1, h2, h3⟩ := trod_struct4 Tryz.underlying64 h
  rw [c_ent] at hl
  clear h
  obtain ⟨v0, v1, v2, v3, rfl⟩ : ∃ v0 v1 v2 v3, cs = [v0, v1, v2, v3] := by
    rcases cs with _ | ⟨v0, _ | ⟨v1, _ | ⟨v2, _ | ⟨v3, _ | ⟨v4, r⟩⟩⟩⟩⟩
    · simp at hl
    · simp at hl
    · simp at hl
    · simp at hl
    · exact ⟨_, _, _, _, rfl⟩
    · simp at hl
  rw [c_bool] at h0
  rw [c_int] at h1
  rw [c_s] at h2
  rw [c_u] at h3
  obtain ⟨b, hb, _⟩ := DataW.trod_bool Tryz.underlying4 h0
  obtain ⟨i, hi, _⟩ := DataW.trod_int Tryz.underlying3 h1
  obtain ⟨s, hs, _, hsz⟩ := DataW.trod_string Tryz.underlying9 h2
  obtain ⟨u, hu, _⟩ := DataW.trod_int Tryz.underlying62 h3
  refine ⟨⟨b, i, s, u⟩, ?_, hsz⟩
  have e0 : v0 = .bool b := List.head_eq_of_cons_eq hb
  have e1 : v1 = .int .i64 i := List.head_eq_of_cons_eq hi
  have e2 : v2 = .string s := List.head_eq_of_cons_eq hs
  have e3 : v3 = .int .u64 u := List.head_eq_of_cons_eq hu
  rw [e0, e1, e2, e3]

theorem open_ents_arg {H : Type} {enc : TypeId × Value → H} {W : World} {a : Option Addr} {len cap : Nat} {d : DataW H} {ps : List MemPlace}
    (h : DataW.Trod enc Tryz.prog W 0 (fun _ => true) true 32 (.slice a len cap) d ps) :
    ∃ l : List Ent, l.length = len ∧ len ≤ cap ∧ kEnt.C W a len l ∧ (∀ e ∈ l, e.f2.size ≤ maxLen) ∧ len + 1 ≤ Rows.uptoBulk d := by
  obtain ⟨fuel, hf⟩ := h
  rcases open_slice Tryz.underlying32 hf with ⟨hcs, hx⟩ | ⟨x, l, c, m, n, D, Pl, hcs, _, hl, hm, hmm, hx, hcell⟩
  · simp [Value.cells] at hcs
    obtain ⟨rfl, rfl, rfl⟩ := hcs
    exact ⟨[], rfl, Nat.le_refl _, ⟨rfl, by omega, fun h => absurd h (by omega)⟩, by simp, bulk_one d⟩
  · simp [Value.cells] at hcs
    obtain ⟨rfl, rfl, rfl⟩ := hcs
    simp at hmm
    rw [c_ent] at hcell
    obtain ⟨E, hE⟩ := choose_lt (α := Ent) (n := len) (p := fun i e => (∀ k u, [Value.bool e.f0, .int .i64 e.f1, .string e.f2, .int .u64 e.f3][k]? = some u → W.cell? (x.add (i * 4 + k)) = some u) ∧ e.f2.size ≤ maxLen) (fun i hi => by
      obtain ⟨cs', h1, h2⟩ := hcell i (by omega)
      obtain ⟨e, rfl, hsz⟩ := ent_of h2
      refine ⟨e, fun k u hu => ?_, hsz⟩
      have hk : k < 4 := (List.getElem?_eq_some_iff.1 hu).1
      have := (World.cells?_some h1).2.2 k hk
      rw [hu] at this
      rw [Addr.add_add] at this
      exact this)
    have hll : ((List.range len).map E).length = len := by simp
    refine ⟨(List.range len).map E, hll, hl, ⟨hll, by unfold maxLen at hm; omega, fun _ => ⟨x, rfl, fun j e hj => ?_⟩⟩, fun e he => ?_, ?_⟩
    · have hj2 : j < len := by have := (List.getElem?_eq_some_iff.1 hj).1; simpa using this
      have he : E j = e := by simpa [hj2] using hj
      subst he
      exact ⟨_, rfl, kEnt_mk W _, (hE j hj2).1⟩
    · obtain ⟨i, hi, rfl⟩ := List.mem_map.1 he
      exact (hE i (by simpa using hi)).2
    · have hd : d = .slice ((List.range len).map D) ((List.range (m - len)).map fun j => D (len + j)) := congrArg Prod.fst hx
      subst hd
      have := bulk_len ((List.range len).map D)
      simp only [List.length_map, List.length_range] at this
      simp only [Rows.uptoBulk]
      omega

theorem open_ints_arg {H : Type} {enc : TypeId × Value → H} {W : World} {a : Option Addr} {len cap : Nat} {d : DataW H} {ps : List MemPlace}
    (h : DataW.Trod enc Tryz.prog W 0 (fun _ => true) true 33 (.slice a len cap) d ps) :
    ∃ l : List Int, l.length = len ∧ len ≤ cap ∧ (Kd.int .i64).C W a len l ∧ len + 1 ≤ Rows.uptoBulk d := by
  obtain ⟨fuel, hf⟩ := h
  rcases open_slice1 Tryz.underlying33 c_int hf with ⟨hcs, hx⟩ | ⟨x, l, c, m, n, V, D, Pl, hcs, _, hl, hm, hmm, hx, hcell⟩
  · simp [Value.cells] at hcs
    obtain ⟨rfl, rfl, rfl⟩ := hcs
    exact ⟨[], rfl, Nat.le_refl _, ⟨rfl, by omega, fun h => absurd h (by omega)⟩, bulk_one d⟩
  · simp [Value.cells] at hcs
    obtain ⟨rfl, rfl, rfl⟩ := hcs
    simp at hmm
    obtain ⟨E, hE⟩ := choose_lt (α := Int) (n := len) (p := fun i z => W.cell? (x.add i) = some (.int .i64 z)) (fun i hi => by
      obtain ⟨h1, h2⟩ := hcell i (by omega)
      obtain ⟨z, hz, _⟩ := DataW.trod_int Tryz.underlying3 h2
      refine ⟨z, ?_⟩
      rw [h1]
      simpa using hz)
    have hll : ((List.range len).map E).length = len := by simp
    refine ⟨(List.range len).map E, hll, hl, ⟨hll, by unfold maxLen at hm; omega, fun _ => ⟨x, rfl, fun j z hj => ?_⟩⟩, ?_⟩
    · have hj2 : j < len := by have := (List.getElem?_eq_some_iff.1 hj).1; simpa using this
      have he : E j = z := by simpa [hj2] using hj
      subst he
      refine ⟨[.int .i64 (E j)], rfl, rfl, fun i u hu => ?_⟩
      match i, hu with
      | 0, hu =>
        obtain rfl := Option.some.inj hu
        show W.cell? (x.add (j * 1 + 0)) = _
        rw [Nat.mul_one, Nat.add_zero]
        exact hE j hj2
    · have hd : d = .slice ((List.range len).map D) ((List.range (m - len)).map fun j => D (len + j)) := congrArg Prod.fst hx
      subst hd
      have := bulk_len ((List.range len).map D)
      simp only [List.length_map, List.length_range] at this
      simp only [Rows.uptoBulk]
      omega

theorem own13 : ownKnob Tryz.prog.godebug = none := by kernel_rfl
theorem laidOut13 : laidOutB Tryz.prog = true := by kernel_rfl

set_option maxRecDepth 100000 in
theorem texts_contract (H : Type) (enc : TypeId × Value → H) (W : World) (base : Nat) (args : Array Value) (ds gs : List (DataW H)) (before : List MemPlace)
    (hval0 : ∀ (j : Nat) t v, Tryz.f6.params[j]? = some t → args[j]? = some v → Value.okWide Tryz.prog W .any base t v)
    (hW : DataW.Whole enc Tryz.prog Tryz.f6.params.toList Rows.policyTextsSpec.vars false W args.toList ds gs before)
    (hk : Rows.uptoSmall H (ds ++ gs) = true)
    (hL : laidMetH Tryz.prog laidList W) :
    Calls Tryz.prog 6 args W fun e W' => ∃ v, e = .returned v ∧ Rows.policyTextsSpec.post enc Tryz.prog Tryz.f6 false true false false W args v W' := by
  have hval := hval0
  have hW' := hW
  obtain ⟨p, q, hA0, hV, rfl, hfz, hnd⟩ := hW
  have hA : DataW.TrodAll enc Tryz.prog W 0 (fun _ => true) true Tryz.f6.params.toList args.toList ds p := hA0
  rw [Tryz.params6] at hA hval
  obtain ⟨v0, vs0, d0, ds0, p0, q0, hargs, rfl, rfl, h0, r0⟩ := trodAll_cons hA
  obtain ⟨v1, vs1, d1, ds1, p1, q1, rfl, rfl, rfl, h1, r1⟩ := trodAll_cons r0
  obtain ⟨rfl, rfl, rfl⟩ := trodAll_nil r1
  obtain rfl : args = #[v0, v1] := by cases args; simp_all
  obtain ⟨rfl, rfl⟩ := trodVars_none hV
  obtain ⟨a0, len0, cap0, rfl⟩ := okWide_slice Tryz.underlying32 (hval 0 32 v0 rfl rfl)
  obtain ⟨a1, len1, cap1, rfl⟩ := okWide_slice Tryz.underlying33 (hval 1 33 v1 rfl rfl)
  have lt0 : ∀ x ∈ p0, x.block < W.heap.size := by obtain ⟨m, hm⟩ := h0; exact DataW.trod_lt m _ _ _ hm
  have lt1 : ∀ x ∈ p1, x.block < W.heap.size := by obtain ⟨m, hm⟩ := h1; exact DataW.trod_lt m _ _ _ hm
  obtain ⟨l, rfl, _, hC, _, hb0⟩ := open_ents_arg h0
  obtain ⟨m, rfl, _, hD, hb1⟩ := open_ints_arg h1
  have hbulk : Rows.uptoBulkAll [d0, d1] ≤ 1048576 := of_decide_eq_true hk
  simp only [Rows.uptoBulkAll] at hbulk
  obtain ⟨hLd, hNm⟩ := laid_gives hL
  clear hA0 hval0
  refine (lawTexts_calls l m (by omega) (by omega) W hLd hNm hC hD).mono fun e W' ⟨he, bel⟩ => ?_
  subst he
  exact ⟨_, rfl, _, _, _, [], _, [], hW', trodAll_mk1 (shut_bool Tryz.underlying4 _), trodAll_cons_mk (Below.trod laidOut13 (by kernel_rfl) (of_decide_eq_true (by kernel_rfl)) h0 bel lt0) (trodAll_cons_mk (Below.trod laidOut13 (by kernel_rfl) (of_decide_eq_true (by kernel_rfl)) h1 bel lt1) trodAll_mk0), rfl, bel.frame _, fun h => by cases h⟩

theorem texts_met (os : Os) : laidMet Tryz.prog laidList ((World.doorLaid Tryz.prog 400 os).forCall (fun _ _ => 0) ⟨#[], #[.slice none 0 0, .slice none 0 0], []⟩).memory :=
  laidMet_of_run' 8 (by kernel_rfl) (by kernel_rfl)
theorem texts_reads (os : Os) {H : Type} (enc : TypeId × Value → H) : ∃ places, DataW.whole enc Tryz.prog ((World.doorLaid Tryz.prog 400 os).forCall (fun _ _ => 0) ⟨#[], #[.slice none 0 0, .slice none 0 0], []⟩).memory Tryz.f6.params.toList Rows.policyTextsSpec.vars false #[Value.slice none 0 0, .slice none 0 0].toList 8 = some ([.nil, .nil], [], places) :=
  ⟨[], by kernel_rfl⟩

set_option maxRecDepth 100000 in
theorem texts_lifted (os : Os) (started : os.Started) (H : Type) (enc : TypeId × Value → H) (F : Stop.Interp) :
    ReturnsInHanded {} Tryz.checked os 6 .any ((Rows.OpenSpec.upto Rows.policyTextsSpec).preRow enc Tryz.prog Tryz.f6 Rows.policyTextsUptoRow.domain false Rows.policyTextsUptoRow.laid) (((Rows.OpenSpec.upto Rows.policyTextsSpec).at F).post enc Tryz.prog Tryz.f6 false true false false) := by
  obtain ⟨places, hx⟩ := texts_reads os enc
  refine returnsInHanded_of_row (C := Tryz.checked) (s := Rows.OpenSpec.upto Rows.policyTextsSpec) own13 started (by kernel_rfl) Tryz.func6
    (witness_row_at (enc := enc) (C := Tryz.checked) false (World.doorLaid Tryz.prog 400 os) #[.slice none 0 0, .slice none 0 0] rfl (by kernel_rfl) (by kernel_rfl) (by kernel_rfl)
      (OpenSpec.preRow_of_cond 8 hx (by kernel_rfl) (fun k hk => by cases hk; kernel_rfl) (by kernel_rfl) (texts_met os))) ?_
  intro W base args ds gs before hval hW _ hcond _ hL _ _
  exact texts_contract H enc W base args ds gs before hval hW (hcond _ rfl) hL

theorem policyTexts_said : Rows.PolicyTextsUptoSaid :=
  OpenClaim.holds_of_cond 6 Tryz.f6 rfl rfl rfl rfl rfl rfl rfl ⟨rfl, rfl, rfl, rfl, rfl⟩ rfl rfl rfl rfl rfl (by kernel_rfl) Tryz.func6 (by kernel_rfl)
    (of_decide_eq_true (by kernel_rfl)) (by unfold Func.isWrapper; first | (rw [if_pos (by decide +kernel)]; kernel_rfl) | (rw [if_neg (by decide +kernel)]; exact ⟨rfl, rfl⟩))
    (fun os started H enc _ F => by rw [OpenClaim.pre_eq_preRow]; exact texts_lifted os started H enc F)

theorem texts_plain (f : FuncId) (fn : Func) (hf : Tryz.pinned.checked.prog.funcNamed "suffragan/suffraganlaw12.PolicyTexts" = some f) (hfn : Tryz.pinned.checked.prog.funcs[f]? = some fn) :
    true = Tryz.pinned.checked.prog.looks [] ∧ ∀ (j : Nat) t, fn.params[j]? = some t → Tryz.pinned.checked.prog.wantsStandIn t = false := by
  obtain rfl : f = 6 := Option.some.inj ((show Tryz.prog.funcNamed "suffragan/suffraganlaw12.PolicyTexts" = some 6 by kernel_rfl).symm.trans hf) |>.symm
  obtain rfl : fn = Tryz.f6 := (Option.some.inj (Tryz.func6.symm.trans hfn)).symm
  refine ⟨by kernel_rfl, fun j t ht => ?_⟩
  rw [Tryz.params6] at ht
  have hm := Array.mem_of_getElem? ht
  simp at hm
  rcases hm with rfl | rfl
  · exact (show Tryz.prog.wantsStandIn 32 = false by kernel_rfl)
  · exact (show Tryz.prog.wantsStandIn 33 = false by kernel_rfl)

/-- The statement. -/
theorem policyTexts_card : Rows.PolicyTextsUptoCardSaid :=
  Claim7.holds_tied_plain_at .later [] _ _ _ _ policyTexts_said (fun _ h => by cases h) (by kernel_rfl) (fun _ h => by cases h) policyTextsUpto_row_tie rfl ⟨rfl, rfl⟩ (by kernel_rfl) rfl texts_plain (by kernel_rfl)
#print axioms policyTexts_card
end Go.Proofs.YtkafikdjhiienaaGreatDoor
