/- What is shown of a schema, and how long it may be; nodes that are one. -/
import Derived.Test.YtkafikdjhiienaaGreatDoorMA
import Derived.Lib.Join
import Derived.Lib.ItoaNum
import Derived.Lib.Strings
import Derived.Test.YtkafikdjhiienaaGreatDoorMC
import Derived.Lib.ItoaLen
import Derived.Test.YtkafikdjhiienaaGreatDoorPPolicyHoldsx3
set_option linter.unusedVariables false
set_option linter.unusedSimpArgs false
/- showspec -/
namespace Go.Proofs.YtkafikdjhiienaaGreatDoor
open Go.RowKit Go.Proofs.YtkafikdjhiienaaGreatDoorW.PrintWords

instance instDecFld : DecidableEq Fld := fun a b => decidable_of_iff (a.f0 = b.f0 ∧ a.f1 = b.f1 ∧ a.f2 = b.f2) (by cases a; cases b; simp)
instance instDecNod : DecidableEq Nod := fun a b => decidable_of_iff (a.f0 = b.f0 ∧ a.f1 = b.f1 ∧ a.f2 = b.f2 ∧ a.f3 = b.f3 ∧ a.f4 = b.f4 ∧ a.f5 = b.f5) (by cases a; cases b; simp)

/-- The writer: the bytes so far, the node that must begin next, whether it is none. -/
structure WS where
  buf : List UInt8
  next : Int
  bad : Bool
def WS.put (s : WS) (t : ByteArray) : WS := { s with buf := s.buf ++ t.data.toList }
def sEnum : ByteArray := ⟨#[101, 110, 117, 109, 32]⟩
def sFixed : ByteArray := ⟨#[102, 105, 120, 101, 100, 32]⟩
def sRecord : ByteArray := ⟨#[114, 101, 99, 111, 114, 100, 32]⟩
abbrev sBlank : ByteArray := ⟨#[32]⟩

section
variable (T : Int → WS → WS)
def wItems : Bool → List Int → WS → WS
  | _, [], s => s
  | first, n :: r, s => wItems false r (T n (if first = true then s else s.put sBar))
def wField (f : Fld) (s : WS) : WS :=
  (T f.f2 ((if f.f1 = true then (s.put f.f0).put sQm else s.put f.f0).put sColon)).put sSemi
def wFields : List Fld → WS → WS
  | [], s => s
  | f :: r, s => wFields r (wField T f s)
/-- What a node is written as that begins here. -/
def wNode (x : Nod) (s : WS) : WS :=
  if x.f0 = 6 then (wItems T true x.f4 (s.put sBo)).put sBc
  else if x.f0 = 7 then (wItems T true x.f4 (s.put sCo)).put sCc
  else if x.f0 = 8 then (wItems T true x.f4 (s.put sPo)).put sPc
  else if x.f0 = 9 then { s with buf := s.buf ++ (sEnum.data.toList ++ x.f1.data.toList ++ [60] ++ Lib.join (x.f3.map (·.data.toList)) [44] ++ [62]) }
  else if x.f0 = 10 then { s with buf := s.buf ++ (sFixed.data.toList ++ x.f1.data.toList ++ [32] ++ Lib.itoa x.f2) }
  else if x.f0 = 11 then (wFields T x.f5 { s with buf := s.buf ++ (sRecord.data.toList ++ x.f1.data.toList ++ [123]) }).put sCc
  else if x.f0 < 0 ∨ 12 ≤ x.f0 then { s with bad := true }
  else s.put (wordsL.getD x.f0.toNat ByteArray.empty)
end
/-- d: how many levels more there may be. -/
def wTyped (o : List Nod) : Nat → Int → WS → WS
  | 0, _, s => { s with bad := true }
  | d + 1, n, s =>
    if s.bad = true ∨ n < 0 ∨ (o.length : Int) ≤ n ∨ s.next < n ∨ 4096 < s.buf.length then { s with bad := true }
    else if n < s.next then ({ s with bad := s.bad || decide ((o.getD n.toNat PPolicyHolds.z110).f0 < 9) } : WS).put (o.getD n.toNat PPolicyHolds.z110).f1
    else wNode (wTyped o d) (o.getD n.toNat PPolicyHolds.z110) { s with next := s.next + 1 }

/-- A schema's text, if it is one. -/
def showSpec (o : List Nod) : Option ByteArray :=
  let s := wTyped o 20 0 ⟨[], 0, false⟩
  if s.bad = true ∨ s.next ≠ o.length then none
  else if (parseSpec (bs s.buf)).2.2 ≠ 0 ∨ (parseSpec (bs s.buf)).1 ≠ o then none
  else some (bs s.buf)
end Go.Proofs.YtkafikdjhiienaaGreatDoor

/- showlen -/
namespace Go.Proofs.YtkafikdjhiienaaGreatDoor
open Go.RowKit Go.Proofs.YtkafikdjhiienaaGreatDoorW.PrintWords

/-- What a node writes by itself, roughly. -/
def ownF : List Fld → Nat
  | [] => 0
  | f :: r => f.f0.size + 3 + ownF r
def ownN (x : Nod) : Nat := x.f1.size + (Lib.join (x.f3.map (·.data.toList)) [44]).length + x.f4.length + ownF x.f5 + (Lib.itoa x.f2).length + 64
/-- A schema whose nodes are not too long. -/
structure NodsOk (CB : Nat) (o : List Nod) : Prop where
  own : ∀ x ∈ o, ownN x ≤ CB
  num : ∀ x ∈ o, -9223372036854775808 ≤ x.f2 ∧ x.f2 ≤ 9223372036854775807
  big : 21 * CB + 4096 ≤ 70368744177664
  len : o.length ≤ 70368744177664

theorem put_len (s : WS) (t : ByteArray) : (s.put t).buf.length = s.buf.length + t.size := by
  rw [WS.put]; simp only [List.length_append]; rw [← Lib.size_eq]
theorem put_next (s : WS) (t : ByteArray) : (s.put t).next = s.next ∧ (s.put t).bad = s.bad := ⟨rfl, rfl⟩

section
variable {T : Int → WS → WS} {K : Nat} {N : Int} (HL : ∀ n s, (T n s).buf.length ≤ max s.buf.length K) (HN : ∀ n s, 0 ≤ s.next → s.next ≤ N → s.next ≤ (T n s).next ∧ (T n s).next ≤ N)
include HL in
theorem wItems_len : ∀ (l : List Int) (b : Bool) (s : WS), (wItems T b l s).buf.length ≤ max s.buf.length K + l.length
  | [], b, s => by simp only [wItems, List.length_nil]; omega
  | n :: r, b, s => by
    have h1 := wItems_len r false (T n (if b = true then s else s.put sBar))
    have h2 := HL n (if b = true then s else s.put sBar)
    have h3 : (if b = true then s else s.put sBar).buf.length ≤ s.buf.length + 1 := by
      split
      · omega
      · rw [put_len]; exact Nat.le_refl _
    simp only [wItems, List.length_cons]
    omega
include HL in
theorem wField_len (f : Fld) (s : WS) : (wField T f s).buf.length ≤ max s.buf.length K + f.f0.size + 3 := by
  unfold wField
  rw [put_len]
  have h := HL f.f2 ((if f.f1 = true then (s.put f.f0).put sQm else s.put f.f0).put sColon)
  have h2 : ((if f.f1 = true then (s.put f.f0).put sQm else s.put f.f0).put sColon).buf.length ≤ s.buf.length + f.f0.size + 2 := by
    rw [put_len]
    have e1 : sColon.size = 1 := rfl
    split
    · rw [put_len, put_len]; have e2 : sQm.size = 1 := rfl; omega
    · rw [put_len]; omega
  have e3 : sSemi.size = 1 := rfl
  omega
include HL in
theorem wFields_len : ∀ (l : List Fld) (s : WS), (wFields T l s).buf.length ≤ max s.buf.length K + ownF l
  | [], s => by simp only [wFields, ownF]; omega
  | f :: r, s => by
    have h1 := wFields_len r (wField T f s)
    have h2 := wField_len HL f s
    simp only [wFields, ownF]
    omega
include HN
theorem wItems_next : ∀ (l : List Int) (b : Bool) (s : WS), 0 ≤ s.next → s.next ≤ N → s.next ≤ (wItems T b l s).next ∧ (wItems T b l s).next ≤ N
  | [], b, s, h0, h1 => by simp only [wItems]; omega
  | n :: r, b, s, h0, h1 => by
    have e : (if b = true then s else s.put sBar).next = s.next := by split <;> rfl
    have h2 := HN n (if b = true then s else s.put sBar) (by omega) (by omega)
    have h3 := wItems_next r false (T n (if b = true then s else s.put sBar)) (by omega) (by omega)
    simp only [wItems]
    omega
theorem wField_next (f : Fld) (s : WS) (h0 : 0 ≤ s.next) (h1 : s.next ≤ N) : s.next ≤ (wField T f s).next ∧ (wField T f s).next ≤ N := by
  unfold wField
  rw [(put_next _ _).1]
  have e : ((if f.f1 = true then (s.put f.f0).put sQm else s.put f.f0).put sColon).next = s.next := by split <;> rfl
  have := HN f.f2 ((if f.f1 = true then (s.put f.f0).put sQm else s.put f.f0).put sColon) (by omega) (by omega)
  omega
theorem wFields_next : ∀ (l : List Fld) (s : WS), 0 ≤ s.next → s.next ≤ N → s.next ≤ (wFields T l s).next ∧ (wFields T l s).next ≤ N
  | [], s, h0, h1 => by simp only [wFields]; omega
  | f :: r, s, h0, h1 => by
    have h2 := wField_next HN f s h0 h1
    have h3 := wFields_next r (wField T f s) (by omega) (by omega)
    simp only [wFields]
    omega
end

theorem wordsL_size (k : Nat) : (wordsL.getD k ByteArray.empty).size ≤ 6 := by
  by_cases h : k < 12
  · have : ∀ k, k < 12 → (wordsL.getD k ByteArray.empty).size ≤ 6 := by decide
    exact this k h
  · have e : wordsL.getD k ByteArray.empty = ByteArray.empty := by
      rw [List.getD_eq_getElem?_getD, List.getElem?_eq_none (by show 12 ≤ k; omega)]; rfl
    rw [e]; decide

theorem wNode_len {T : Int → WS → WS} {K : Nat} (HL : ∀ n s, (T n s).buf.length ≤ max s.buf.length K) (x : Nod) (s : WS) (hs : s.buf.length ≤ 4096) (hK : 4096 ≤ K) : (wNode T x s).buf.length ≤ K + ownN x := by
  have e1 : sBo.size = 1 := rfl
  have e2 : sBc.size = 1 := rfl
  have e3 : sCo.size = 1 := rfl
  have e4 : sCc.size = 1 := rfl
  have e5 : sPo.size = 1 := rfl
  have e6 : sPc.size = 1 := rfl
  unfold wNode ownN
  split
  · have := wItems_len HL x.f4 true (s.put sBo); rw [put_len] at this ⊢; omega
  split
  · have := wItems_len HL x.f4 true (s.put sCo); rw [put_len] at this ⊢; omega
  split
  · have := wItems_len HL x.f4 true (s.put sPo); rw [put_len] at this ⊢; omega
  split
  · simp only [List.length_append]; rw [← Lib.size_eq, ← Lib.size_eq]; have : sEnum.size = 5 := rfl; simp only [List.length_cons, List.length_nil]; omega
  split
  · simp only [List.length_append]; rw [← Lib.size_eq, ← Lib.size_eq]; have : sFixed.size = 6 := rfl; simp only [List.length_cons, List.length_nil]; omega
  split
  · have := wFields_len HL x.f5 { s with buf := s.buf ++ (sRecord.data.toList ++ x.f1.data.toList ++ [123]) }
    rw [put_len]
    simp only [List.length_append] at this
    rw [← Lib.size_eq, ← Lib.size_eq] at this
    have : sRecord.size = 7 := rfl
    simp only [List.length_cons, List.length_nil] at *
    omega
  split
  · simp only; omega
  · rw [put_len]; have := wordsL_size x.f0.toNat; omega
theorem wNode_next {T : Int → WS → WS} {N : Int} (HN : ∀ n s, 0 ≤ s.next → s.next ≤ N → s.next ≤ (T n s).next ∧ (T n s).next ≤ N) (x : Nod) (s : WS) (h0 : 0 ≤ s.next) (h1 : s.next ≤ N) : s.next ≤ (wNode T x s).next ∧ (wNode T x s).next ≤ N := by
  unfold wNode
  split
  · rw [(put_next _ _).1]; exact wItems_next HN x.f4 true (s.put sBo) h0 h1
  split
  · rw [(put_next _ _).1]; exact wItems_next HN x.f4 true (s.put sCo) h0 h1
  split
  · rw [(put_next _ _).1]; exact wItems_next HN x.f4 true (s.put sPo) h0 h1
  split
  · exact ⟨Int.le_refl _, h1⟩
  split
  · exact ⟨Int.le_refl _, h1⟩
  split
  · rw [(put_next _ _).1]; exact wFields_next HN x.f5 { s with buf := s.buf ++ (sRecord.data.toList ++ x.f1.data.toList ++ [123]) } h0 h1
  split
  · exact ⟨Int.le_refl _, h1⟩
  · exact ⟨Int.le_refl _, h1⟩

theorem getD_mem (o : List Nod) (n : Int) (h0 : 0 ≤ n) (h1 : n < (o.length : Int)) : o.getD n.toNat PPolicyHolds.z110 ∈ o := by
  rw [List.getD_eq_getElem?_getD, List.getElem?_eq_getElem (by omega : n.toNat < o.length)]
  exact List.getElem_mem _
theorem wTyped_len {CB : Nat} {o : List Nod} (h : NodsOk CB o) : ∀ (d : Nat) (n : Int) (s : WS), (wTyped o d n s).buf.length ≤ max s.buf.length (4096 + d * CB)
  | 0, n, s => by simp only [wTyped]; omega
  | d + 1, n, s => by
    have e : (d + 1) * CB = d * CB + CB := by rw [Nat.succ_mul]
    rw [e]
    simp only [wTyped]
    split
    · simp only; omega
    rename_i hc
    have hn : 0 ≤ n ∧ n < (o.length : Int) ∧ s.buf.length ≤ 4096 := by omega
    have hm := getD_mem o n hn.1 hn.2.1
    have ho := h.own _ hm
    split
    · rw [put_len]
      unfold ownN at ho
      simp only
      omega
    · have := wNode_len (wTyped_len h d) (o.getD n.toNat PPolicyHolds.z110) { s with next := s.next + 1 } hn.2.2 (by omega)
      omega
theorem wTyped_next (o : List Nod) : ∀ (d : Nat) (n : Int) (s : WS), 0 ≤ s.next → s.next ≤ (o.length : Int) → s.next ≤ (wTyped o d n s).next ∧ (wTyped o d n s).next ≤ (o.length : Int)
  | 0, n, s, h0, h1 => by simp only [wTyped]; omega
  | d + 1, n, s, h0, h1 => by
    simp only [wTyped]
    split
    · simp only; omega
    rename_i hc
    split
    · rw [(put_next _ _).1]; simp only; omega
    · have := wNode_next (wTyped_next o d) (o.getD n.toNat PPolicyHolds.z110) { s with next := s.next + 1 } (by simp only; omega) (by simp only; omega)
      simp only at this
      omega
end Go.Proofs.YtkafikdjhiienaaGreatDoor

/- good -/
namespace Go.Proofs.YtkafikdjhiienaaGreatDoor
open Go.RowKit Go.Proofs.YtkafikdjhiienaaGreatDoorW.PrintWords

theorem isNumber_range {s : ByteArray} {z : Int} (h : isNumber s = some z) : 0 ≤ z ∧ z ≤ 4096 := by
  unfold isNumber at h
  split at h
  · cases h
  · rename_i hc
    simp only [not_or, not_and, Nat.not_lt, ne_eq, Classical.not_not] at hc
    split at h
    · cases h
    · cases h
      have := numTo_le s (runOf_all _ _ hc.2.2.1) s.size (Nat.le_refl _) hc.2.2.2
      omega

/-- A node of a schema of N nodes. -/
structure GN (N : Nat) (x : Nod) : Prop where
  name : x.f1.size ≤ 4096
  symn : x.f3.length ≤ 2000
  syms : ∀ s ∈ x.f3, s.size ≤ 4096
  itemn : x.f4.length ≤ 2000
  items : ∀ i ∈ x.f4, 0 ≤ i ∧ i < (N : Int)
  fldn : x.f5.length ≤ 2000
  flds : ∀ f ∈ x.f5, f.f0.size ≤ 4096 ∧ 0 ≤ f.f2 ∧ f.f2 < (N : Int)
  num : 0 ≤ x.f2 ∧ x.f2 ≤ 4096
  kind : 0 ≤ x.f0 ∧ x.f0 ≤ 11
/-- .. that is whole. -/
def Whole (x : Nod) : Prop := (x.f0 = 6 ∨ x.f0 = 7) → x.f4.length = 1
theorem GN.mono {N M : Nat} {x : Nod} (h : GN N x) (hm : N ≤ M) : GN M x :=
  ⟨h.name, h.symn, h.syms, h.itemn, fun i hi => ⟨(h.items i hi).1, by have := (h.items i hi).2; omega⟩, h.fldn, fun f hf => ⟨(h.flds f hf).1, (h.flds f hf).2.1, by have := (h.flds f hf).2.2; omega⟩, h.num, h.kind⟩
def TokOk (p : PS) : Prop := (∀ t ∈ p.l, t.f1.size ≤ 4096) ∧ p.l.length ≤ 2000 ∧ p.nodes.length ≤ 200
theorem TokOk.next {p : PS} (h : TokOk p) : TokOk p.next := ⟨fun t ht => h.1 t (List.mem_of_mem_tail ht), by have := (next_len p).1; have := h.2.1; omega, by rw [(next_len p).2]; exact h.2.2⟩
theorem TokOk.mod {p : PS} (h : TokOk p) (n : Int) (f : Nod → Nod) : TokOk (p.mod n f) := ⟨h.1, h.2.1, by rw [(mod_len p n f).2]; exact h.2.2⟩
theorem must_ok {p q : PS} {s : ByteArray} {x : Unit} (h : p.must s = .ok (x, q)) : q = p.next := by
  unfold PS.must at h
  split at h
  · cases h; rfl
  · cases h
theorem goes_ok {p q : PS} {s : ByteArray} {x : Bool} (h : p.goes s = (x, q)) : q = p.next ∨ q = p := by
  unfold PS.goes at h
  split at h <;> cases h
  · exact .inl rfl
  · exact .inr rfl
theorem name_ok' {p q : PS} {th : ByteArray → Bool} {x : ByteArray} (h : p.name th = .ok (x, q)) : q = p.next ∧ isName x = true := by
  have h0 := name_len h
  unfold PS.name at h
  split at h
  · cases h
  split at h
  · cases h
  · cases h
    exact ⟨rfl, h0.2.2.2.1⟩
/-- Reading a type adds nodes that are whole. -/
def Ext (T : Bool → List Int → PS → PR Int) : Prop := ∀ u a p n q, TokOk p → T u a p = .ok (n, q) → TokOk q ∧ 0 ≤ n ∧ n < (q.nodes.length : Int) ∧ ∃ ext, q.nodes = p.nodes ++ ext ∧ ∀ x ∈ ext, GN q.nodes.length x ∧ Whole x

theorem mod_mid (pre e : List Nod) (y : Nod) (f : Nod → Nod) (p : PS) (n : Int) (hn : n = (pre.length : Int)) (hp : p.nodes = pre ++ y :: e) : (p.mod n f).nodes = pre ++ f y :: e := by
  simp only [PS.mod, modNode, hp, hn, Int.toNat_natCast]
  clear hp hn
  induction pre with
  | nil => rfl
  | cons a r ih => simpa using ih

/-- What is behind the open node. -/
def AllG (N : Nat) (e : List Nod) : Prop := ∀ x ∈ e, GN N x ∧ Whole x
theorem AllG.mono {N M : Nat} {e : List Nod} (h : AllG N e) (hm : N ≤ M) : AllG M e := fun x hx => ⟨(h x hx).1.mono hm, (h x hx).2⟩
theorem AllG.app {N : Nat} {e e' : List Nod} (h : AllG N e) (h' : AllG N e') : AllG N (e ++ e') := fun x hx => by
  rcases List.mem_append.1 hx with hx | hx
  · exact h x hx
  · exact h' x hx
/-- The parser's state with the node y open behind the nodes pre. -/
structure Open (pre : List Nod) (y : Nod) (p : PS) : Prop where
  tok : TokOk p
  ex : ∃ e, p.nodes = pre ++ y :: e ∧ AllG p.nodes.length e
theorem Open.of_next {pre : List Nod} {y : Nod} {p : PS} (h : Open pre y p) : Open pre y p.next := ⟨h.tok.next, h.ex⟩
theorem Open.of_goes {pre : List Nod} {y : Nod} {p q : PS} {s : ByteArray} {x : Bool} (h : Open pre y p) (hg : p.goes s = (x, q)) : Open pre y q := by
  rcases goes_ok hg with rfl | rfl
  · exact h.of_next
  · exact h
theorem Open.put {pre : List Nod} {y : Nod} {p : PS} (h : Open pre y p) (n : Int) (hn : n = (pre.length : Int)) (f : Nod → Nod) : Open pre (f y) (p.mod n f) := by
  obtain ⟨e, he, hg⟩ := h.ex
  refine ⟨h.tok.mod n f, e, mod_mid pre e y f p n hn he, ?_⟩
  rw [(mod_len p n f).2]
  exact hg
theorem Open.typed {T : Bool → List Int → PS → PR Int} (HT : Ext T) {pre : List Nod} {y : Nod} {p q : PS} (h : Open pre y p) {u : Bool} {a : List Int} {n : Int} (ht : T u a p = .ok (n, q)) : Open pre y q ∧ 0 ≤ n ∧ n < (q.nodes.length : Int) ∧ p.nodes.length ≤ q.nodes.length := by
  obtain ⟨e, he, hg⟩ := h.ex
  obtain ⟨h1, h2, h3, ext, h4, h5⟩ := HT _ _ _ _ _ h.tok ht
  have hle : p.nodes.length ≤ q.nodes.length := by rw [h4, List.length_append]; omega
  exact ⟨⟨h1, e ++ ext, by rw [h4, he]; simp, (hg.mono hle).app h5⟩, h2, h3, hle⟩
/-- The open node is shut. -/
theorem Open.shut {pre : List Nod} {y : Nod} {p : PS} (h : Open pre y p) (hy : GN p.nodes.length y) (hw : Whole y) : TokOk p ∧ (pre.length : Int) < (p.nodes.length : Int) ∧ ∃ ext, p.nodes = pre ++ ext ∧ ∀ x ∈ ext, GN p.nodes.length x ∧ Whole x := by
  obtain ⟨e, he, hg⟩ := h.ex
  refine ⟨h.tok, by rw [he, List.length_append, List.length_cons]; omega, y :: e, he, fun x hx => ?_⟩
  rcases List.mem_cons.1 hx with rfl | hx
  · exact ⟨hy, hw⟩
  · exact hg x hx
theorem Open.size {pre : List Nod} {y : Nod} {p : PS} (h : Open pre y p) (n : Int) (f : Nod → Nod) : (p.mod n f).nodes.length = p.nodes.length := (mod_len p n f).2

section
variable {T : Bool → List Int → PS → PR Int} (HT : Ext T) {pre : List Nod} {n : Int} (hn : n = (pre.length : Int))
include HT hn
theorem item_good {y : Nod} {s : ByteArray} {p q : PS} {u : Unit} (h : Open pre y p) (hy : GN p.nodes.length y) (hp : pItem T n s p = .ok (u, q)) : ∃ y', Open pre y' q ∧ GN q.nodes.length y' ∧ y'.f4.length = 1 ∧ y'.f0 = y.f0 := by
  unfold pItem at hp
  split at hp
  · cases hp
  · rename_i x q1 h1
    obtain ⟨o1, x0, x1, hle⟩ := h.typed HT h1
    rw [must_ok hp]
    refine ⟨_, (o1.put n hn fun y => { y with f4 := [x] }).of_next, ?_, rfl, rfl⟩
    rw [(next_len _).2, (mod_len q1 n _).2]
    have := hy.mono hle
    exact ⟨this.name, this.symn, this.syms, by simp, fun i hi => by rw [List.mem_singleton.1 hi]; exact ⟨x0, x1⟩, this.fldn, this.flds, this.num, this.kind⟩
theorem union_good {q : PS} {u : Unit} : ∀ (k : Nat) (l : List Int) (y : Nod) (p : PS), Open pre y p → GN p.nodes.length y → (∀ i ∈ l, 0 ≤ i ∧ i < (p.nodes.length : Int)) → l.length + k ≤ 2000 → pUnion T n k l p = .ok (u, q) → ∃ y', Open pre y' q ∧ GN q.nodes.length y' ∧ y'.f0 = y.f0 := by
  intro k
  induction k with
  | zero => intro l y p _ _ _ _ hp; cases hp
  | succ k ih =>
    intro l y p h hy hl hk hp
    rw [pUnion_succ] at hp
    split at hp
    · cases hp
    · rename_i x q1 h1
      obtain ⟨o1, x0, x1, hle⟩ := h.typed HT h1
      have hy1 := hy.mono hle
      have hl1 : ∀ i ∈ l ++ [x], 0 ≤ i ∧ i < (q1.nodes.length : Int) := fun i hi => by
        rcases List.mem_append.1 hi with hi | hi
        · have := hl i hi; exact ⟨this.1, by omega⟩
        · rw [List.mem_singleton.1 hi]; exact ⟨x0, x1⟩
      split at hp
      · rename_i q2 h2
        cases hp
        have o2 : Open pre y q2 := o1.of_goes h2
        have e2 := (goes_len h2).2.1
        refine ⟨_, o2.put n hn fun y => { y with f4 := l ++ [x] }, ?_, rfl⟩
        rw [(mod_len q2 n _).2, e2]
        exact ⟨hy1.name, hy1.symn, hy1.syms, by simp; omega, hl1, hy1.fldn, hy1.flds, hy1.num, hy1.kind⟩
      · rename_i q2 h2
        have o2 : Open pre y q2 := o1.of_goes h2
        have e2 := (goes_len h2).2.1
        split at hp
        · cases hp
        · rename_i q3 h3
          have e3 := (must_len h3).2
          obtain rfl := must_ok h3
          exact ih (l ++ [x]) y _ o2.of_next (by rw [e3, e2]; exact hy1) (by rw [e3, e2]; exact hl1) (by simp; omega) hp
omit HT in
theorem syms_good {q : PS} {u : Unit} : ∀ (k : Nat) (l : List ByteArray) (y : Nod) (p : PS), Open pre y p → GN p.nodes.length y → (∀ s ∈ l, s.size ≤ 4096) → l.length + k ≤ 2000 → pSyms n k l p = .ok (u, q) → ∃ y', Open pre y' q ∧ GN q.nodes.length y' ∧ y'.f0 = y.f0 := by
  intro k
  induction k with
  | zero => intro l y p _ _ _ _ hp; cases hp
  | succ k ih =>
    intro l y p h hy hl hk hp
    rw [pSyms_succ] at hp
    split at hp
    · cases hp
    · rename_i x q1 h1
      obtain ⟨rfl, hx⟩ := name_ok' h1
      have hl1 : ∀ s ∈ l ++ [x], s.size ≤ 4096 := fun s hs => by
        rcases List.mem_append.1 hs with hs | hs
        · exact hl s hs
        · rw [List.mem_singleton.1 hs]; exact (isName_size hx).2
      split at hp
      · rename_i q2 h2
        cases hp
        have o2 : Open pre y q2 := h.of_next.of_goes h2
        have e2 := (goes_len h2).2.1
        refine ⟨_, o2.put n hn fun y => { y with f3 := l ++ [x] }, ?_, rfl⟩
        rw [(mod_len q2 n _).2, e2]
        exact ⟨hy.name, by simp; omega, hl1, hy.itemn, hy.items, hy.fldn, hy.flds, hy.num, hy.kind⟩
      · rename_i q2 h2
        have o2 : Open pre y q2 := h.of_next.of_goes h2
        have e2 := (goes_len h2).2.1
        split at hp
        · cases hp
        · rename_i q3 h3
          have e3 := (must_len h3).2
          obtain rfl := must_ok h3
          exact ih (l ++ [x]) y _ o2.of_next (by rw [e3, e2]; exact hy) hl1 (by simp; omega) hp
theorem fields_good {q : PS} {u : Unit} : ∀ (k : Nat) (l : List Fld) (y : Nod) (p : PS), Open pre y p → GN p.nodes.length y → (∀ f ∈ l, f.f0.size ≤ 4096 ∧ 0 ≤ f.f2 ∧ f.f2 < (p.nodes.length : Int)) → l.length + k ≤ 2000 → pFields T n k l p = .ok (u, q) → ∃ y', Open pre y' q ∧ GN q.nodes.length y' ∧ y'.f0 = y.f0 := by
  intro k
  induction k with
  | zero => intro l y p _ _ _ _ hp; cases hp
  | succ k ih =>
    intro l y p h hy hl hk hp
    rw [pFields_succ] at hp
    split at hp
    · rename_i q2 h2
      cases hp
      have o2 : Open pre y q2 := h.of_goes h2
      have e2 := (goes_len h2).2.1
      refine ⟨_, o2.put n hn fun y => { y with f5 := l }, ?_, rfl⟩
      rw [(mod_len q2 n _).2, e2]
      exact ⟨hy.name, hy.symn, hy.syms, hy.itemn, hy.items, by show l.length ≤ 2000; omega, hl, hy.num, hy.kind⟩
    · rename_i q1 h1
      have o1 : Open pre y q1 := h.of_goes h1
      have e1 := (goes_len h1).2.1
      split at hp
      · cases hp
      · rename_i x q2 h2
        obtain ⟨rfl, hx⟩ := name_ok' h2
        have o2 := o1.of_next
        split at hp
        rename_i has q3 h3
        have o3 : Open pre y q3 := o2.of_goes h3
        have e3 := (goes_len h3).2.1
        split at hp
        · cases hp
        · rename_i q4 h4
          have e4 := (must_len h4).2
          obtain rfl := must_ok h4
          split at hp
          · cases hp
          · rename_i t q5 h5
            obtain ⟨o5, t0, t1, hle⟩ := o3.of_next.typed HT h5
            have hle : p.nodes.length ≤ q5.nodes.length := by
              rw [e4, e3, (next_len q1).2, e1] at hle
              exact hle
            split at hp
            · cases hp
            · rename_i q6 h6
              have e6 := (must_len h6).2
              obtain rfl := must_ok h6
              refine ih (l ++ [⟨x, has, t⟩]) y _ o5.of_next (by rw [e6]; exact hy.mono hle) (fun f hf => ?_) (by simp; omega) hp
              rw [e6]
              rcases List.mem_append.1 hf with hf | hf
              · have := hl f hf; exact ⟨this.1, this.2.1, by omega⟩
              · rw [List.mem_singleton.1 hf]; exact ⟨(isName_size hx).2, t0, t1⟩
theorem defined_good {y : Nod} {k : Int} {p q : PS} {u : Unit} (h : Open pre y p) (hy : GN p.nodes.length y) (hp : pDefined T n k p = .ok (u, q)) : ∃ y', Open pre y' q ∧ GN q.nodes.length y' ∧ y'.f0 = y.f0 := by
  cases hnm : p.name (fun s => decide (0 ≤ p.called s)) with
  | error e => unfold pDefined at hp; rw [hnm] at hp; cases hp
  | ok r =>
    obtain ⟨s, q1⟩ := r
    rw [pDefined_ok _ _ _ _ _ _ hnm] at hp
    obtain ⟨rfl, hs⟩ := name_ok' hnm
    have o1 := h.of_next.put n hn fun y => { y with f1 := s }
    have hy1 : GN (p.next.mod n fun y => { y with f1 := s }).nodes.length { y with f1 := s } := by
      rw [(mod_len _ n _).2, (next_len p).2]
      exact ⟨(isName_size hs).2, hy.symn, hy.syms, hy.itemn, hy.items, hy.fldn, hy.flds, hy.num, hy.kind⟩
    generalize (p.next.mod n fun y => { y with f1 := s }) = Q at hp o1 hy1
    unfold defRest at hp
    split at hp
    · split at hp
      · cases hp
      · rename_i q2 h2
        have e2 := (must_len h2).2
        obtain rfl := must_ok h2
        obtain ⟨y', a, b, c⟩ := syms_good hn _ _ _ _ o1.of_next (by rw [e2]; exact hy1) (by simp) (by have := o1.of_next.tok.2.1; simpa using this) hp
        exact ⟨y', a, b, c⟩
    · split at hp
      · split at hp
        · cases hp
        · rename_i z hz
          split at hp
          · cases hp
          · cases hp
            refine ⟨_, o1.of_next.put n hn fun y => { y with f2 := z }, ?_, rfl⟩
            rw [(mod_len _ n _).2, (next_len Q).2]
            exact ⟨hy1.name, hy1.symn, hy1.syms, hy1.itemn, hy1.items, hy1.fldn, hy1.flds, isNumber_range hz, hy1.kind⟩
      · split at hp
        · cases hp
        · rename_i q2 h2
          have e2 := (must_len h2).2
          obtain rfl := must_ok h2
          obtain ⟨y', a, b, c⟩ := fields_good HT hn _ _ _ _ o1.of_next (by rw [e2]; exact hy1) (by simp) (by have := o1.of_next.tok.2.1; simpa using this) hp
          exact ⟨y', a, b, c⟩
theorem rest_good {p q : PS} {u : Unit} {k : Int} (hk : 0 ≤ k ∧ k ≤ 11) (h : Open pre (newNod k) p) (hp : pRest T n k p = .ok (u, q)) : ∃ y', Open pre y' q ∧ GN q.nodes.length y' ∧ Whole y' := by
  have hy : GN p.nodes.length (newNod k) := ⟨Nat.zero_le _, Nat.zero_le _, by simp [newNod], Nat.zero_le _, by simp [newNod], Nat.zero_le _, by simp [newNod], ⟨Int.le_refl _, by show (0 : Int) ≤ 4096; decide⟩, hk⟩
  unfold pRest at hp
  split at hp
  · obtain ⟨y', a, b, c, d⟩ := item_good HT hn h hy hp
    exact ⟨y', a, b, fun _ => c⟩
  split at hp
  · obtain ⟨y', a, b, c, d⟩ := item_good HT hn h hy hp
    exact ⟨y', a, b, fun _ => c⟩
  rename_i k6 k7
  have hne : ∀ y' : Nod, y'.f0 = (newNod k).f0 → Whole y' := fun y' e hw => by
    rw [e] at hw
    rcases hw with hw | hw
    · exact absurd hw k6
    · exact absurd hw k7
  split at hp
  · obtain ⟨y', a, b, c⟩ := union_good HT hn _ _ _ _ h hy (by simp) (by have := h.tok.2.1; simpa using this) hp
    exact ⟨y', a, b, hne y' c⟩
  split at hp
  · obtain ⟨y', a, b, c⟩ := defined_good HT hn h hy hp
    exact ⟨y', a, b, hne y' c⟩
  · cases hp
    exact ⟨_, h, hy, hne _ rfl⟩
end
theorem typed_good : ∀ d, Ext (pTyped d) := by
  intro d
  induction d with
  | zero =>
    intro u a p n q _ h
    cases hk : p.kind with
    | error e => rw [pTyped_bad hk] at h; cases h
    | ok k => rw [pTyped_ok hk, if_pos (.inl rfl)] at h; cases h
  | succ d ih =>
    intro u a p n q ht h
    cases hk : p.kind with
    | error e => rw [pTyped_bad hk] at h; cases h
    | ok k =>
      have hkr := kind_ok hk
      rw [pTyped_ok hk] at h
      split at h
      · cases h
      rename_i h200
      split at h
      · cases h
      rename_i h5
      split at h
      · cases h
      split at h
      · cases h
      split at h
      · cases h
      unfold typedRest at h
      split at h
      · rename_i hk0
        cases h
        have := calledFrom_ge p.tok.f1 p.nodes
        have hc : ¬ p.called p.tok.f1 < 0 := fun hc => h5 ⟨hk0, hc⟩
        unfold PS.called at hc ⊢
        rw [(next_len p).2]
        exact ⟨ht.next, by omega, by omega, [], by simp, by simp⟩
      · rename_i hk0
        simp only at h
        split at h
        · cases h
        · rename_i q1 h1
          cases h
          have hl : (p.next.begins k).nodes.length = p.nodes.length + 1 := by simp [PS.begins, PS.next]
          have ho : Open p.nodes (newNod k) (p.next.begins k) := ⟨⟨ht.next.1, ht.next.2.1, by omega⟩, [], rfl, by intro x hx; cases hx⟩
          obtain ⟨y', a1, a2, a3⟩ := rest_good ih rfl ⟨by omega, hkr.2.2.2⟩ ho h1
          obtain ⟨b1, b2, b3⟩ := a1.shut a2 a3
          exact ⟨b1, by omega, b2, b3⟩
/-- What the nodes of a text are like. -/
theorem parse_good (s : ByteArray) (h : (parseSpec s).2.2 = 0) (hw : (wordsSpec s).2.2 = 0 → Good (wordsSpec s).1) : (∀ x ∈ (parseSpec s).1, GN (parseSpec s).1.length x ∧ Whole x) ∧ (parseSpec s).1.length ≤ 200 := by
  unfold parseSpec at h ⊢
  rcases hsp : wordsSpec s with ⟨l, a, y⟩
  rw [hsp] at h hw
  simp only at h hw ⊢
  split
  · rename_i hy; exact ⟨by simp, by simp⟩
  rename_i hy
  rw [if_neg hy] at h
  have hg := hw (by simpa using hy)
  cases hp : pTyped 20 false [] ⟨l, []⟩ with
  | error e => exact ⟨by simp, by simp⟩
  | ok r =>
    obtain ⟨n, q⟩ := r
    rw [hp] at h
    simp only at h ⊢
    split
    · exact ⟨by simp, by simp⟩
    · obtain ⟨htk, _, _, ext, he, hx⟩ := typed_good 20 _ _ _ _ _ (⟨hg.2.1, hg.2.2, Nat.zero_le _⟩ : TokOk ⟨l, []⟩) hp
      rw [List.nil_append] at he
      refine ⟨fun x hx' => hx x (by rw [← he]; exact hx'), ?_⟩
      exact htk.2.2
theorem ownF_le (N : Nat) : ∀ l : List Fld, (∀ f ∈ l, f.f0.size ≤ N) → ownF l ≤ l.length * (N + 3)
  | [], _ => Nat.zero_le _
  | f :: r, h => by
    have h1 := ownF_le N r (fun f hf => h f (List.mem_cons_of_mem _ hf))
    have h2 := h f (List.mem_cons_self ..)
    simp only [ownF, List.length_cons, Nat.succ_mul]
    omega
theorem joinTail_le (N : Nat) : ∀ l : List ByteArray, (∀ s ∈ l, s.size ≤ N) → (Lib.joinTail [44] (l.map (·.data.toList))).length ≤ l.length * (N + 1)
  | [], _ => Nat.zero_le _
  | s :: r, h => by
    have h1 := joinTail_le N r (fun f hf => h f (List.mem_cons_of_mem _ hf))
    have h2 := h s (List.mem_cons_self ..)
    rw [Lib.size_eq] at h2
    simp only [Lib.joinTail, List.map_cons, List.flatten_cons, List.length_append, List.length_cons, List.length_nil, Nat.succ_mul] at h1 ⊢
    omega
theorem join_le (N : Nat) (l : List ByteArray) (h : ∀ s ∈ l, s.size ≤ N) : (Lib.join (l.map (·.data.toList)) [44]).length ≤ l.length * (N + 1) := by
  cases l with
  | nil => exact Nat.zero_le _
  | cons s r =>
    have h1 := joinTail_le N r (fun f hf => h f (List.mem_cons_of_mem _ hf))
    have h2 := h s (List.mem_cons_self ..)
    rw [Lib.size_eq] at h2
    simp only [List.map_cons, Lib.join_cons, List.length_append, List.length_cons, Nat.succ_mul]
    omega
theorem GN.own {N : Nat} {x : Nod} (h : GN N x) : ownN x ≤ 20000000 := by
  have h1 := ownF_le 4096 x.f5 (fun f hf => (h.flds f hf).1)
  have h2 := join_le 4096 x.f3 h.syms
  have h3 := Lib.itoa_length_le x.f2 (by have := h.num; omega) (by have := h.num; omega)
  have h4 := Nat.mul_le_mul_right (4096 + 3) h.fldn
  have h5 := Nat.mul_le_mul_right (4096 + 1) h.symn
  have := h.name
  have := h.itemn
  unfold ownN
  omega
theorem parse_nods (s : ByteArray) (h : (parseSpec s).2.2 = 0) (hw : (wordsSpec s).2.2 = 0 → Good (wordsSpec s).1) : NodsOk 20000000 (parseSpec s).1 := by
  have hg := parse_good s h hw
  exact ⟨fun x hx => (hg.1 x hx).1.own, fun x hx => by have := (hg.1 x hx).1.num; omega, by decide, by have := hg.2; omega⟩
end Go.Proofs.YtkafikdjhiienaaGreatDoor

/- same -/
namespace Go.Proofs.YtkafikdjhiienaaGreatDoor
open Go.RowKit Go.Proofs.YtkafikdjhiienaaGreatDoorW.PrintWords

theorem eqLoop {α : Type} [DecidableEq α] (xs ys : List α) (hl : xs.length = ys.length) (L : Nat → Int → Option Bool)
    (hstep : ∀ k (i : Nat) (x y : α), xs[i]? = some x → ys[i]? = some y → L (k + 1) i = if x = y then L k ((i : Int) + 1) else some false) (hend : ∀ k, L (k + 1) xs.length = some true) :
    ∀ (d k i : Nat), i ≤ xs.length → xs.length - i = d → d < k → L k i = some (decide (xs.drop i = ys.drop i)) := by
  intro d
  induction d with
  | zero =>
    intro k i h1 h2 h3
    obtain ⟨k, rfl⟩ : ∃ m, k = m + 1 := ⟨k - 1, by omega⟩
    obtain rfl : i = xs.length := by omega
    rw [hend, List.drop_length, hl, List.drop_length]; rfl
  | succ d ih =>
    intro k i h1 h2 h3
    obtain ⟨k, rfl⟩ : ∃ m, k = m + 1 := ⟨k - 1, by omega⟩
    have hx : i < xs.length := by omega
    have hy : i < ys.length := by omega
    rw [hstep k i xs[i] ys[i] (List.getElem?_eq_getElem hx) (List.getElem?_eq_getElem hy)]
    have e := ih k (i + 1) (by omega) (by omega) (by omega)
    have key : (xs.drop i = ys.drop i) ↔ (xs[i] = ys[i] ∧ xs.drop (i + 1) = ys.drop (i + 1)) := by
      rw [List.drop_eq_getElem_cons hx, List.drop_eq_getElem_cons hy, List.cons.injEq]
    by_cases h : xs[i] = ys[i]
    · rw [if_pos h]
      have : ((i : Int) + 1) = ((i + 1 : Nat) : Int) := by omega
      rw [this, e]
      exact congrArg some (decide_eq_decide.2 ⟨fun t => key.2 ⟨h, t⟩, fun t => (key.1 t).2⟩)
    · rw [if_neg h]
      exact congrArg some (decide_eq_false (fun t => h (key.1 t).1)).symm
theorem wrap_ok {i n : Nat} (h : i < n) (hn : n ≤ 9223372036854775807) : wrap64 ((i : Int) + 1) = (i : Int) + 1 := by unfold wrap64; omega
theorem toList_inj (a b : ByteArray) : (a.toList = b.toList) = (a = b) := by
  apply propext
  constructor
  · intro e
    rw [Lib.toList_data, Lib.toList_data] at e
    exact ByteArray.ext (Array.ext' e)
  · rintro rfl; rfl

theorem eqStr (xs ys : List ByteArray) (hx : xs.length ≤ 9223372036854775807) (k : Nat) (hk : xs.length < k) : PPolicyHolds.slices_Equal_string_string.f k xs ys = some (decide (xs = ys)) := by
  unfold PPolicyHolds.slices_Equal_string_string.f
  by_cases hl : xs.length = ys.length
  · rw [if_pos (by omega)]
    refine (eqLoop xs ys hl (fun k i => PPolicyHolds.slices_Equal_string_string.l0 k xs ys (xs.length : Int) i) (fun k i x y h1 h2 => ?_) (fun k => ?_) xs.length k 0 (Nat.zero_le _) (by omega) hk).trans (by simp)
    · have g1 := (List.getElem?_eq_some_iff.1 h1).1
      have g2 := (List.getElem?_eq_some_iff.1 h2).1
      have r1 : rdOf ByteArray.empty xs (i : Int) = x := by simp [rdOf, List.getD_eq_getElem?_getD, h1]
      have r2 : rdOf ByteArray.empty ys (i : Int) = y := by simp [rdOf, List.getD_eq_getElem?_getD, h2]
      simp only [PPolicyHolds.slices_Equal_string_string.l0]
      rw [if_pos (by omega), if_pos (by omega), if_pos (by omega), if_pos (by omega), r1, r2, wrap_ok g1 hx]
      simp only [toList_inj]
    · simp only [PPolicyHolds.slices_Equal_string_string.l0]
      rw [if_neg (by omega)]
  · rw [if_neg (by omega)]
    have : xs ≠ ys := fun e => hl (by rw [e])
    simp [this]
theorem eqInt (xs ys : List Int) (hx : xs.length ≤ 9223372036854775807) (k : Nat) (hk : xs.length < k) : PPolicyHolds.slices_Equal_int_int.f k xs ys = some (decide (xs = ys)) := by
  unfold PPolicyHolds.slices_Equal_int_int.f
  by_cases hl : xs.length = ys.length
  · rw [if_pos (by omega)]
    refine (eqLoop xs ys hl (fun k i => PPolicyHolds.slices_Equal_int_int.l0 k xs ys (xs.length : Int) i) (fun k i x y h1 h2 => ?_) (fun k => ?_) xs.length k 0 (Nat.zero_le _) (by omega) hk).trans (by simp)
    · have g1 := (List.getElem?_eq_some_iff.1 h1).1
      have g2 := (List.getElem?_eq_some_iff.1 h2).1
      have r1 : rd xs (i : Int) = x := by simp [rd, List.getD_eq_getElem?_getD, h1]
      have r2 : rd ys (i : Int) = y := by simp [rd, List.getD_eq_getElem?_getD, h2]
      simp only [PPolicyHolds.slices_Equal_int_int.l0]
      rw [if_pos (by omega), if_pos (by omega), if_pos (by omega), if_pos (by omega), r1, r2, wrap_ok g1 hx]
    · simp only [PPolicyHolds.slices_Equal_int_int.l0]
      rw [if_neg (by omega)]
  · rw [if_neg (by omega)]
    have : xs ≠ ys := fun e => hl (by rw [e])
    simp [this]
theorem eqFld (xs ys : List Fld) (hx : xs.length ≤ 9223372036854775807) (k : Nat) (hk : xs.length < k) : PPolicyHolds.api_Field.f k xs ys = some (decide (xs = ys)) := by
  unfold PPolicyHolds.api_Field.f
  by_cases hl : xs.length = ys.length
  · rw [if_pos (by omega)]
    refine (eqLoop xs ys hl (fun k i => PPolicyHolds.api_Field.l0 k xs ys (xs.length : Int) i) (fun k i x y h1 h2 => ?_) (fun k => ?_) xs.length k 0 (Nat.zero_le _) (by omega) hk).trans (by simp)
    · have g1 := (List.getElem?_eq_some_iff.1 h1).1
      have g2 := (List.getElem?_eq_some_iff.1 h2).1
      have r1 : PPolicyHolds.rd_T155 xs (i : Int) = x := by simp [PPolicyHolds.rd_T155, List.getD_eq_getElem?_getD, h1]
      have r2 : PPolicyHolds.rd_T155 ys (i : Int) = y := by simp [PPolicyHolds.rd_T155, List.getD_eq_getElem?_getD, h2]
      simp only [PPolicyHolds.api_Field.l0]
      rw [if_pos (by omega), if_pos (by omega), if_pos (by omega), if_pos (by omega), r1, r2, wrap_ok g1 hx]
      by_cases h : x = y
      · subst h
        simp
      · rw [if_neg h, if_pos]
        cases x; cases y
        simp only [Bool.or_eq_true, Bool.not_eq_true', beq_eq_false_iff_ne, ne_eq, toList_inj]
        rename_i a b c a' b' c'
        by_cases ha : a = a'
        · by_cases hb : b = b'
          · right; right; intro hc; exact h (by rw [ha, hb, hc])
          · right; left; exact hb
        · left; exact ha
    · simp only [PPolicyHolds.api_Field.l0]
      rw [if_neg (by omega)]
  · rw [if_neg (by omega)]
    have : xs ≠ ys := fun e => hl (by rw [e])
    simp [this]
theorem sameNode_f (a b : Nod) (h3 : a.f3.length ≤ 9223372036854775807) (h4 : a.f4.length ≤ 9223372036854775807) (h5 : a.f5.length ≤ 9223372036854775807) :
    ∃ k, PPolicyHolds.parse_sameNode.f k a.f0 a.f1 a.f2 a.f3 a.f4 a.f5 b.f0 b.f1 b.f2 b.f3 b.f4 b.f5 = some (decide (a = b)) := by
  refine ⟨a.f3.length + a.f4.length + a.f5.length + 1, ?_⟩
  unfold PPolicyHolds.parse_sameNode.f
  rw [eqStr a.f3 b.f3 h3 _ (by omega), eqInt a.f4 b.f4 h4 _ (by omega), eqFld a.f5 b.f5 h5 _ (by omega)]
  simp only [toList_inj, Option.bind_some]
  have key : (a = b) = (a.f0 = b.f0 ∧ a.f1 = b.f1 ∧ a.f2 = b.f2 ∧ a.f3 = b.f3 ∧ a.f4 = b.f4 ∧ a.f5 = b.f5) := by cases a; cases b; simp
  by_cases e0 : a.f0 = b.f0
  · by_cases e1 : a.f1 = b.f1
    · by_cases e2 : a.f2 = b.f2
      · by_cases e3 : a.f3 = b.f3
        · by_cases e4 : a.f4 = b.f4
          · by_cases e5 : a.f5 = b.f5
            · simp [key, e0, e1, e2, e3, e4, e5]
            · simp [key, e0, e1, e2, e3, e4, e5]
          · simp [key, e0, e1, e2, e3, e4]
        · simp [key, e0, e1, e2, e3]
      · simp [key, e0, e1, e2]
    · simp [key, e0, e1]
  · simp [key, e0]

/-- A node by value, as a function takes it. -/
abbrev encNod (x : Nod) (A3 A4 A5 : Option Addr) (c3 c4 c5 : Nat) : Value := .agg #[.int .i64 x.f0, .string x.f1, .int .i64 x.f2, .slice A3 x.f3.length c3, .slice A4 x.f4.length c4, .slice A5 x.f5.length c5]
theorem sameNode_calls (a b : Nod) (w : World) {A3 A4 A5 B3 B4 B5 : Option Addr} {c3 c4 c5 d3 d4 d5 : Nat} (h3 : Kd.string.C w A3 a.f3.length a.f3) (k3 : a.f3.length ≤ c3) (h4 : (Kd.int .i64).C w A4 a.f4.length a.f4) (k4 : a.f4.length ≤ c4) (h5 : kFld.C w A5 a.f5.length a.f5) (k5 : a.f5.length ≤ c5)
    (g3 : Kd.string.C w B3 b.f3.length b.f3) (l3 : b.f3.length ≤ d3) (g4 : (Kd.int .i64).C w B4 b.f4.length b.f4) (l4 : b.f4.length ≤ d4) (g5 : kFld.C w B5 b.f5.length b.f5) (l5 : b.f5.length ≤ d5) :
    Calls Tryz.prog 102 #[encNod a A3 A4 A5 c3 c4 c5, encNod b B3 B4 B5 d3 d4 d5] w fun e w' => e = .returned (.bool (decide (a = b))) ∧ Below w.heap.size w w' := by
  obtain ⟨k, hk⟩ := sameNode_f a b (Kd.C_max h3) (Kd.C_max h4) (Kd.C_max h5)
  exact PPolicyHolds.parse_sameNode.calls k _ _ _ A3 c3 _ A4 c4 _ A5 c5 _ _ _ _ B3 d3 _ B4 d4 _ B5 d5 _ _ w h3 k3 h4 k4 h5 k5 g3 l3 g4 l4 g5 l5 hk
end Go.Proofs.YtkafikdjhiienaaGreatDoor
