/- Texts of a program's lexer and reader, step by step: what each function answers, and that memory below its start stays. -/
import Derived.Test.YtkafikdjhiienaaGreatDoorProg
import Derived.Test.YtkafikdjhiienaaGreatDoorWWords
import Derived.WalkSpells
import Derived.WalkLawsBesides
import Derived.Outline
import Derived.Lib.Strings
import Derived.Test.YtkafikdjhiienaaGreatDoorPPolicyHoldsx0
import Derived.RangeFuncNested
import Derived.RangeFuncBound
import Derived.RangeFuncCalls
import Derived.RangeFuncLeaves
import Derived.RangeFuncBox
import Derived.Shelf.Abstract
import Derived.Shelf.RegionOpen
import Derived.OwnWalkIn
import Derived.TacticsInMore
import Derived.LoopNIn
import Derived.LoopIn
import Derived.Test.YtkafikdjhiienaaGreatDoorShelf
import Derived.Lib.SlicesS
import Derived.Maps.OwnOps
import Derived.Maps.Views
import Derived.Maps.OwnSet
import Derived.Maps.Keyed
import Derived.Lib.LaidTab
set_option linter.unusedVariables false
set_option linter.unusedSimpArgs false
/- lex -/
namespace Go.Proofs.YtkafikdjhiienaaGreatDoor
open Go.RowKit Go.Proofs.YtkafikdjhiienaaGreatDoorW.PrintWords

/-- A drawn world handed on. -/
theorem drawn_trans {a b c : World} (h : Drawn0 a b) (k : Drawn0 b c) : Drawn0 a c := by obtain ⟨m, rfl⟩ := k; exact h.step m
theorem below_drawn {B : Nat} {a b c : World} (h : Below B a b) (k : Drawn0 b c) : Below B a c := by obtain ⟨m, rfl⟩ := k; exact pw_below_drewN h m

theorem bt_nat (s : ByteArray) (n : Nat) : ∀ h : n < s.size, ((s[n]'h).toNat : Int) = bt s n := fun h => by simp [bt, h]

def isLetter (c : Int) : Bool := decide (97 ≤ c) && decide (c ≤ 122)
def isDigit (c : Int) : Bool := decide (48 ≤ c) && decide (c ≤ 57)
def isInner (c : Int) : Bool := isLetter c || isDigit c || c == 95
def notNL (c : Int) : Bool := c != 10
def isBlank (c : Int) : Bool := c == 32 || c == 9 || c == 10 || c == 13

theorem letter_calls (c : Int) (w : World) : Calls Tryz.prog 105 #[.int .u8 c] w fun e w' => e = .returned (.bool (isLetter c)) ∧ Drawn0 w w' := by
  by_cases h : 97 ≤ c
  · have hb : decide (97 ≤ c) = true := decide_eq_true h
    have E := Aside0.mk (show isLetter c = decide (c ≤ 122) by simp [isLetter, h])
    clear h
    go_enter Tryz.func105, Tryz.ntmps105
    go_wp2
    go_ret
    exact ⟨by rw [E.out]; rfl, Drawn0.refl _⟩
  · have hb : decide (97 ≤ c) = false := decide_eq_false h
    have E := Aside0.mk (show isLetter c = false by simp [isLetter, h])
    clear h
    go_enter Tryz.func105, Tryz.ntmps105
    go_wp2
    go_ret
    exact ⟨by rw [E.out]; rfl, Drawn0.refl _⟩

theorem digit_calls (c : Int) (w : World) : Calls Tryz.prog 108 #[.int .u8 c] w fun e w' => e = .returned (.bool (isDigit c)) ∧ Drawn0 w w' := by
  by_cases h : 48 ≤ c
  · have hb : decide (48 ≤ c) = true := decide_eq_true h
    have E := Aside0.mk (show isDigit c = decide (c ≤ 57) by simp [isDigit, h])
    clear h
    go_enter Tryz.func108, Tryz.ntmps108
    go_wp2
    go_ret
    exact ⟨by rw [E.out]; rfl, Drawn0.refl _⟩
  · have hb : decide (48 ≤ c) = false := decide_eq_false h
    have E := Aside0.mk (show isDigit c = false by simp [isDigit, h])
    clear h
    go_enter Tryz.func108, Tryz.ntmps108
    go_wp2
    go_ret
    exact ⟨by rw [E.out]; rfl, Drawn0.refl _⟩

theorem inner_calls (c : Int) (w : World) : Calls Tryz.prog 107 #[.int .u8 c] w fun e w' => e = .returned (.bool (isInner c)) ∧ Drawn0 w w' := by
  have HL := Aside0.mk (letter_calls c)
  have HD := Aside0.mk (digit_calls c)
  cases hl : isLetter c with
  | true =>
    rw [hl] at HL
    have E := Aside0.mk (show isInner c = true by simp [isInner, hl])
    clear hl
    go_enter Tryz.func107, Tryz.ntmps107
    go_wp2_with (refine (HL.out _).mono ?_; rintro e w1 ⟨rfl, ⟨n1, rfl⟩⟩)
    go_ret
    exact ⟨by rw [E.out]; rfl, (Drawn0.refl _).step _⟩
  | false =>
    rw [hl] at HL
    cases hd : isDigit c with
    | true =>
      rw [hd] at HD
      have E := Aside0.mk (show isInner c = true by simp [isInner, hl, hd])
      clear hl hd
      go_enter Tryz.func107, Tryz.ntmps107
      go_wp2_with (first | (go_at_call 105; refine (HL.out _).mono ?_; rintro e w1 ⟨rfl, ⟨n1, rfl⟩⟩) | (go_at_call 108; refine (HD.out _).mono ?_; rintro e w1 ⟨rfl, ⟨n2, rfl⟩⟩))
      go_ret
      exact ⟨by rw [E.out]; rfl, (Drawn0.refl _).step _⟩
    | false =>
      rw [hd] at HD
      have E := Aside0.mk (show isInner c = (c == 95) by simp [isInner, hl, hd])
      clear hl hd
      go_enter Tryz.func107, Tryz.ntmps107
      go_wp2_with (first | (go_at_call 105; refine (HL.out _).mono ?_; rintro e w1 ⟨rfl, ⟨n1, rfl⟩⟩) | (go_at_call 108; refine (HD.out _).mono ?_; rintro e w1 ⟨rfl, ⟨n2, rfl⟩⟩))
      go_ret
      exact ⟨by rw [E.out]; rfl, (Drawn0.refl _).step _⟩

theorem notNL_calls (c : Int) (w : World) : Calls Tryz.prog 136 #[.int .u8 c] w fun e w' => e = .returned (.bool (notNL c)) ∧ Drawn0 w w' := by
  have E := Aside0.mk (show notNL c = (c != 10) from rfl)
  go_enter Tryz.func136, Tryz.ntmps136
  go_wp2
  go_ret
  exact ⟨by rw [E.out]; rfl, Drawn0.refl _⟩

/-- 'run': how many bytes from a place on are of a sort. -/
def runLen (p : Int → Bool) (s : ByteArray) (a : Nat) : Nat → Nat
  | 0 => 0
  | k + 1 => if a < s.size ∧ p (bt s a) = true then runLen p s (a + 1) k + 1 else 0
def runOf (p : Int → Bool) (s : ByteArray) (a : Nat) : Nat := runLen p s a (s.size - a)
theorem runLen_le (p : Int → Bool) (s : ByteArray) (k : Nat) : ∀ a, runLen p s a k ≤ k := by
  induction k with
  | zero => intro a; exact Nat.le_refl _
  | succ k ih =>
    intro a
    have := ih (a + 1)
    simp only [runLen]
    split <;> omega
theorem runOf_le (p : Int → Bool) (s : ByteArray) (a : Nat) (ha : a ≤ s.size) : a + runOf p s a ≤ s.size := by
  have := runLen_le p s (s.size - a) a
  unfold runOf; omega
theorem runOf_eq (p : Int → Bool) (s : ByteArray) (a : Nat) (ha : a < s.size) : runOf p s a = if p (bt s a) = true then runOf p s (a + 1) + 1 else 0 := by
  unfold runOf
  rw [show s.size - a = (s.size - (a + 1)) + 1 by omega]
  simp only [runLen, ha, true_and]
theorem runOf_end (p : Int → Bool) (s : ByteArray) (a : Nat) (ha : s.size ≤ a) : runOf p s a = 0 := by
  unfold runOf; rw [show s.size - a = 0 by omega]; rfl

set_option maxHeartbeats 400000 in
theorem run_any (g : Nat) (p : Int → Bool) (s : ByteArray) (a : Nat) (w : World) (hs : s.size ≤ 140737488351232) (ha : a ≤ s.size)
   (hcall : ∀ (w : World) (c : Int), (callFunc g #[.int .u8 c]).run Tryz.prog w = .ok (.enter g #[.int .u8 c]) w)
   (hg : ∀ (c : Int) (w : World), Calls Tryz.prog g #[.int .u8 c] w fun e w' => e = .returned (.bool (p c)) ∧ Drawn0 w w') :
   Calls Tryz.prog 106 #[.string s, .int .i64 a, .func (.func g) #[] #[]] w fun e w' => e = .returned (.int .i64 (runOf p s a)) ∧ Drawn0 w w' := by
  have HG := Aside0.mk hg
  clear hg
  go_enter Tryz.func106, Tryz.ntmps106
  go_wp2
  go_loopw [7] (fun v wr => ∃ n : Nat, v = .int .i64 n ∧ a + n ≤ s.size ∧ Aside0 (runOf p s a = n + runOf p s (a + n)) ∧ Drawn0 w wr) (fun v _ => s.size - (a + (intOf v).toNat))
  case atStart => exact ⟨0, rfl, by omega, ⟨by simp⟩, Drawn0.refl _⟩
  case round =>
    obtain ⟨n, rfl, hn, hr, hd⟩ := hrel
    by_cases hlt : a + n < s.size
    · have hx := bt_at s (a + n)
      have E : Aside0 (runOf p s (a + n) = if p (bt s ((a : Int) + (n : Int))) = true then runOf p s (a + (n + 1)) + 1 else 0) := ⟨by have := runOf_eq p s (a + n) hlt; push_cast at this; exact this⟩
      by_cases hp : p (bt s (a + n)) = true
      · go_wp2_with (refine (HG.out _ _).mono ?_; rintro e w1 ⟨rfl, hd1⟩)
        go_roundw
        case rel => exact ⟨n + 1, by go_num, by omega, ⟨by rw [hr.out, E.out, if_pos hp]; omega⟩, drawn_trans hd hd1⟩
        case measure => simp [intOf]; omega
      · have hp : p (bt s (a + n)) = false := by simpa using hp
        go_wp2_with (refine (HG.out _ _).mono ?_; rintro e w1 ⟨rfl, hd1⟩)
        go_ret
        refine ⟨?_, drawn_trans hd hd1⟩
        rw [hr.out, E.out, hp]; simp
    · go_wp2
      go_ret
      refine ⟨?_, hd⟩
      rw [hr.out, runOf_end _ _ _ (by omega)]; simp

theorem run_inner (s : ByteArray) (a : Nat) (w : World) (hs : s.size ≤ 140737488351232) (ha : a ≤ s.size) :
    Calls Tryz.prog 106 #[.string s, .int .i64 a, .func (.func 107) #[] #[]] w fun e w' => e = .returned (.int .i64 (runOf isInner s a)) ∧ Drawn0 w w' :=
  run_any 107 isInner s a w hs ha (fun _ _ => by go_simp) inner_calls
theorem run_digit (s : ByteArray) (a : Nat) (w : World) (hs : s.size ≤ 140737488351232) (ha : a ≤ s.size) :
    Calls Tryz.prog 106 #[.string s, .int .i64 a, .func (.func 108) #[] #[]] w fun e w' => e = .returned (.int .i64 (runOf isDigit s a)) ∧ Drawn0 w w' :=
  run_any 108 isDigit s a w hs ha (fun _ _ => by go_simp) digit_calls
theorem run_notNL (s : ByteArray) (a : Nat) (w : World) (hs : s.size ≤ 140737488351232) (ha : a ≤ s.size) :
    Calls Tryz.prog 106 #[.string s, .int .i64 a, .func (.func 136) #[] #[]] w fun e w' => e = .returned (.int .i64 (runOf notNL s a)) ∧ Drawn0 w w' :=
  run_any 136 notNL s a w hs ha (fun _ _ => by go_simp) notNL_calls
end Go.Proofs.YtkafikdjhiienaaGreatDoor

/- lex2 -/
namespace Go.Proofs.YtkafikdjhiienaaGreatDoor
open Go.RowKit Go.Proofs.YtkafikdjhiienaaGreatDoorW.PrintWords

/-- 'skip': the place of the next byte that is no blank, nor in a remark. -/
def skipTo (s : ByteArray) : Nat → Nat → Nat
  | 0, a => a
  | k + 1, a => if a < s.size then (if bt s a = 35 then skipTo s k (a + runOf notNL s a) else if isBlank (bt s a) = true then skipTo s k (a + 1) else a) else a
theorem skipTo_succ (s : ByteArray) (k a : Nat) : skipTo s (k + 1) a = if a < s.size then (if bt s a = 35 then skipTo s k (a + runOf notNL s a) else if isBlank (bt s a) = true then skipTo s k (a + 1) else a) else a := rfl
def skipOf (s : ByteArray) (a : Nat) : Nat := skipTo s (s.size - a) a
theorem skipTo_le (s : ByteArray) (k : Nat) : ∀ a, a ≤ s.size → a ≤ skipTo s k a ∧ skipTo s k a ≤ s.size := by
  induction k with
  | zero => intro a h; exact ⟨Nat.le_refl _, h⟩
  | succ k ih =>
    intro a h
    simp only [skipTo]
    split
    · split
      · have := runOf_le notNL s a h
        have := ih (a + runOf notNL s a) this
        omega
      · split
        · have := ih (a + 1) (by omega)
          omega
        · omega
    · omega
theorem runOf_hash (s : ByteArray) (a : Nat) (h : a < s.size) (hc : bt s a = 35) : 1 ≤ runOf notNL s a := by
  rw [runOf_eq _ _ _ h, hc]; simp [notNL]
theorem skipTo_more (s : ByteArray) (k : Nat) : ∀ a, s.size - a ≤ k → skipTo s (k + 1) a = skipTo s k a := by
  induction k with
  | zero => intro a h; simp only [skipTo]; rw [if_neg (by omega)]
  | succ k ih =>
    intro a h
    rw [skipTo_succ s (k + 1) a, skipTo_succ s k a]
    split
    · rename_i hlt
      split
      · rename_i hc
        have := runOf_hash s a hlt hc
        rw [ih _ (by omega)]
      · split
        · rw [ih _ (by omega)]
        · rfl
    · rfl
theorem skipTo_big (s : ByteArray) (a : Nat) (k : Nat) (h : s.size - a ≤ k) : skipTo s k a = skipOf s a := by
  unfold skipOf
  obtain ⟨d, rfl⟩ : ∃ d, k = (s.size - a) + d := ⟨k - (s.size - a), by omega⟩
  clear h
  induction d with
  | zero => rfl
  | succ d ih => rw [← ih, ← Nat.add_assoc]; exact skipTo_more s _ a (by omega)
theorem skipOf_eq (s : ByteArray) (a : Nat) : skipOf s a = if a < s.size then (if bt s a = 35 then skipOf s (a + runOf notNL s a) else if isBlank (bt s a) = true then skipOf s (a + 1) else a) else a := by
  rw [← skipTo_big s a (s.size - a + 1) (by omega), skipTo_succ]
  split
  · rename_i hlt
    split
    · rename_i hc
      have := runOf_hash s a hlt hc
      rw [skipTo_big _ _ _ (by omega)]
    · split
      · rw [skipTo_big _ _ _ (by omega)]
      · rfl
  · rfl
theorem skipOf_le (s : ByteArray) (a : Nat) (h : a ≤ s.size) : a ≤ skipOf s a ∧ skipOf s a ≤ s.size := skipTo_le s _ a h

set_option maxHeartbeats 800000 in
theorem skip_calls (s : ByteArray) (a : Nat) (w : World) (hs : s.size ≤ 140737488351232) (ha : a ≤ s.size) :
    Calls Tryz.prog 104 #[.string s, .int .i64 a] w fun e w' => e = .returned (.int .i64 (skipOf s a)) ∧ Drawn0 w w' := by
  go_enter Tryz.func104, Tryz.ntmps104
  go_wp2
  go_loopw [1] (fun v wr => ∃ n : Nat, v = .int .i64 n ∧ n ≤ s.size ∧ Aside0 (skipOf s a = skipOf s n) ∧ Drawn0 w wr) (fun v _ => s.size - (intOf v).toNat)
  case atStart => exact ⟨a, rfl, ha, ⟨rfl⟩, Drawn0.refl _⟩
  case round =>
    obtain ⟨n, rfl, hn, hr, hd⟩ := hrel
    have E := Aside0.mk (skipOf_eq s n)
    by_cases hlt : n < s.size
    · have hx := bt_nat s n
      by_cases hc : bt s n = 35
      · have hb : (bt s n == 35) = true := by simp [hc]
        have R := Aside0.mk (runOf_le notNL s n hn)
        have R1 := Aside0.mk (runOf_hash s n hlt hc)
        replace hc := Aside0.mk hc
        have hr1 := R.out
        go_wp2_with (go_at_call 106; refine (run_notNL s n _ hs hn).mono ?_; rintro e w1 ⟨rfl, hd1⟩)
        go_roundw
        case rel => exact ⟨n + runOf notNL s n, by go_num, R.out, ⟨by rw [hr.out, E.out, if_pos hlt, if_pos hc.out]⟩, drawn_trans hd hd1⟩
        case measure => have := R1.out; simp [intOf]; omega
      · have hb : (bt s n == 35) = false := by simp [hc]
        have E1 : Aside0 (skipOf s n = if isBlank (bt s n) = true then skipOf s (n + 1) else n) := ⟨by rw [E.out, if_pos hlt, if_neg hc]⟩
        clear E hc
        by_cases h1 : (bt s n == 32) = true
        · have E2 : Aside0 (skipOf s n = skipOf s (n + 1)) := ⟨by rw [E1.out, if_pos (by simp only [isBlank, h1]; simp)]⟩
          go_wp2
          go_roundw
          case rel => exact ⟨n + 1, by go_num, by omega, ⟨by rw [hr.out, E2.out]⟩, hd⟩
          case measure => simp [intOf]; omega
        have h1 : (bt s n == 32) = false := by simpa using h1
        by_cases h2 : (bt s n == 9) = true
        · have E2 : Aside0 (skipOf s n = skipOf s (n + 1)) := ⟨by rw [E1.out, if_pos (by simp only [isBlank, h2]; simp)]⟩
          go_wp2
          go_roundw
          case rel => exact ⟨n + 1, by go_num, by omega, ⟨by rw [hr.out, E2.out]⟩, hd⟩
          case measure => simp [intOf]; omega
        have h2 : (bt s n == 9) = false := by simpa using h2
        by_cases h3 : (bt s n == 10) = true
        · have E2 : Aside0 (skipOf s n = skipOf s (n + 1)) := ⟨by rw [E1.out, if_pos (by simp only [isBlank, h3]; simp)]⟩
          go_wp2
          go_roundw
          case rel => exact ⟨n + 1, by go_num, by omega, ⟨by rw [hr.out, E2.out]⟩, hd⟩
          case measure => simp [intOf]; omega
        have h3 : (bt s n == 10) = false := by simpa using h3
        by_cases h4 : (bt s n == 13) = true
        · have E2 : Aside0 (skipOf s n = skipOf s (n + 1)) := ⟨by rw [E1.out, if_pos (by simp only [isBlank, h4]; simp)]⟩
          go_wp2
          go_roundw
          case rel => exact ⟨n + 1, by go_num, by omega, ⟨by rw [hr.out, E2.out]⟩, hd⟩
          case measure => simp [intOf]; omega
        have h4 : (bt s n == 13) = false := by simpa using h4
        have E2 : Aside0 (skipOf s n = n) := ⟨by rw [E1.out, if_neg (by simp only [isBlank, h1, h2, h3, h4]; simp)]⟩
        go_wp2
        go_ret
        exact ⟨by rw [hr.out, E2.out]; rfl, hd⟩
    · have E2 : Aside0 (skipOf s n = n) := ⟨by rw [E.out, if_neg hlt]⟩
      go_wp2
      go_ret
      exact ⟨by rw [hr.out, E2.out]; rfl, hd⟩

def isName (s : ByteArray) : Bool := decide (0 < s.size) && decide (s.size ≤ 40) && isLetter (bt s 0) && decide (runOf isInner s 0 = s.size)
theorem toList_nil (s : ByteArray) (h : s.size = 0) : s = ⟨#[]⟩ := by
  obtain ⟨d⟩ := s
  have : d.size = 0 := h
  rw [Array.size_eq_zero_iff] at this
  rw [this]
theorem toList_ne (s : ByteArray) (h : 0 < s.size) : s.toList.isEmpty = false := by
  rw [List.isEmpty_eq_false_iff]
  intro e
  have : s.toList.length = s.size := by rw [Lib.toList_data]; rfl
  rw [e] at this; simp at this; omega

set_option maxHeartbeats 400000 in
theorem name_calls (s : ByteArray) (w : World) (hs : s.size ≤ 140737488351232) :
    Calls Tryz.prog 113 #[.string s] w fun e w' => e = .returned (.bool (isName s)) ∧ Drawn0 w w' := by
  by_cases h0 : s.size = 0
  · have E := Aside0.mk (show isName s = false by simp [isName, h0])
    obtain rfl := toList_nil s h0
    clear h0
    go_enter Tryz.func113, Tryz.ntmps113
    go_wp2
    go_ret
    exact ⟨by rw [E.out]; rfl, Drawn0.refl _⟩
  have hn := toList_ne s (by omega)
  have hn2 : s.toList ≠ [] := by simpa using hn
  by_cases h1 : s.size ≤ 40
  · have hlt : 0 < s.size := by omega
    have hx := bt_nat s 0
    have hb1 : decide (s.size ≤ 40) = true := decide_eq_true h1
    cases hl : isLetter (bt s 0) with
    | false =>
      have HL := Aside0.mk (letter_calls (bt s 0)); rw [hl] at HL
      have E := Aside0.mk (show isName s = false by simp [isName, hl])
      clear hl
      go_enter Tryz.func113, Tryz.ntmps113
      go_wp2_with (refine (HL.out _).mono ?_; rintro e w1 ⟨rfl, hd1⟩)
      go_ret
      exact ⟨by rw [E.out]; rfl, hd1⟩
    | true =>
      have HL := Aside0.mk (letter_calls (bt s 0)); rw [hl] at HL
      have E := Aside0.mk (show isName s = decide ((runOf isInner s 0 : Int) = (s.size : Int)) by simp [isName, hl, h1, hlt]; norm_cast)
      clear hl
      have R := Aside0.mk (fun w => run_inner s 0 w hs (by omega))
      go_enter Tryz.func113, Tryz.ntmps113
      go_wp2_with (first | (go_at_call 105; refine (HL.out _).mono ?_; rintro e w1 ⟨rfl, hd1⟩) | (go_at_call 106; refine (R.out _).mono ?_; rintro e w2 ⟨rfl, hd2⟩))
      go_ret
      exact ⟨by rw [E.out]; rfl, drawn_trans hd1 hd2⟩
  · have E := Aside0.mk (show isName s = false by simp [isName, h1])
    have hb1 : decide (s.size ≤ 40) = false := decide_eq_false h1
    go_enter Tryz.func113, Tryz.ntmps113
    go_wp2
    go_ret
    exact ⟨by rw [E.out]; rfl, Drawn0.refl _⟩

/-- The number that the first k digits are. -/
def numTo (s : ByteArray) : Nat → Int
  | 0 => 0
  | k + 1 => 10 * numTo s k + (bt s k - 48)
def isNumber (s : ByteArray) : Option Int :=
  if s.size = 0 ∨ 1 < s.size ∧ bt s 0 = 48 ∨ runOf isDigit s 0 ≠ s.size ∨ 4 < s.size then none
  else if 4096 < numTo s s.size then none else some (numTo s s.size)
def numV (o : Option Int) : Value := .tuple #[.int .i64 (o.getD 0), .bool o.isSome]

theorem runLen_all (p : Int → Bool) (s : ByteArray) (k : Nat) : ∀ a, runLen p s a k = k → ∀ j, j < k → p (bt s ((a + j : Nat) : Int)) = true := by
  induction k with
  | zero => intro a _ j hj; omega
  | succ k ih =>
    intro a h j hj
    simp only [runLen] at h
    split at h
    · rename_i hc
      rcases j with _ | j
      · simpa using hc.2
      · have := ih (a + 1) (by omega) j (by omega)
        rwa [show a + 1 + j = a + (j + 1) by omega] at this
    · omega
theorem runOf_all (p : Int → Bool) (s : ByteArray) (h : runOf p s 0 = s.size) : ∀ j : Nat, j < s.size → p (bt s j) = true := by
  intro j hj
  have := runLen_all p s s.size 0 (by simpa [runOf] using h) j hj
  simpa using this
theorem numTo_le (s : ByteArray) (h : ∀ j : Nat, j < s.size → isDigit (bt s j) = true) : ∀ k, k ≤ s.size → k ≤ 4 → 0 ≤ numTo s k ∧ numTo s k < 10 ^ k := by
  intro k
  induction k with
  | zero => intro _ _; simp [numTo]
  | succ k ih =>
    intro h1 h2
    obtain ⟨i1, i2⟩ := ih (by omega) (by omega)
    have hd := h k (by omega)
    simp only [isDigit, Bool.and_eq_true, decide_eq_true_eq] at hd
    simp only [numTo]
    have : (10 : Int) ^ (k + 1) = 10 * 10 ^ k := by rw [Int.pow_succ]; omega
    rw [this]
    omega

set_option maxRecDepth 100000 in
set_option maxHeartbeats 800000 in
theorem number_calls (s : ByteArray) (w : World) (hs : s.size ≤ 140737488351232) :
    Calls Tryz.prog 121 #[.string s] w fun e w' => e = .returned (numV (isNumber s)) ∧ Below w.heap.size w w' := by
  by_cases h0 : s.size = 0
  · have E := Aside0.mk (show isNumber s = none by simp [isNumber, h0])
    obtain rfl := toList_nil s h0
    clear h0
    go_enter Tryz.func121, Tryz.ntmps121
    go_wp2
    go_ret2
    exact ⟨by rw [E.out]; rfl, Below.refl _ _⟩
  have hn := toList_ne s (by omega)
  have hn2 : s.toList ≠ [] := by simpa using hn
  have hlt : 0 < s.size := by omega
  have hx := bt_nat s 0
  have R := Aside0.mk (fun w => run_digit s 0 w hs (by omega))
  by_cases hz : 1 < s.size ∧ bt s 0 = 48
  · have E := Aside0.mk (show isNumber s = none by simp [isNumber, hz])
    have hb1 : decide ((1 : Int) < (s.size : Int)) = true := by simp; omega
    have hb2 : (bt s 0 == 48) = true := by simp [hz.2]
    clear hz
    go_enter Tryz.func121, Tryz.ntmps121
    go_wp2
    go_ret2
    exact ⟨by rw [E.out]; rfl, Below.refl _ _⟩
  have hq : ∃ q b : Bool, decide ((1 : Int) < (s.size : Int)) = q ∧ (bt s 0 == 48) = b ∧ (q && b) = false := ⟨_, _, rfl, rfl, by simp; intro h e; exact hz ⟨by omega, e⟩⟩
  by_cases hr : runOf isDigit s 0 = s.size
  · have hrb : ((runOf isDigit s 0 : Int) != (s.size : Int)) = false := by simp [hr]
    by_cases h4 : 4 < s.size
    · have E := Aside0.mk (show isNumber s = none by simp [isNumber, h4])
      have hb4 : decide ((4 : Int) < (s.size : Int)) = true := by simp; omega
      clear hz hr
      obtain ⟨q, b, hb1, hb2, hqb⟩ := hq
      rcases q with _ | _ <;> rcases b with _ | _ <;> first | (exact absurd hqb (by decide)) | skip
      all_goals
        clear hqb
        go_enter Tryz.func121, Tryz.ntmps121
        go_wp2_with (refine (R.out _).mono ?_; rintro e w1 ⟨rfl, hd1⟩)
        go_ret2
        exact ⟨by rw [E.out]; rfl, hd1.below⟩
    · have hb4 : decide ((4 : Int) < (s.size : Int)) = false := by simp; omega
      have DG := Aside0.mk (runOf_all _ _ hr)
      have E : Aside0 (isNumber s = if 4096 < numTo s s.size then none else some (numTo s s.size)) := ⟨by
        unfold isNumber; rw [if_neg]; rintro (h | h | h | h)
        · exact h0 h
        · exact hz h
        · exact h hr
        · exact h4 h⟩
      clear hz hr
      obtain ⟨q, b, hb1, hb2, hqb⟩ := hq
      rcases q with _ | _ <;> rcases b with _ | _ <;> first | (exact absurd hqb (by decide)) | skip
      all_goals
        clear hqb
        have kb := fun W => print_bytes (P := Tryz.prog) 9 134 5 Tryz.underlying9 Tryz.underlying134 Tryz.underlying5 s W
        go_enter Tryz.func121, Tryz.ntmps121
        go_wp2_with (refine (R.out _).mono ?_; rintro e w1 ⟨rfl, hd1⟩)
        clear kb
        have RD := Aside0.mk (bytes_reads w1 5 s (by omega))
        have HB := Aside0.mk (bytes_below (e := 5) (s := s) hd1.below hd1.below.size)
        generalize w1.heap.size = B1 at RD ⊢
        generalize Lib.bytesWorld w1 5 s = W at RD HB ⊢
        generalize grownCap w1 s.size 0 5 = C
        clear hd1
        go_loop [4, 34] (fun vn vi => ∃ k : Nat, k ≤ s.size ∧ vi = .int .i64 k ∧ vn = .int .i64 (numTo s k)) (fun _ vi => s.size - (intOf vi).toNat)
        case atStart => exact ⟨0, Nat.zero_le _, rfl, rfl⟩
        case round =>
          obtain ⟨k, hk, rfl, rfl⟩ := hrel
          by_cases hlt : k < s.size
          · obtain ⟨ad, had, hcell⟩ := RD.out.at_ k (by omega) (by omega)
            obtain rfl := Option.some.inj had
            clear had
            rw [rd_bytesOf, add_plain, Int.toNat_natCast] at hcell
            have DK := DG.out k hlt
            simp only [isDigit, Bool.and_eq_true, decide_eq_true_eq] at DK
            obtain ⟨d1, d2⟩ := DK
            obtain ⟨n1, n2⟩ := numTo_le s DG.out k (by omega) (by omega)
            have n3 : numTo s k ≤ 1000 := by
              have : (10 : Int) ^ k ≤ 1000 := by
                have : k ≤ 3 := by omega
                rcases k with _ | _ | _ | _ | k <;> first | decide | omega
              omega
            clear n2
            go_wp2
            go_round
            case rel => exact ⟨k + 1, by omega, by go_num, by simp only [numTo]⟩
            case measure => simp [intOf]; omega
          · obtain rfl : k = s.size := by omega
            by_cases hbig : 4096 < numTo s s.size
            · have E2 := Aside0.mk (show isNumber s = none by rw [E.out, if_pos hbig])
              have hbb : decide (4096 < numTo s s.size) = true := decide_eq_true hbig
              go_wp2
              go_ret2
              exact ⟨by rw [E2.out]; rfl, HB.out⟩
            · have E2 := Aside0.mk (show isNumber s = some (numTo s s.size) by rw [E.out, if_neg hbig])
              have hbb : decide (4096 < numTo s s.size) = false := decide_eq_false hbig
              go_wp2
              go_ret2
              exact ⟨by rw [E2.out]; rfl, HB.out⟩
  · have E := Aside0.mk (show isNumber s = none by simp [isNumber, hr])
    have hrb : ((runOf isDigit s 0 : Int) != (s.size : Int)) = true := by simp; omega
    clear hz hr
    obtain ⟨q, b, hb1, hb2, hqb⟩ := hq
    rcases q with _ | _ <;> rcases b with _ | _ <;> first | (exact absurd hqb (by decide)) | skip
    all_goals
      clear hqb
      go_enter Tryz.func121, Tryz.ntmps121
      go_wp2_with (refine (R.out _).mono ?_; rintro e w1 ⟨rfl, hd1⟩)
      go_ret2
      exact ⟨by rw [E.out]; rfl, hd1.below⟩
end Go.Proofs.YtkafikdjhiienaaGreatDoor

/- base -/
namespace Go.Proofs.YtkafikdjhiienaaGreatDoor
open Go.RowKit Go.Proofs.YtkafikdjhiienaaGreatDoorW.PrintWords PPolicyHolds

abbrev Tok := S88
abbrev Fld := S155
abbrev Nod := S110
abbrev kTok := k88
abbrev kFld := k155
abbrev kNod := k110
end Go.Proofs.YtkafikdjhiienaaGreatDoor

/- tok -/
namespace Go.Proofs.YtkafikdjhiienaaGreatDoor
open Go.RowKit Go.Shelf Go.Proofs.YtkafikdjhiienaaGreatDoorW.PrintWords
attribute [local go_sem] Oper.semAt_some

abbrev signsS : ByteArray := ⟨#[40, 41, 91, 93, 123, 125, 60, 62, 124, 58, 59, 44, 63]⟩
def signIdx (c : Int) : Int := Lib.indexByte signsS.data.toList c.toNat.toUInt8
def isSign (c : Int) : Bool := decide (0 ≤ signIdx c)
/-- The token at a place, and how long it is. -/
def tokLen (s : ByteArray) (a : Nat) : Nat := if isLetter (bt s a) = true then runOf isInner s a else if isDigit (bt s a) = true then runOf isDigit s a else 1
def tokKind (c : Int) : Int := if isLetter c = true then 0 else if isDigit c = true then 1 else if isSign c = true then 2 else -1
def tokAt (s : ByteArray) (a : Nat) : Tok := ⟨tokKind (bt s a), s.extract a (a + tokLen s a), a⟩
def endTok (s : ByteArray) : Tok := ⟨3, ⟨#[]⟩, s.size⟩
def toksFrom (s : ByteArray) : Nat → Nat → List Tok
  | 0, _ => [endTok s]
  | k + 1, a => if a < s.size then tokAt s a :: toksFrom s k (skipOf s (a + tokLen s a)) else [endTok s]
def toksAt (s : ByteArray) (a : Nat) : List Tok := toksFrom s (s.size - a) a
def toks (s : ByteArray) : List Tok := toksAt s (skipOf s 0)

theorem isInner_of_letter {c : Int} (h : isLetter c = true) : isInner c = true := by simp [isInner, h]
theorem tokLen_pos (s : ByteArray) (a : Nat) (h : a < s.size) : 1 ≤ tokLen s a ∧ a + tokLen s a ≤ s.size := by
  unfold tokLen
  split
  · rename_i hl
    refine ⟨?_, runOf_le _ _ _ (by omega)⟩
    rw [runOf_eq _ _ _ h, if_pos (isInner_of_letter hl)]; omega
  · split
    · rename_i hl
      refine ⟨?_, runOf_le _ _ _ (by omega)⟩
      rw [runOf_eq _ _ _ h, if_pos hl]; omega
    · omega
theorem toksFrom_succ (s : ByteArray) (k a : Nat) : toksFrom s (k + 1) a = if a < s.size then tokAt s a :: toksFrom s k (skipOf s (a + tokLen s a)) else [endTok s] := rfl
theorem toksFrom_more (s : ByteArray) (k : Nat) : ∀ a, s.size - a ≤ k → toksFrom s (k + 1) a = toksFrom s k a := by
  induction k with
  | zero => intro a h; rw [toksFrom_succ, if_neg (by omega)]; rfl
  | succ k ih =>
    intro a h
    rw [toksFrom_succ s (k + 1) a, toksFrom_succ s k a]
    split
    · rename_i hlt
      have h1 := tokLen_pos s a hlt
      have h2 := skipOf_le s (a + tokLen s a) h1.2
      rw [ih _ (by omega)]
    · rfl
theorem toksFrom_big (s : ByteArray) (a k : Nat) (h : s.size - a ≤ k) : toksFrom s k a = toksAt s a := by
  unfold toksAt
  obtain ⟨d, rfl⟩ : ∃ d, k = (s.size - a) + d := ⟨k - (s.size - a), by omega⟩
  clear h
  induction d with
  | zero => rfl
  | succ d ih => rw [← ih, ← Nat.add_assoc]; exact toksFrom_more s _ a (by omega)
theorem toksAt_lt (s : ByteArray) (a : Nat) (h : a < s.size) : toksAt s a = tokAt s a :: toksAt s (skipOf s (a + tokLen s a)) := by
  rw [← toksFrom_big s a (s.size - a + 1) (by omega), toksFrom_succ, if_pos h, toksFrom_big]
  have h1 := tokLen_pos s a h
  have h2 := skipOf_le s (a + tokLen s a) h1.2
  omega
theorem toksAt_end (s : ByteArray) (a : Nat) (h : ¬ a < s.size) : toksAt s a = [endTok s] := by
  unfold toksAt; rw [show s.size - a = 0 by omega]; rfl

theorem yield_upon {n : Nat} {P : Program} {o : Oper} {a : Act} {K : Act → World → Prop} {Q : Exit → Act → World → Prop} {l : Nat} {args : Array Value} {W : World} {R : Ending → World → Prop} (hn : 1 ≤ n)
    (h : YieldAt Fence.wide (n - 1) P l args W R) (hk : ∀ e W', R e W' → ∃ v, e = .returned v ∧ K (a.put o.dst v) W') : o.uponIn Fence.wide n P a K Q ((Instr.yield l args).run P W) := by
  obtain ⟨fn, tmps, assign, body, hy, hR⟩ := h
  rw [hy]
  refine ⟨fun _ => hn, hR.mono fun e W' hr => ?_⟩
  obtain ⟨v, rfl, hk⟩ := hk e W' hr
  exact hk
/-- One block lies as it lay. -/
structure KeepAt (b : Nat) (W W' : World) : Prop where
  size : W.heap.size ≤ W'.heap.size
  block : W'.heap[b]? = W.heap[b]?
theorem KeepAt.refl (b : Nat) (W : World) : KeepAt b W W := ⟨Nat.le_refl _, rfl⟩
theorem KeepAt.trans {b : Nat} {A B C : World} (h : KeepAt b A B) (k : KeepAt b B C) : KeepAt b A C := ⟨Nat.le_trans h.size k.size, k.block.trans h.block⟩
theorem KeepAt.of_below {b n : Nat} {A B : World} (h : Below n A B) (hb : b < n) : KeepAt b A B := ⟨h.size, h.block b hb⟩
theorem KeepAt.cell {b : Nat} {A B : World} (h : KeepAt b A B) (i : Nat) : B.cell? ⟨b, i, none⟩ = A.cell? ⟨b, i, none⟩ := World.cell?_of_block (w := A) h.block
theorem keepAt_b {b : Nat} {w : World} (hb : b < w.heap.size) (W : World) (l : Nat) (o o' : Obj) (hl : w.heap.size ≤ l) (h : W.heap[l]? = some o) (_ : o.isCells = false) (_ : o.isWalk = false) : KeepAt b W (W.putObj l o') :=
  ⟨by simp, World.putObj_heap_other (fun e => by omega)⟩
def encTok (t : Tok) : Array Value := #[.agg #[.int .i64 t.f0, .string t.f1, .int .i64 t.f2]]

set_option maxRecDepth 100000 in
set_option maxHeartbeats 4000000 in
theorem tokens1_in (n : Nat) (hn : 1 ≤ n) (l Bn : Nat) (s : ByteArray) (hs : s.size ≤ 140737488351232) (W0 : World) (hBn : Bn < W0.heap.size) (J Jx : List Tok → World → Prop)
    (hJ : AbidesFrom W0.heap.size J)
    (hY : ∀ pre x W, J pre W → pre.length < (toks s).length → YieldAt Fence.wide (n - 1) Tryz.prog l (encTok x) W fun e W' =>
      (e = .returned (.bool true) ∧ J (pre ++ [x]) W' ∧ KeepAt Bn W W') ∨ (e = .returned (.bool false) ∧ Jx (pre ++ [x]) W'))
    (hc : W0.cell? ⟨Bn, 0, none⟩ = some (.string s)) (h0 : J [] W0) :
    CallsIn Fence.wide n Tryz.prog 103 #[.func (.yield l) #[] #[], .pointer (some ⟨Bn, 0, none⟩)] W0 fun e W' => (∃ v, e = .returned v) ∧
      ((∃ ys, ys = toks s ∧ J ys W') ∨ (∃ pre, pre <+: toks s ∧ Jx pre W')) := by
  refine callsIn_of_wp Tryz.func103 rfl trivial ?_ rfl
  simp only [Tryz.ntmps103, List.size_toArray, List.length_cons, List.length_nil, Nat.reduceAdd, Nat.reduceSub, Array.replicate_succ, Array.replicate_zero, List.push_toArray, List.append_toArray, List.nil_append, List.cons_append]
  have SK := Aside0.mk (fun w => skip_calls s 0 w hs (Nat.zero_le _))
  gi_wp2_with (refine ⟨trivial, ?_⟩; gi_at_call 104; refine (callsIn_wide.2 (SK.out _)).mono ?_; rintro e w1 ⟨rfl, ⟨n1, rfl⟩⟩)
  have JD : ∀ pre W (m : Nat), J pre W → J pre (W.drewN m) := fun pre W m h => hJ pre W _ none h (grown_of_below ((Drawn0.refl W).step m).below none) (fun r e => by cases e)
  have JA : ∀ pre W o, J pre W → J pre (W.alloc o) := fun pre W o h => hJ pre W _ none h (World.grownBy_alloc W o none) (fun r e => by cases e)
  have JD := Aside0.mk JD
  have JA := Aside0.mk JA
  gi_loopw [3] (fun v wr => ∃ (pre : List Tok) (a : Nat), v = .int .i64 a ∧ a ≤ s.size ∧ Aside0 (toks s = pre ++ toksAt s a) ∧ Aside0 (J pre wr) ∧ Aside0 (KeepAt Bn W0 wr)) (fun v _ => s.size - (intOf v).toNat)
  case atStart => exact ⟨[], skipOf s 0, rfl, (skipOf_le s 0 (Nat.zero_le _)).2, ⟨rfl⟩, ⟨JD.out _ _ _ h0⟩, ⟨KeepAt.of_below (pw_below_drewN (Below.refl _ _) _) hBn⟩⟩
  case round =>
    obtain ⟨pre, a, rfl, ha, ht, hj, hb⟩ := hrel
    have hBl : Bn < wr.heap.size := by have := hb.out.size; omega
    have hcs : wr.cell? ⟨Bn, 0, none⟩ = some (.string s) := (hb.out.cell 0).trans hc
    by_cases hlt : a < s.size
    · have hx := bt_nat s a
      have HL := Aside0.mk (letter_calls (bt s a))
      have HD := Aside0.mk (digit_calls (bt s a))
      have HI : Aside0 (∀ w, Calls Tryz.prog 109 #[.string signsS, .int .u8 (bt s a)] w fun e w' => e = .returned (.int .i64 (signIdx (bt s a))) ∧ w' = w) := ⟨fun w => Tryz.strings_IndexByte signsS (bt s a) w⟩
      have RI := Aside0.mk (fun w => run_inner s a w hs ha)
      have RD := Aside0.mk (fun w => run_digit s a w hs ha)
      cases hl : isLetter (bt s a) with
      | true =>
        rw [hl] at HL
        have hle := runOf_le isInner s a ha
        have RR := RI
        have LT : Aside0 (tokLen s a = runOf isInner s a) := ⟨by simp [tokLen, hl]⟩
        have ET : Aside0 (tokAt s a = ⟨0, s.extract a (a + runOf isInner s a), a⟩) := ⟨by simp [tokAt, tokKind, hl, LT.out]⟩
        clear hl
        gi_wp2_with (first | (refine ⟨trivial, ?_⟩; gi_at_call 105; refine (callsIn_wide.2 (HL.out _)).mono ?_; rintro e w2 ⟨rfl, ⟨n2, rfl⟩⟩) | (refine ⟨trivial, ?_⟩; gi_at_call 106; refine (callsIn_wide.2 (RR.out _)).mono ?_; rintro e w3 ⟨rfl, ⟨n3, rfl⟩⟩))
        refine yield_upon hn (hY pre ⟨0, s.extract a (a + runOf isInner s a), a⟩ _ ?hj ?hl) ?_
        case hl => rw [ht.out, toksAt_lt s a hlt]; simp
        case hj => exact hJ pre wr _ none hj.out (grown_of_below (((pw_below_drewN ((Below.refl _ _).alloc (Nat.le_refl _) _) _).setCell (Nat.le_refl _) _).setCell (Nat.le_refl _) _) none) (fun r e => by cases e)
        rintro e W' (⟨rfl, hJ3, hk3⟩ | ⟨rfl, hJx3⟩)
        · refine ⟨_, rfl, ?_⟩
          have hbW := hb.out.trans ((KeepAt.of_below (((pw_below_drewN ((Below.refl _ _).alloc (Nat.le_refl _) _) _).setCell (Nat.le_refl _) _).setCell (Nat.le_refl _) _) hBl).trans hk3)
          clear hk3
          have hcs : W'.cell? ⟨Bn, 0, none⟩ = some (.string s) := (hbW.cell 0).trans hc
          have hbW := Aside0.mk hbW
          have hJ3 := Aside0.mk hJ3
          have SK2 := Aside0.mk (fun w => skip_calls s (a + runOf isInner s a) w hs hle)
          gi_wp2_with (refine ⟨trivial, ?_⟩; gi_at_call 104; refine (callsIn_wide.2 (SK2.out _)).mono ?_; rintro e w4 ⟨rfl, ⟨n4, rfl⟩⟩)
          go_roundw
          case rel => exact ⟨pre ++ [⟨0, s.extract a (a + runOf isInner s a), a⟩], skipOf s (a + runOf isInner s a), rfl, (skipOf_le s _ hle).2, ⟨by rw [ht.out, toksAt_lt s a hlt, ET.out, LT.out]; simp⟩, ⟨JD.out _ _ _ hJ3.out⟩, ⟨hbW.out.trans (KeepAt.of_below (pw_below_drewN (Below.refl _ _) _) (by have := hbW.out.size; omega))⟩⟩
          case measure => have := skipOf_le s (a + runOf isInner s a) hle; have := (tokLen_pos s a hlt).1; rw [LT.out] at this; simp [intOf]; omega
        · refine ⟨_, rfl, ?_⟩
          have hJx3 := Aside0.mk hJx3
          gi_wp2
          refine bodyPost_ret (results_none rfl _ _ _) rfl ?_
          exact ⟨⟨_, rfl⟩, .inr ⟨pre ++ [⟨0, s.extract a (a + runOf isInner s a), a⟩], ⟨toksAt s (skipOf s (a + tokLen s a)), by rw [ht.out, toksAt_lt s a hlt, ET.out]; simp⟩, hJx3.out⟩⟩
      | false =>
        rw [hl] at HL
        cases hd : isDigit (bt s a) with
        | true =>
        rw [hd] at HD
        have hle := runOf_le isDigit s a ha
        have RR := RD
        have LT : Aside0 (tokLen s a = runOf isDigit s a) := ⟨by simp [tokLen, hl, hd]⟩
        have ET : Aside0 (tokAt s a = ⟨1, s.extract a (a + runOf isDigit s a), a⟩) := ⟨by simp [tokAt, tokKind, hl, hd, LT.out]⟩
        clear hl hd
        gi_wp2_with (first | (refine ⟨trivial, ?_⟩; gi_at_call 105; refine (callsIn_wide.2 (HL.out _)).mono ?_; rintro e w2 ⟨rfl, ⟨n2, rfl⟩⟩) | (refine ⟨trivial, ?_⟩; gi_at_call 108; refine (callsIn_wide.2 (HD.out _)).mono ?_; rintro e w5 ⟨rfl, ⟨n5, rfl⟩⟩) | (refine ⟨trivial, ?_⟩; gi_at_call 106; refine (callsIn_wide.2 (RR.out _)).mono ?_; rintro e w3 ⟨rfl, ⟨n3, rfl⟩⟩))
        refine yield_upon hn (hY pre ⟨1, s.extract a (a + runOf isDigit s a), a⟩ _ ?hj ?hl) ?_
        case hl => rw [ht.out, toksAt_lt s a hlt]; simp
        case hj => exact hJ pre wr _ none hj.out (grown_of_below (((pw_below_drewN ((Below.refl _ _).alloc (Nat.le_refl _) _) _).setCell (Nat.le_refl _) _).setCell (Nat.le_refl _) _) none) (fun r e => by cases e)
        rintro e W' (⟨rfl, hJ3, hk3⟩ | ⟨rfl, hJx3⟩)
        · refine ⟨_, rfl, ?_⟩
          have hbW := hb.out.trans ((KeepAt.of_below (((pw_below_drewN ((Below.refl _ _).alloc (Nat.le_refl _) _) _).setCell (Nat.le_refl _) _).setCell (Nat.le_refl _) _) hBl).trans hk3)
          clear hk3
          have hcs : W'.cell? ⟨Bn, 0, none⟩ = some (.string s) := (hbW.cell 0).trans hc
          have hbW := Aside0.mk hbW
          have hJ3 := Aside0.mk hJ3
          have SK2 := Aside0.mk (fun w => skip_calls s (a + runOf isDigit s a) w hs hle)
          gi_wp2_with (refine ⟨trivial, ?_⟩; gi_at_call 104; refine (callsIn_wide.2 (SK2.out _)).mono ?_; rintro e w4 ⟨rfl, ⟨n4, rfl⟩⟩)
          go_roundw
          case rel => exact ⟨pre ++ [⟨1, s.extract a (a + runOf isDigit s a), a⟩], skipOf s (a + runOf isDigit s a), rfl, (skipOf_le s _ hle).2, ⟨by rw [ht.out, toksAt_lt s a hlt, ET.out, LT.out]; simp⟩, ⟨JD.out _ _ _ hJ3.out⟩, ⟨hbW.out.trans (KeepAt.of_below (pw_below_drewN (Below.refl _ _) _) (by have := hbW.out.size; omega))⟩⟩
          case measure => have := skipOf_le s (a + runOf isDigit s a) hle; have := (tokLen_pos s a hlt).1; rw [LT.out] at this; simp [intOf]; omega
        · refine ⟨_, rfl, ?_⟩
          have hJx3 := Aside0.mk hJx3
          gi_wp2
          refine bodyPost_ret (results_none rfl _ _ _) rfl ?_
          exact ⟨⟨_, rfl⟩, .inr ⟨pre ++ [⟨1, s.extract a (a + runOf isDigit s a), a⟩], ⟨toksAt s (skipOf s (a + tokLen s a)), by rw [ht.out, toksAt_lt s a hlt, ET.out]; simp⟩, hJx3.out⟩⟩
        | false =>
        rw [hd] at HD
        have hle : a + 1 ≤ s.size := hlt
        have LT : Aside0 (tokLen s a = 1) := ⟨by simp [tokLen, hl, hd]⟩
        by_cases hi : 0 ≤ signIdx (bt s a)
        · have ET : Aside0 (tokAt s a = ⟨2, s.extract a (a + 1), a⟩) := ⟨by simp [tokAt, tokKind, hl, hd, LT.out, isSign, hi]⟩
          have hib : decide (0 ≤ signIdx (bt s a)) = true := decide_eq_true hi
          clear hl hd hi
          gi_wp2_with (first | (refine ⟨trivial, ?_⟩; gi_at_call 105; refine (callsIn_wide.2 (HL.out _)).mono ?_; rintro e w2 ⟨rfl, ⟨n2, rfl⟩⟩) | (refine ⟨trivial, ?_⟩; gi_at_call 108; refine (callsIn_wide.2 (HD.out _)).mono ?_; rintro e w5 ⟨rfl, ⟨n5, rfl⟩⟩) | (refine ⟨trivial, ?_⟩; gi_at_call 109; refine (callsIn_wide.2 (HI.out _)).mono ?_; rintro e w6 ⟨rfl, rfl⟩))
          refine yield_upon hn (hY pre ⟨2, s.extract a (a + 1), a⟩ _ ?hj ?hl) ?_
          case hl => rw [ht.out, toksAt_lt s a hlt]; simp
          case hj => exact hJ pre wr _ none hj.out (grown_of_below (((pw_below_drewN ((Below.refl _ _).alloc (Nat.le_refl _) _) _).setCell (Nat.le_refl _) _).setCell (Nat.le_refl _) _) none) (fun r e => by cases e)
          rintro e W' (⟨rfl, hJ3, hk3⟩ | ⟨rfl, hJx3⟩)
          · refine ⟨_, rfl, ?_⟩
            have hbW := hb.out.trans ((KeepAt.of_below (((pw_below_drewN ((Below.refl _ _).alloc (Nat.le_refl _) _) _).setCell (Nat.le_refl _) _).setCell (Nat.le_refl _) _) hBl).trans hk3)
            clear hk3
            have hcs : W'.cell? ⟨Bn, 0, none⟩ = some (.string s) := (hbW.cell 0).trans hc
            have hbW := Aside0.mk hbW
            have hJ3 := Aside0.mk hJ3
            have SK2 := Aside0.mk (fun w => skip_calls s (a + 1) w hs hle)
            gi_wp2_with (refine ⟨trivial, ?_⟩; gi_at_call 104; refine (callsIn_wide.2 (SK2.out _)).mono ?_; rintro e w4 ⟨rfl, ⟨n4, rfl⟩⟩)
            go_roundw
            case rel => exact ⟨pre ++ [⟨2, s.extract a (a + 1), a⟩], skipOf s (a + 1), rfl, (skipOf_le s _ hle).2, ⟨by rw [ht.out, toksAt_lt s a hlt, ET.out, LT.out]; simp⟩, ⟨JD.out _ _ _ hJ3.out⟩, ⟨hbW.out.trans (KeepAt.of_below (pw_below_drewN (Below.refl _ _) _) (by have := hbW.out.size; omega))⟩⟩
            case measure => have := skipOf_le s (a + 1) hle; have := (tokLen_pos s a hlt).1; rw [LT.out] at this; simp [intOf]; omega
          · refine ⟨_, rfl, ?_⟩
            have hJx3 := Aside0.mk hJx3
            gi_wp2
            refine bodyPost_ret (results_none rfl _ _ _) rfl ?_
            exact ⟨⟨_, rfl⟩, .inr ⟨pre ++ [⟨2, s.extract a (a + 1), a⟩], ⟨toksAt s (skipOf s (a + tokLen s a)), by rw [ht.out, toksAt_lt s a hlt, ET.out]; simp⟩, hJx3.out⟩⟩

        · have ET : Aside0 (tokAt s a = ⟨-1, s.extract a (a + 1), a⟩) := ⟨by simp [tokAt, tokKind, hl, hd, LT.out, isSign, hi]⟩
          have hib : decide (0 ≤ signIdx (bt s a)) = false := decide_eq_false hi
          clear hl hd hi
          gi_wp2_with (first | (refine ⟨trivial, ?_⟩; gi_at_call 105; refine (callsIn_wide.2 (HL.out _)).mono ?_; rintro e w2 ⟨rfl, ⟨n2, rfl⟩⟩) | (refine ⟨trivial, ?_⟩; gi_at_call 108; refine (callsIn_wide.2 (HD.out _)).mono ?_; rintro e w5 ⟨rfl, ⟨n5, rfl⟩⟩) | (refine ⟨trivial, ?_⟩; gi_at_call 109; refine (callsIn_wide.2 (HI.out _)).mono ?_; rintro e w6 ⟨rfl, rfl⟩))
          refine yield_upon hn (hY pre ⟨-1, s.extract a (a + 1), a⟩ _ ?hj ?hl) ?_
          case hl => rw [ht.out, toksAt_lt s a hlt]; simp
          case hj => exact hJ pre wr _ none hj.out (grown_of_below ((pw_below_drewN ((Below.refl _ _).alloc (Nat.le_refl _) _) _).setCell (Nat.le_refl _) _) none) (fun r e => by cases e)
          rintro e W' (⟨rfl, hJ3, hk3⟩ | ⟨rfl, hJx3⟩)
          · refine ⟨_, rfl, ?_⟩
            have hbW := hb.out.trans ((KeepAt.of_below ((pw_below_drewN ((Below.refl _ _).alloc (Nat.le_refl _) _) _).setCell (Nat.le_refl _) _) hBl).trans hk3)
            clear hk3
            have hcs : W'.cell? ⟨Bn, 0, none⟩ = some (.string s) := (hbW.cell 0).trans hc
            have hbW := Aside0.mk hbW
            have hJ3 := Aside0.mk hJ3
            have SK2 := Aside0.mk (fun w => skip_calls s (a + 1) w hs hle)
            gi_wp2_with (refine ⟨trivial, ?_⟩; gi_at_call 104; refine (callsIn_wide.2 (SK2.out _)).mono ?_; rintro e w4 ⟨rfl, ⟨n4, rfl⟩⟩)
            go_roundw
            case rel => exact ⟨pre ++ [⟨-1, s.extract a (a + 1), a⟩], skipOf s (a + 1), rfl, (skipOf_le s _ hle).2, ⟨by rw [ht.out, toksAt_lt s a hlt, ET.out, LT.out]; simp⟩, ⟨JD.out _ _ _ hJ3.out⟩, ⟨hbW.out.trans (KeepAt.of_below (pw_below_drewN (Below.refl _ _) _) (by have := hbW.out.size; omega))⟩⟩
            case measure => have := skipOf_le s (a + 1) hle; have := (tokLen_pos s a hlt).1; rw [LT.out] at this; simp [intOf]; omega
          · refine ⟨_, rfl, ?_⟩
            have hJx3 := Aside0.mk hJx3
            gi_wp2
            refine bodyPost_ret (results_none rfl _ _ _) rfl ?_
            exact ⟨⟨_, rfl⟩, .inr ⟨pre ++ [⟨-1, s.extract a (a + 1), a⟩], ⟨toksAt s (skipOf s (a + tokLen s a)), by rw [ht.out, toksAt_lt s a hlt, ET.out]; simp⟩, hJx3.out⟩⟩

    · gi_wp2
      refine yield_upon hn (hY pre (endTok s) _ ?hj2 ?hl2) ?_
      case hl2 => rw [ht.out, toksAt_end s a hlt]; simp
      case hj2 => exact hj.out
      rintro e W' (⟨rfl, hJ3, hk3⟩ | ⟨rfl, hJx3⟩)
      · refine ⟨_, rfl, ?_⟩
        have hJ3 := Aside0.mk hJ3
        gi_wp2
        go_end0
        exact ⟨⟨_, rfl⟩, .inl (by rw [ht.out, toksAt_end s a hlt]; exact hJ3.out)⟩
      · refine ⟨_, rfl, ?_⟩
        have hJx3 := Aside0.mk hJx3
        gi_wp2
        go_end0
        exact ⟨⟨_, rfl⟩, .inr ⟨_, by rw [ht.out, toksAt_end s a hlt]; exact List.prefix_refl _, hJx3.out⟩⟩
end Go.Proofs.YtkafikdjhiienaaGreatDoor

/- words -/
namespace Go.Proofs.YtkafikdjhiienaaGreatDoor
open Go.RowKit Go.Shelf Go.Proofs.YtkafikdjhiienaaGreatDoorW.PrintWords
attribute [local go_sem] Oper.semAt_some

def wordsGo (out : List Tok) : List Tok → List Tok × Int × Int
  | [] => (out, 0, 0)
  | t :: r => if t.f0 < 0 then ([], t.f2, 4) else if out.length = 1500 then ([], 4096, 2) else wordsGo (out ++ [t]) r
def wordsSpec (s : ByteArray) : List Tok × Int × Int := if 4096 < s.size then ([], 0, 2) else wordsGo [] (toks s)

set_option maxHeartbeats 1000000 in
theorem tokens_in (n : Nat) (s : ByteArray) (w : World) :
    CallsIn Fence.wide n Tryz.prog 78 #[.string s] w fun e w' => e = .returned (.func (.func 103) #[] #[.pointer (some ⟨w.heap.size, 0, none⟩)]) ∧ w' = w.alloc (.cells #[.string s] 9) := by
  refine callsIn_of_wp Tryz.func78 rfl trivial ?_ rfl
  simp only [Tryz.ntmps78, List.size_toArray, List.length_cons, List.length_nil, Nat.reduceAdd, Nat.reduceSub, Array.replicate_succ, Array.replicate_zero, List.push_toArray, List.append_toArray, List.nil_append, List.cons_append]
  gi_wp2
  go_ret
  exact ⟨rfl, rfl⟩

theorem tokens_stops (n : Nat) (hn : 1 ≤ n) (Bn : Nat) (s : ByteArray) (hs : s.size ≤ 140737488351232) (w : World) (hBn : Bn < w.heap.size) (hc : w.cell? ⟨Bn, 0, none⟩ = some (.string s)) :
    SeqStopsK Fence.wide n Tryz.prog 103 #[.pointer (some ⟨Bn, 0, none⟩)] encTok (KeepAt Bn) (fun ys => ys = toks s) (fun pre => pre <+: toks s) (toks s).length w := fun l J Jx W hW hJ _ hY h0 =>
  tokens1_in n hn l Bn s hs W (Nat.lt_of_lt_of_le hBn hW.size) J Jx hJ hY ((hW.cell (p := ⟨Bn, 0, none⟩) hBn).trans hc) h0

/-- A row of tokens of one's own lives on where no cells have turned. -/
theorem kd_ownFrom {α : Type} {d : Kd α} {e base : Nat} {v : Value} {xs : List α} {B : Nat} {A A' : World} {row : Option Nat} (h : d.R e A base (fun _ => True) v xs) (hg : A.grownBy A' row)
    (hr : ∀ r, row = some r → B ≤ r ∧ ∃ o : Obj, A.heap[r]? = some o ∧ o.isCells = false) : d.R e A' base (fun _ => True) v xs := by
  refine Kd.R_mono (Kd.R_move (Kd.R_bound h) (fun k hk => hg.block k hk.2.2.1 ?_)) (fun _ _ => trivial)
  rintro rfl
  obtain ⟨_, o, ho, hc⟩ := hr k rfl
  obtain ⟨_, _, _, q, _, cells, hcell⟩ := hk
  rw [hcell] at ho
  cases ho
  cases hc

def wI (w : World) (pre : List Tok) (W : World) : Prop :=
  (Boxed W w.heap.size 79 (.slice none 0 0) ∧ Boxed W (w.heap.size + 1) 3 (.int .i64 0) ∧ Boxed W (w.heap.size + 1 + 1) 67 (.int .i64 0)) ∧
  (∃ v, Boxed W (w.heap.size + 1 + 1 + 1) 79 v ∧ kTok.R 88 W w.heap.size (fun _ => True) v pre) ∧
  (∃ u, Boxed W (w.heap.size + 1 + 1 + 1 + 1) 9 u) ∧ (∀ rest, wordsGo [] (pre ++ rest) = wordsGo pre rest) ∧ pre.length ≤ 1500 ∧ Below w.heap.size w W ∧ w.heap.size + 1 + 1 + 1 + 1 + 1 ≤ W.heap.size
def wIx (w : World) (c : Code) (pre : List Tok) (W : World) : Prop :=
  c = .ret ∧ ∃ a y : Int, (Boxed W w.heap.size 79 (.slice none 0 0) ∧ Boxed W (w.heap.size + 1) 3 (.int .i64 a) ∧ Boxed W (w.heap.size + 1 + 1) 67 (.int .i64 y)) ∧
  (∀ rest, wordsGo [] (pre ++ rest) = ([], a, y)) ∧ Below w.heap.size w W

theorem boxed_from {B b t : Nat} {v : Value} {A A' : World} {row : Option Nat} (h : Boxed A b t v) (hg : A.grownBy A' row)
    (hr : ∀ r, row = some r → B ≤ r ∧ ∃ o : Obj, A.heap[r]? = some o ∧ o.isCells = false) : Boxed A' b t v := by
  refine h.kept hg ?_
  rintro rfl
  obtain ⟨_, o, ho, hc⟩ := hr b rfl
  rw [show A.heap[b]? = _ from h] at ho
  cases ho
  cases hc
theorem wI_own (w : World) (B : Nat) (hB : w.heap.size ≤ B) : OwnFrom B (wI w) := by
  rintro pre A A' row ⟨⟨h0, h1, h2⟩, ⟨v, h3, h4⟩, ⟨u, hu⟩, h5, h6, h7, h8⟩ hg hr
  exact ⟨⟨boxed_from h0 hg hr, boxed_from h1 hg hr, boxed_from h2 hg hr⟩, ⟨v, boxed_from h3 hg hr, kd_ownFrom h4 hg hr⟩, ⟨u, boxed_from hu hg hr⟩, h5, h6, h7.grown hg h7.size (fun k e => Nat.le_trans hB (hr k e).1), Nat.le_trans h8 hg.size⟩
theorem wIx_own (w : World) (B : Nat) (hB : w.heap.size ≤ B) (c : Code) : OwnFrom B (wIx w c) := by
  rintro pre A A' row ⟨hc, a, y, ⟨h0, h1, h2⟩, h5, h7⟩ hg hr
  exact ⟨hc, a, y, ⟨boxed_from h0 hg hr, boxed_from h1 hg hr, boxed_from h2 hg hr⟩, h5, h7.grown hg h7.size (fun k e => Nat.le_trans hB (hr k e).1)⟩

theorem cells3 {W : World} {b t : Nat} {x y z : Value} (h : W.heap[b]? = some (.cells #[x, y, z] t (0, 0))) : (W.cell? ⟨b, 0, none⟩ = some x ∧ W.cell? ⟨b, 1, none⟩ = some y ∧ W.cell? ⟨b, 2, none⟩ = some z) ∧
    (∀ i, W.frozen? ⟨b, i, none⟩ = false) := by
  refine ⟨⟨?_, ?_, ?_⟩, fun i => ?_⟩ <;> simp [World.cell?, World.frozen?, h]

theorem w_leave {w W : World} {pre : List Tok} {t : Tok} {a y : Int} (m B : Nat) (r0 : Boxed W w.heap.size 79 (.slice none 0 0)) {x1 x2 : Value} (r1 : Boxed W (w.heap.size + 1) 3 x1) (r2 : Boxed W (w.heap.size + 1 + 1) 67 x2) (hB : Below w.heap.size w W)
    (hres : ∀ rest, wordsGo [] (pre ++ (t :: rest)) = ([], a, y)) :
    KeepsFrom B W ((((W.setCell ⟨w.heap.size, 0, none⟩ (.slice none 0 0)).setCell ⟨w.heap.size + 1, 0, none⟩ (.int .i64 a)).setCell ⟨w.heap.size + 1 + 1, 0, none⟩ (.int .i64 y)).drewN m) ∧
    wIx w .ret (pre ++ [t]) ((((W.setCell ⟨w.heap.size, 0, none⟩ (.slice none 0 0)).setCell ⟨w.heap.size + 1, 0, none⟩ (.int .i64 a)).setCell ⟨w.heap.size + 1 + 1, 0, none⟩ (.int .i64 y)).drewN m) := by
  have s0 := ((r0.set (.slice none 0 0)).other (B' := w.heap.size + 1) (by omega) (.int .i64 a)).other (B' := w.heap.size + 1 + 1) (by omega) (.int .i64 y)
  have s1 := ((r1.other (B' := w.heap.size) (by omega) (.slice none 0 0)).set (.int .i64 a)).other (B' := w.heap.size + 1 + 1) (by omega) (.int .i64 y)
  have s2 := ((r2.other (B' := w.heap.size) (by omega) (.slice none 0 0)).other (B' := w.heap.size + 1) (by omega) (.int .i64 a)).set (.int .i64 y)
  have k := ((KeepsOthers.setCell W ⟨w.heap.size, 0, none⟩ (.slice none 0 0)).trans (KeepsOthers.setCell _ ⟨w.heap.size + 1, 0, none⟩ (.int .i64 a))).trans (KeepsOthers.setCell _ ⟨w.heap.size + 1 + 1, 0, none⟩ (.int .i64 y))
  have b : Below w.heap.size w (((W.setCell ⟨w.heap.size, 0, none⟩ (.slice none 0 0)).setCell ⟨w.heap.size + 1, 0, none⟩ (.int .i64 a)).setCell ⟨w.heap.size + 1 + 1, 0, none⟩ (.int .i64 y)) :=
    ((hB.setCell (Nat.le_refl _) _).setCell (by simp) _).setCell (by simp; omega) _
  refine ⟨⟨k.size, fun i o _ h1 h2 => k.same i o h1 h2⟩, rfl, a, y, ⟨s0, s1, s2⟩, fun rest => ?_, pw_below_drewN b m⟩
  rw [List.append_assoc]
  exact hres rest

theorem w_end {w W : World} {s : ByteArray} {D : Nat} {xs : List Tok} {a y : Int} {tmps : Array Value} {A : Option Addr} {n C : Nat} (b0 : Boxed W w.heap.size 79 (.slice A n C)) (b1 : Boxed W (w.heap.size + 1) 3 (.int .i64 a)) (b2 : Boxed W (w.heap.size + 1 + 1) 67 (.int .i64 y))
    (hK : W.heap[D]? = some (.deferred (some []))) (hBD : w.heap.size ≤ D) (hB : Below w.heap.size w W) (hres : wordsSpec s = (xs, a, y)) (hv : kTok.R 88 W w.heap.size (fun _ => True) (.slice A n C) xs)
    (t2 : tmps.getD 2 undef = .pointer (some ⟨w.heap.size, 0, none⟩)) (t3 : tmps.getD 3 undef = .pointer (some ⟨w.heap.size + 1, 0, none⟩)) (t4 : tmps.getD 4 undef = .pointer (some ⟨w.heap.size + 1 + 1, 0, none⟩)) :
    bodyPostM Fence.wide 9 Tryz.prog Tryz.f57 (fun e w' => ∃ v, e = .returned (.tuple #[v, .int .i64 (wordsSpec s).2.1, .int .i64 (wordsSpec s).2.2]) ∧ kTok.R 88 w' w.heap.size (fun _ => True) v (wordsSpec s).1 ∧ Below w.heap.size w w') Exit.ret { tmps := tmps, defers := [{ target := Target.collected D, args := #[] }] } W := by
  have hg := grownBy_putObj' W D (.deferred none)
  have hr : ∀ r, some D = some r → w.heap.size ≤ r ∧ ∃ o : Obj, W.heap[r]? = some o ∧ o.isCells = false := fun r e => by cases e; exact ⟨hBD, _, hK, rfl⟩
  have c0 := (boxed_from b0 hg hr).cell
  have c1 := (boxed_from b1 hg hr).cell
  have c2 := (boxed_from b2 hg hr).cell
  have hv' := kd_ownFrom hv hg hr
  have hB' : Below w.heap.size w (W.putObj D (.deferred none)) := hB.grown hg hB.size (fun k e => by cases e; exact hBD)
  refine ⟨by simp, .inl ⟨_, _, rfl, run_takeDeferred hK, ?_⟩⟩
  generalize W.putObj D (.deferred none) = W' at *
  rw [hres]
  have hrun : (results Tryz.f57 tmps).run Tryz.prog W' = .ok (.tuple #[.slice A n C, .int .i64 a, .int .i64 y]) W' := by
    simp only [Array.getD_eq_getD_getElem?] at t2 t3 t4
    simp [results, Tryz.results57, t2, t3, t4, c0, c1, c2, go_sem]
  exact ⟨_, hrun, _, rfl, hv', hB'⟩

def wAx (w : World) (s : ByteArray) (t : Tok) (a' : Act) (W : World) : Prop :=
  ∃ Bx, w.heap.size + 1 + 1 + 1 < Bx ∧ W.heap[Bx]? = some (.cells #[.int .i64 t.f0, .string t.f1, .int .i64 t.f2] 88 (0, 0)) ∧
    a' = { tmps := #[.string s, undef, .pointer (some ⟨w.heap.size, 0, none⟩), .pointer (some ⟨w.heap.size + 1, 0, none⟩), .pointer (some ⟨w.heap.size + 1 + 1, 0, none⟩), .pointer (some ⟨w.heap.size + 1 + 1 + 1, 0, none⟩), .pointer (some ⟨Bx, 0, none⟩), .string s, .int .i64 s.size, .bool false, .string s,
      .func (.func 103) #[] #[.pointer (some ⟨w.heap.size + 1 + 1 + 1 + 1, 0, none⟩)], .agg #[.int .i64 t.f0, .string t.f1, .int .i64 t.f2], undef, undef, undef, undef, undef, undef, undef, undef, undef, undef, undef, undef, undef, undef, undef], defers := [] }
theorem wAx_own (w : World) (s : ByteArray) (B : Nat) (t : Tok) (a' : Act) : OwnFrom B (fun (_ : Unit) W => wAx w s t a' W) := by
  rintro _ A A' row ⟨Bx, h1, h2, h3⟩ hg hr
  refine ⟨Bx, h1, ?_, h3⟩
  refine (hg.block Bx (Array.getElem?_eq_some_iff.1 h2).1 ?_).trans h2
  rintro rfl
  obtain ⟨_, o, ho, hc⟩ := hr Bx rfl
  rw [h2] at ho
  cases ho
  cases hc

set_option maxRecDepth 100000 in
set_option maxHeartbeats 4000000 in
theorem words_short (s : ByteArray) (w : World) (hs : s.size ≤ 140737488351232) (hlong : ¬ 4096 < s.size) :
    CallsIn Fence.wide 9 Tryz.prog 57 #[.string s] w fun e w' => ∃ v, e = .returned (.tuple #[v, .int .i64 (wordsSpec s).2.1, .int .i64 (wordsSpec s).2.2]) ∧ kTok.R 88 w' w.heap.size (fun _ => True) v (wordsSpec s).1 ∧ Below w.heap.size w w' := by
  have E : Aside0 (wordsSpec s = wordsGo [] (toks s)) := ⟨by simp [wordsSpec, hlong]⟩
  have hb1 : decide ((4096 : Int) < (s.size : Int)) = false := by simp; omega
  have hb2 : decide (4096 < s.size) = false := decide_eq_false hlong
  refine callsIn_of_wp_marks Tryz.func57 rfl trivial ?_ rfl
  simp only [Tryz.ntmps57, List.size_toArray, List.length_cons, List.length_nil, Nat.reduceAdd, Nat.reduceSub, Array.replicate_succ, Array.replicate_zero, List.push_toArray, List.append_toArray, List.nil_append, List.cons_append]
  gi_wp2_with (refine ⟨trivial, ?_⟩; gi_at_call 78; refine (tokens_in _ _ _).mono ?_; rintro e w' ⟨rfl, rfl⟩)
  obtain ⟨W0, hW0⟩ : ∃ W0, (((((w.alloc (Obj.cells #[Value.slice none 0 0] 79)).alloc (Obj.cells #[Value.int IntKind.i64 0] 3)).alloc (Obj.cells #[Value.int IntKind.i64 0] 67)).alloc (Obj.cells #[Value.slice none 0 0] 79)).alloc (Obj.cells #[Value.string s] 9)) = W0 := ⟨_, rfl⟩
  rw [hW0]
  have hsz : W0.heap.size = w.heap.size + 1 + 1 + 1 + 1 + 1 := by rw [← hW0]; simp
  have q0 := Boxed.new w 79 (.slice none 0 0)
  have q1 := Boxed.new (w.alloc (Obj.cells #[Value.slice none 0 0] 79)) 3 (.int .i64 0)
  have q2 := Boxed.new ((w.alloc (Obj.cells #[Value.slice none 0 0] 79)).alloc (Obj.cells #[Value.int IntKind.i64 0] 3)) 67 (.int .i64 0)
  have q3 := Boxed.new (((w.alloc (Obj.cells #[Value.slice none 0 0] 79)).alloc (Obj.cells #[Value.int IntKind.i64 0] 3)).alloc (Obj.cells #[Value.int IntKind.i64 0] 67)) 79 (.slice none 0 0)
  have q4 := Boxed.new ((((w.alloc (Obj.cells #[Value.slice none 0 0] 79)).alloc (Obj.cells #[Value.int IntKind.i64 0] 3)).alloc (Obj.cells #[Value.int IntKind.i64 0] 67)).alloc (Obj.cells #[Value.slice none 0 0] 79)) 9 (.string s)
  have b0 : Boxed W0 w.heap.size 79 (.slice none 0 0) := by rw [← hW0]; exact (((q0.alloc _).alloc _).alloc _).alloc _
  have b1 : Boxed W0 (w.heap.size + 1) 3 (.int .i64 0) := by rw [← hW0]; simp only [World.size_alloc] at q1; exact ((q1.alloc _).alloc _).alloc _
  have b2 : Boxed W0 (w.heap.size + 1 + 1) 67 (.int .i64 0) := by rw [← hW0]; simp only [World.size_alloc] at q2; exact (q2.alloc _).alloc _
  have b3 : Boxed W0 (w.heap.size + 1 + 1 + 1) 79 (.slice none 0 0) := by rw [← hW0]; simp only [World.size_alloc] at q3; exact q3.alloc _
  have b4 : Boxed W0 (w.heap.size + 1 + 1 + 1 + 1) 9 (.string s) := by rw [← hW0]; simp only [World.size_alloc] at q4; exact q4
  have hB0 : Below w.heap.size w W0 := by rw [← hW0]; exact ((((((Below.refl _ w).alloc (Nat.le_refl _) _).alloc (by simp) _).alloc (by simp; omega) _).alloc (by simp; omega) _).alloc (by simp; omega) _)
  clear q0 q1 q2 q3 q4 hW0
  refine wpIn_rangeFunc_ownH rfl (by omega) (gf := 103) (lb := #[.pointer (some ⟨w.heap.size + 1 + 1 + 1 + 1, 0, none⟩)]) rfl trivial (enters_of Tryz.func103 (by kernel_rfl) rfl)
    (tokens_stops 8 (by omega) (w.heap.size + 1 + 1 + 1 + 1) s hs W0 (by omega) b4.cell) KeepAt.trans (keepAt_b (by omega)) (Below.refl _ _) (fun _ => rfl)
    (wI w) (wIx w) (wI_own w _ (by omega)) (fun c => wIx_own w _ (by omega) c)
    ⟨⟨b0, b1, b2⟩, ⟨_, b3, Kd.R_nil _ _ _ _ _⟩, ⟨_, b4⟩, fun _ => rfl, Nat.zero_le _, hB0, by omega⟩ (wAx w s) (fun x a' => wAx_own w s _ x a') ?assign ?body ?done ?stop
  case assign =>
    rintro l pre x W K ⟨⟨r0, r1, r2⟩, ⟨v, bv, hv⟩, ⟨su, bS⟩, hgo, hlen, hB, hsW⟩ hK
    replace hgo := Aside0.mk hgo
    replace hK := Aside0.mk hK
    simp only [encTok]
    gi_wp2
    have hA : Below W.heap.size W (W.alloc (Obj.cells #[Value.int IntKind.i64 x.f0, Value.string x.f1, Value.int IntKind.i64 x.f2] 88)) := (Below.refl _ W).alloc (Nat.le_refl _) _
    refine hK.out _ _ ((KeepsOthers.alloc _ _).from _) (KeepAt.of_below hA (by omega)) ⟨⟨r0.alloc _, r1.alloc _, r2.alloc _⟩, ⟨v, bv.alloc _, Kd.R_below hv hA⟩, ⟨su, bS.alloc _⟩, hgo.out, hlen, hB.trans (hA.mono (by omega)), by simp; omega⟩ ⟨W.heap.size, by omega, World.alloc_heap_new W _, rfl⟩
  case body =>
    rintro l pre t a' W hl ⟨r, hr⟩ ⟨⟨r0, r1, r2⟩, ⟨v, bv, hv⟩, ⟨su, bS⟩, hgo, hlen, hB, hsW⟩ ⟨Bx, hBx, bX, rfl⟩ hlt
    obtain ⟨⟨x0, x1, x2⟩, xf⟩ := cells3 bX
    have xf0 := xf 0
    have xf1 := xf 1
    have xf2 := xf 2
    have c0 := r0.cell
    have c1 := r1.cell
    have c2 := r2.cell
    have f0 := r0.frozen
    have f1 := r1.frozen
    have f2 := r2.frozen
    have c3 := bv.cell
    have f3 := bv.frozen
    replace hgo := Aside0.mk hgo
    replace bX := Aside0.mk bX
    clear xf
    by_cases hneg : t.f0 < 0
    · have hnb : decide (t.f0 < 0) = true := decide_eq_true hneg
      have hfol : Tryz.prog.follows Departure.mixedOrders = true := by kernel_rfl
      have fin := w_leave (t := t) (a := t.f2) (y := 4) 1 W0.heap.size r0 r1 r2 hB (fun rest => by rw [hgo.out]; simp only [wordsGo]; rw [if_pos hneg])
      replace fin := Aside0.mk fin
      clear hsz b0 b1 b2 b3 b4 hB0 hlong hb1 hb2 hs r hr
      gi_wp2
      gi_region_with_o (fail)
      all_goals gi_wp2
      all_goals exact fin.out
    · have hnb : decide (t.f0 < 0) = false := decide_eq_false hneg
      obtain ⟨A, C, rfl⟩ := Kd.R_slice hv
      by_cases hfull : pre.length = 1500
      · have hfb : ((pre.length : Int) == 1500) = true := by simp; omega
        have fin := w_leave (t := t) (a := 4096) (y := 2) 0 W0.heap.size r0 r1 r2 hB (fun rest => by rw [hgo.out]; simp only [wordsGo]; rw [if_neg hneg, if_pos hfull])
        replace fin := Aside0.mk fin
        replace hfull := Aside0.mk hfull
        clear hsz b0 b1 b2 b3 b4 hB0 hlong hb1 hb2 hs r hr
        gi_wp2
        exact fin.out
      · have hfb : ((pre.length : Int) == 1500) = false := by simp; omega
        obtain ⟨i0, hi, hz0, hz1, hz2⟩ := info_parts PPolicyHolds.info88
        obtain ⟨hv0, inner, hown, hreps⟩ := hv
        replace hreps := Aside0.mk hreps
        replace hown := Aside0.mk hown
        have hle : pre.length + 1 ≤ 1500 := by omega
        have hne3 : ∀ q, q ∈ [88] → 79 ≠ q := by decide
        clear hsz b0 b1 b2 b3 b4 hB0 hlong hb1 hb2 hs r hr hlt
        gi_wp2_with (gi_at_builtin; refine wpListIn_append_own _ rfl _ _ 79 rfl w.heap.size 88 i0 _ 3 32 Tryz.underlying79 hi hz0 hz1 hz2 rfl (by decide) _ _ _ rfl (hown.out.alloc _) ⟨W.heap.size, 0, none⟩ 1 1 [.int .i64 t.f0, .string t.f1, .int .i64 t.f2] rfl rfl ?hn1 ?hn2 ?hn3 ?hn4 ?hn5 ?_; (case hn1 => simpa using World.news_of_block (cs := #[Value.int .i64 t.f0, Value.string t.f1, Value.int .i64 t.f2]) (t := 88) (fr := (0, 0)) (heap_alloc_new W (.cells #[Value.int .i64 t.f0, Value.string t.f1, Value.int .i64 t.f2] 88))); (case hn2 => simp [Value.oneCell']); (case hn3 => simp only [maxLen]; omega); (case hn4 => omega); (case hn5 => simp; omega); intro v' w1 hown' hgrow _; obtain ⟨g', cap', rfl⟩ := ownsRow_succ hown'; obtain ⟨hv1, hv2, hr2, hk2, hb2⟩ := bv.appended (by decide) hown.out (by omega) (by omega) hown' hgrow; have hc1 := hv1.cell; have hf1 := hv1.frozen)
        have hg2 : (W.alloc (Obj.cells #[Value.int IntKind.i64 t.f0, Value.string t.f1, Value.int IntKind.i64 t.f2] 88)).grownBy w1 (Value.slice A pre.length C).ownBlock := hgrow
        have n0 := (r0.alloc (Obj.cells #[Value.int IntKind.i64 t.f0, Value.string t.f1, Value.int IntKind.i64 t.f2] 88)).not_row (by decide) (hown.out.alloc _)
        have n1 := (r1.alloc (Obj.cells #[Value.int IntKind.i64 t.f0, Value.string t.f1, Value.int IntKind.i64 t.f2] 88)).not_row (by decide) (hown.out.alloc _)
        have n2 := (r2.alloc (Obj.cells #[Value.int IntKind.i64 t.f0, Value.string t.f1, Value.int IntKind.i64 t.f2] 88)).not_row (by decide) (hown.out.alloc _)
        have n4 := (bS.alloc (Obj.cells #[Value.int IntKind.i64 t.f0, Value.string t.f1, Value.int IntKind.i64 t.f2] 88)).not_row (by decide) (hown.out.alloc _)
        have y0 := ((r0.alloc _).kept hg2 n0).other (B' := w.heap.size + 1 + 1 + 1) (by omega) (.slice (some ⟨g', 0, none⟩) (pre.length + 1) cap')
        have y1 := ((r1.alloc _).kept hg2 n1).other (B' := w.heap.size + 1 + 1 + 1) (by omega) (.slice (some ⟨g', 0, none⟩) (pre.length + 1) cap')
        have y2 := ((r2.alloc _).kept hg2 n2).other (B' := w.heap.size + 1 + 1 + 1) (by omega) (.slice (some ⟨g', 0, none⟩) (pre.length + 1) cap')
        have y4 := ((bS.alloc _).kept hg2 n4).other (B' := w.heap.size + 1 + 1 + 1) (by omega) (.slice (some ⟨g', 0, none⟩) (pre.length + 1) cap')
        refine ⟨hk2.from _, ⟨hk2.size, y4.trans bS.symm⟩, ⟨y0, y1, y2⟩, ⟨_, hv2, ⟨fun _ _ => trivial, _, by rw [List.length_append]; exact hr2, ?_⟩⟩, ⟨_, y4⟩, fun rest => ?_, by simp; omega, hB.trans (hb2.mono (Nat.le_refl _)), Nat.le_trans hsW hk2.size⟩
        · refine (hreps.out.imp_ (fun p c hp => ?_)).snoc (PPolicyHolds.k88_mkM _ _ _ t) rfl
          rw [PPolicyHolds.k88_openM hp]
          exact PPolicyHolds.k88_mkM _ _ _ p
        · rw [List.append_assoc, hgo.out]
          simp only [List.cons_append, List.nil_append, wordsGo]
          rw [if_neg (by omega), if_neg hfull]
  case done =>
    rintro D ys W hD rfl ⟨⟨r0, r1, r2⟩, ⟨v, bv, hv⟩, ⟨su, bS⟩, hgo, hlen, hB, hsW⟩ hK
    obtain ⟨A, C, rfl⟩ := Kd.R_slice hv
    have c0 := r0.cell
    have c1 := r1.cell
    have c2 := r2.cell
    have f0 := r0.frozen
    have f1 := r1.frozen
    have f2 := r2.frozen
    have c3 := bv.cell
    have f3 := bv.frozen
    have hsp := hgo []
    rw [List.append_nil] at hsp
    replace hgo := Aside0.mk hgo
    have k0 := r0.set (.slice A (toks s).length C)
    gi_wp2
    refine w_end (xs := toks s) (a := 0) (y := 0) (((r0.set _).other (B' := w.heap.size + 1) (by omega) _).other (B' := w.heap.size + 1 + 1) (by omega) _) (((r1.other (B' := w.heap.size) (by omega) _).set _).other (B' := w.heap.size + 1 + 1) (by omega) _) (((r2.other (B' := w.heap.size) (by omega) _).other (B' := w.heap.size + 1) (by omega) _).set _)
      ?_ (by omega) (((hB.setCell (Nat.le_refl _) _).setCell (by simp) _).setCell (by simp; omega) _) (by rw [E.out, hsp]; rfl) ?_ rfl rfl rfl
    · rw [Below.heap_setCell _ _ _ _ (by simp; omega), Below.heap_setCell _ _ _ _ (by simp; omega), Below.heap_setCell _ _ _ _ (by simp; omega)]; exact hK
    · have ne : ∀ q, q ∈ 88 :: kTok.E → q ≠ 79 ∧ q ≠ 3 ∧ q ≠ 67 := by decide
      exact Kd.R_set (Kd.R_set (Kd.R_set hv r0 (fun q hq => (ne q hq).1) 0 _) (r1.other (B' := w.heap.size) (by omega) _) (fun q hq => (ne q hq).2.1) 0 _) ((r2.other (B' := w.heap.size) (by omega) _).other (B' := w.heap.size + 1) (by omega) _) (fun q hq => (ne q hq).2.2) 0 _
  case stop =>
    rintro D c pre W hD hp ⟨rfl, at_, y, ⟨r0, r1, r2⟩, hgo, hB⟩ hK
    obtain ⟨rest, hrest⟩ := hp
    have hsp := hgo rest
    rw [hrest] at hsp
    replace hgo := Aside0.mk hgo
    replace hsp := Aside0.mk hsp
    gi_wp2
    exact w_end (xs := []) r0 r1 r2 hK (by omega) hB (by rw [E.out, hsp.out]) (Kd.R_nil _ _ _ _ _) rfl rfl rfl

set_option maxRecDepth 100000 in
set_option maxHeartbeats 1000000 in
theorem words_long (s : ByteArray) (w : World) (hlong : 4096 < s.size) :
    Calls Tryz.prog 57 #[.string s] w fun e w' => ∃ v, e = .returned (.tuple #[v, .int .i64 (wordsSpec s).2.1, .int .i64 (wordsSpec s).2.2]) ∧ kTok.R 88 w' w.heap.size (fun _ => True) v (wordsSpec s).1 ∧ Below w.heap.size w w' := by
  have E : Aside0 (wordsSpec s = ([], 0, 2)) := ⟨by simp [wordsSpec, hlong]⟩
  have hb1 : decide ((4096 : Int) < (s.size : Int)) = true := by simp; omega
  have hb2 : decide (4096 < s.size) = true := decide_eq_true hlong
  go_enter Tryz.func57, Tryz.ntmps57
  go_wp2
  refine bodyPost_ret (v := .tuple #[.slice none 0 0, .int .i64 0, .int .i64 2]) ?_ rfl ?_
  · simp [results, Tryz.results57, go_sem]
  · rw [E.out]
    exact ⟨_, rfl, Kd.R_nil _ _ _ _ _, (((Below.refl _ w).alloc (Nat.le_refl _) _).alloc (by simp) _).alloc (by simp; omega) _⟩
theorem words_calls (s : ByteArray) (w : World) (hs : s.size ≤ 140737488351232) :
    Calls Tryz.prog 57 #[.string s] w fun e w' => ∃ v, e = .returned (.tuple #[v, .int .i64 (wordsSpec s).2.1, .int .i64 (wordsSpec s).2.2]) ∧ kTok.R 88 w' w.heap.size (fun _ => True) v (wordsSpec s).1 ∧ Below w.heap.size w w' := by
  by_cases hlong : 4096 < s.size
  · exact words_long s w hlong
  · exact callsIn_wide.1 (words_short s w hs hlong)
end Go.Proofs.YtkafikdjhiienaaGreatDoor

/- spec -/
namespace Go.Proofs.YtkafikdjhiienaaGreatDoor
open Go.RowKit Go.Proofs.YtkafikdjhiienaaGreatDoorW.PrintWords

abbrev bs (l : List UInt8) : ByteArray := ⟨l.toArray⟩
def wordNull : ByteArray := ⟨#[110, 117, 108, 108]⟩
def wordsL : List ByteArray := [⟨#[110, 117, 108, 108]⟩, ⟨#[98, 111, 111, 108]⟩, ⟨#[105, 110, 116]⟩, ⟨#[108, 111, 110, 103]⟩, ⟨#[98, 121, 116, 101, 115]⟩, ⟨#[116, 101, 120, 116]⟩, ⟨#[]⟩, ⟨#[]⟩, ⟨#[]⟩, ⟨#[101, 110, 117, 109]⟩, ⟨#[102, 105, 120, 101, 100]⟩, ⟨#[114, 101, 99, 111, 114, 100]⟩]
def isKeyword (s : ByteArray) : Bool := decide (0 < s.size) && Lib.containsS wordsL s

structure PS where
  l : List Tok
  nodes : List Nod
abbrev PR (α : Type) := Except (Int × Int) (α × PS)

def PS.tok (p : PS) : Tok := p.l.headD ⟨3, ⟨#[]⟩, 0⟩
def PS.fail {α : Type} (p : PS) (why : Int) : PR α := .error (p.tok.f2, why)
def PS.is (p : PS) (s : ByteArray) : Bool := decide (p.tok.f0 ≠ 3) && decide (p.tok.f1 = s)
def PS.next (p : PS) : PS := { p with l := p.l.tail }
def PS.must (p : PS) (s : ByteArray) : PR Unit := if p.is s = true then .ok ((), p.next) else p.fail 4
def PS.goes (p : PS) (s : ByteArray) : Bool × PS := if p.is s = true then (true, p.next) else (false, p)
def PS.name (p : PS) (there : ByteArray → Bool) : PR ByteArray :=
  if p.tok.f0 ≠ 0 ∨ isKeyword p.tok.f1 = true ∨ isName p.tok.f1 = false then p.fail 4
  else if there p.tok.f1 = true then p.fail 6 else .ok (p.tok.f1, p.next)
def PS.begins (p : PS) (k : Int) : PS := { p with nodes := p.nodes ++ [⟨k, ⟨#[]⟩, 0, [], [], []⟩] }

abbrev sBo : ByteArray := ⟨#[91]⟩
abbrev sBc : ByteArray := ⟨#[93]⟩
abbrev sCo : ByteArray := ⟨#[123]⟩
abbrev sCc : ByteArray := ⟨#[125]⟩
abbrev sPo : ByteArray := ⟨#[40]⟩
abbrev sPc : ByteArray := ⟨#[41]⟩
abbrev sLt : ByteArray := ⟨#[60]⟩
abbrev sGt : ByteArray := ⟨#[62]⟩
abbrev sBar : ByteArray := ⟨#[124]⟩
abbrev sComma : ByteArray := ⟨#[44]⟩
abbrev sColon : ByteArray := ⟨#[58]⟩
abbrev sSemi : ByteArray := ⟨#[59]⟩
abbrev sQm : ByteArray := ⟨#[63]⟩

/-- The kind of the type that begins here; below 0: it is a name. -/
def PS.kind (p : PS) : Except (Int × Int) Int :=
  if p.is sBo = true then .ok 6 else if p.is sCo = true then .ok 7 else if p.is sPo = true then .ok 8
  else if p.tok.f0 ≠ 0 then .error (p.tok.f2, 4)
  else if isKeyword p.tok.f1 = true then .ok (Lib.idxOfS wordsL p.tok.f1)
  else if isName p.tok.f1 = false then .error (p.tok.f2, 4) else .ok (-1)

/-- The node of a name; below 0: there is none. -/
def calledFrom (s : ByteArray) : List Nod → Int
  | [] => -1
  | x :: r => if 9 ≤ x.f0 ∧ x.f1 = s then 0 else if calledFrom s r < 0 then -1 else calledFrom s r + 1
def PS.called (p : PS) (s : ByteArray) : Int := calledFrom s p.nodes

def modNode (nodes : List Nod) (n : Int) (f : Nod → Nod) : List Nod := nodes.modify n.toNat f
def PS.mod (p : PS) (n : Int) (f : Nod → Nod) : PS := { p with nodes := modNode p.nodes n f }

section
/- T: how a type is read, one level deeper. -/
variable (T : Bool → List Int → PS → PR Int)

def pItem (n : Int) (shut : ByteArray) (p : PS) : PR Unit :=
  match T false [] p with
  | .error e => .error e
  | .ok (x, q) => (q.mod n fun y => { y with f4 := [x] }).must shut

def pUnion (n : Int) : Nat → List Int → PS → PR Unit
  | 0, _, p => p.fail 0
  | k + 1, l, p => match T true l p with
    | .error e => .error e
    | .ok (x, q) => match q.goes sPc with
      | (true, q') => .ok ((), q'.mod n fun y => { y with f4 := l ++ [x] })
      | (false, q') => match q'.must sBar with
        | .error e => .error e
        | .ok (_, q'') => pUnion n k (l ++ [x]) q''

def pSyms (n : Int) : Nat → List ByteArray → PS → PR Unit
  | 0, _, p => p.fail 0
  | k + 1, l, p => match p.name (fun s => Lib.containsS l s) with
    | .error e => .error e
    | .ok (x, q) => match q.goes sGt with
      | (true, q') => .ok ((), q'.mod n fun y => { y with f3 := l ++ [x] })
      | (false, q') => match q'.must sComma with
        | .error e => .error e
        | .ok (_, q'') => pSyms n k (l ++ [x]) q''

def pFields (n : Int) : Nat → List Fld → PS → PR Unit
  | 0, _, p => p.fail 0
  | k + 1, l, p => match p.goes sCc with
    | (true, q) => .ok ((), q.mod n fun y => { y with f5 := l })
    | (false, q) => match q.name (fun s => l.any fun f => decide (f.f0 = s)) with
      | .error e => .error e
      | .ok (x, q) => match q.goes sQm with
        | (has, q) => match q.must sColon with
          | .error e => .error e
          | .ok (_, q) => match T false [] q with
            | .error e => .error e
            | .ok (t, q) => match q.must sSemi with
              | .error e => .error e
              | .ok (_, q) => pFields n k (l ++ [⟨x, has, t⟩]) q

def pDefined (n k : Int) (p : PS) : PR Unit :=
  match p.name (fun s => decide (0 ≤ p.called s)) with
  | .error e => .error e
  | .ok (s, q) =>
    let q := q.mod n fun y => { y with f1 := s }
    if k = 9 then match q.must sLt with
      | .error e => .error e
      | .ok (_, q) => pSyms n q.l.length [] q
    else if k = 10 then match isNumber q.tok.f1 with
      | none => q.fail 4
      | some z => if q.tok.f0 ≠ 1 then q.fail 4 else .ok ((), q.next.mod n fun y => { y with f2 := z })
    else match q.must sCo with
      | .error e => .error e
      | .ok (_, q) => pFields T n q.l.length [] q

/-- Behind a type's first token: what makes its node n of kind k whole. -/
def pRest (n k : Int) (p : PS) : PR Unit :=
  if k = 6 then pItem T n sBc p else if k = 7 then pItem T n sCc p else if k = 8 then pUnion T n p.l.length [] p
  else if 9 ≤ k then pDefined T n k p else .ok ((), p)
end

def dupKind (nodes : List Nod) (k : Int) (l : List Int) : Bool := l.any fun m => decide ((nodes.getD m.toNat PPolicyHolds.z110).f0 = k)
/-- d: how many levels more there may be. -/
def pTyped : Nat → Bool → List Int → PS → PR Int
  | d, union, ahead, p => match p.kind with
    | .error e => .error e
    | .ok k =>
      if d = 0 ∨ 0 ≤ k ∧ 200 ≤ p.nodes.length then p.fail 2
      else if k < 0 ∧ p.called p.tok.f1 < 0 then p.fail 5
      else if union = true ∧ k = 8 then p.fail 4
      else if union = true ∧ k < 0 ∧ ahead.contains (p.called p.tok.f1) = true then p.fail 6
      else if union = true ∧ 0 ≤ k ∧ k < 9 ∧ dupKind p.nodes k ahead = true then p.fail 6
      else if k < 0 then .ok (p.called p.tok.f1, p.next)
      else match d with
        | 0 => p.fail 2
        | d + 1 => match pRest (pTyped d) p.nodes.length k (p.next.begins k) with
          | .error e => .error e
          | .ok (_, q) => .ok (p.nodes.length, q)

/-- A text's schema: its nodes; or a place and a reason. -/
def parseSpec (s : ByteArray) : List Nod × Int × Int :=
  match wordsSpec s with
  | (l, a, y) => if y ≠ 0 then ([], a, y) else
    match pTyped 20 false [] ⟨l, []⟩ with
    | .error e => ([], e.1, e.2)
    | .ok (_, q) => if q.tok.f0 ≠ 3 then ([], q.tok.f2, 4) else (q.nodes, 0, 0)
end Go.Proofs.YtkafikdjhiienaaGreatDoor

/- read -/
namespace Go.Proofs.YtkafikdjhiienaaGreatDoor
open Go.RowKit Go.Proofs.YtkafikdjhiienaaGreatDoorW.PrintWords

/-- Tokens that lie in block g from cell off on. -/
def TokAt (w : World) (g off : Nat) (l : List Tok) : Prop :=
  ∃ cells, w.heap[g]? = some (.cells cells 88 (0, 0)) ∧ ∀ j t, l[j]? = some t → cells[off + 3 * j]? = some (.int .i64 t.f0) ∧ cells[off + 3 * j + 1]? = some (.string t.f1) ∧ cells[off + 3 * j + 2]? = some (.int .i64 t.f2)
/-- Names that are known, as the map has them. -/
def namedNo (nodes : List Nod) : Nat := (nodes.filter fun x => decide (0 < x.f1.size)).length
def NamedIs (D : DataW Unit) (nodes : List Nod) : Prop :=
  Maps.IsMap D ∧ Maps.size D ≤ namedNo nodes ∧ ∀ s : ByteArray, 0 < s.size → ∀ z, D.atKey (.string s.data.toList) z = if calledFrom s nodes < 0 then z else .lit (.int .i64 (calledFrom s nodes))
/-- The list ends with the end's token, and its texts are short. -/
def Good (l : List Tok) : Prop := (∃ body e, l = body ++ [e] ∧ e.f0 = 3) ∧ (∀ t ∈ l, t.f1.size ≤ 4096) ∧ l.length ≤ 2000

/-- What the package-level variables hold. -/
structure LaidAt (w : World) : Prop where
  size : 6 ≤ w.heap.size
  words : ∀ j, j < 12 → w.cell? ⟨1, j, none⟩ = some (.string (wordsL.getD j ByteArray.empty))
  pow10 : Lib.TabIs Tryz.prog w "internal/strconv.uint64pow10" .u64 Lib.pow10Tab
theorem pow10_named : Tryz.prog.globalNamed "internal/strconv.uint64pow10" = some 3 := by kernel_rfl
theorem LaidAt.same {w w' : World} (h : LaidAt w) (hs : w.heap.size ≤ w'.heap.size) (hb : ∀ k, k < 6 → w'.heap[k]? = w.heap[k]?) : LaidAt w' := by
  refine ⟨Nat.le_trans h.size hs, fun j hj => (World.cell?_of_block (w := w) (hb 1 (by decide))).trans (h.words j hj), ?_⟩
  have := h.pow10
  unfold Lib.TabIs World.var? at this ⊢
  rw [pow10_named] at this ⊢
  simp only [Option.bind_some] at this ⊢
  rw [hb _ (by decide)]
  exact this
theorem LaidAt.below {w w' : World} (h : LaidAt w) (hb : Below w.heap.size w w') : LaidAt w' := h.same hb.size (fun k hk => hb.block k (Nat.lt_of_lt_of_le hk h.size))

structure RSx (b : Nat) (ok : Nat → Prop) (R Mb : Nat) (w : World) (p : PS) (g off c : Nat) (nv : Value) (m : Nat) (D : DataW Unit) : Prop where
  blk : w.heap[R]? = some (.cells #[.slice (some ⟨g, off, none⟩) p.l.length c, nv, .map (some Mb)] 97 (0, 0))
  cap : p.l.length ≤ c
  tok : TokAt w g off p.l
  nodes : kNod.R 110 w b ok nv p.nodes
  map : w.ownsMap Tryz.prog 9 (plainElem Tryz.prog 3) Mb m D
  mlen : m ≤ p.nodes.length
  named : NamedIs D p.nodes
  good : Good p.l
  nlen : p.nodes.length ≤ 200
  low : b ≤ R ∧ b ≤ Mb
  laid : LaidAt w
  high : 6 ≤ b
/-- The reader in block R, its map in block Mb, what it makes from block b on. -/
def RS (b : Nat) (ok : Nat → Prop) (R Mb : Nat) (w : World) (p : PS) : Prop := ∃ g off c nv m D, RSx b ok R Mb w p g off c nv m D

/-- What the parser may turn: the reader, its map, the nodes' rows from b on; and what is new. -/
structure Fr (b R Mb : Nat) (w w' : World) : Prop where
  os : w'.os = w.os
  tape : w'.tape = w.tape
  output : w'.output = w.output
  size : w.heap.size ≤ w'.heap.size
  block : ∀ k, k < w.heap.size → k ≠ R → k ≠ Mb → (b ≤ k → ∀ cs, w.heap[k]? ≠ some (.cells cs 110 (0, 0))) → w'.heap[k]? = w.heap[k]?
theorem Fr.refl (b R Mb : Nat) (w : World) : Fr b R Mb w w := ⟨rfl, rfl, rfl, Nat.le_refl _, fun _ _ _ _ _ => rfl⟩
theorem Fr.trans {b R Mb : Nat} {w w1 w2 : World} (h : Fr b R Mb w w1) (k : Fr b R Mb w1 w2) : Fr b R Mb w w2 :=
  ⟨k.os.trans h.os, k.tape.trans h.tape, k.output.trans h.output, Nat.le_trans h.size k.size, fun i hi h1 h2 h3 => by
    have e := h.block i hi h1 h2 h3
    exact (k.block i (Nat.lt_of_lt_of_le hi h.size) h1 h2 (fun hb cs => by rw [e]; exact h3 hb cs)).trans e⟩
theorem Fr.of_below {b R Mb : Nat} {w w' : World} (h : Below w.heap.size w w') : Fr b R Mb w w' := ⟨h.os, h.tape, h.output, h.size, fun k hk _ _ _ => h.block k hk⟩
theorem Fr.of_drawn {b R Mb : Nat} {w w' : World} (h : Drawn0 w w') : Fr b R Mb w w' := Fr.of_below h.below
theorem Fr.setR {b R Mb : Nat} {w w' : World} (h : Fr b R Mb w w') (i : Nat) (v : Value) : Fr b R Mb w (w'.setCell ⟨R, i, none⟩ v) :=
  h.trans ⟨rfl, rfl, rfl, by simp [World.setCell], fun k _ hR _ _ => Below.heap_setCell _ _ _ _ hR⟩

def stopE (a y : Int) : List PanicEntry := [{ v := .iface 92 (.agg #[.int .i64 a, .int .i64 y]), recovered := false }]
/-- What a reader's function comes to: as the plain one says. -/
def Post {α : Type} (b : Nat) (ok : Nat → Prop) (R Mb : Nat) (w : World) (enc : α → Value) (r : PR α) (e : Ending) (w' : World) : Prop :=
  match r with
  | .ok (x, q) => e = .returned (enc x) ∧ RS b ok R Mb w' q ∧ Fr b R Mb w w'
  | .error (a, y) => e = .panicked (stopE a y) ∧ Fr b R Mb w w'

theorem TokAt.cells {w : World} {g off : Nat} {l : List Tok} (h : TokAt w g off l) (j : Nat) (t : Tok) (ht : l[j]? = some t) :
    w.cell? ⟨g, off + 3 * j, none⟩ = some (.int .i64 t.f0) ∧ w.cell? ⟨g, off + 3 * j + 1, none⟩ = some (.string t.f1) ∧ w.cell? ⟨g, off + 3 * j + 2, none⟩ = some (.int .i64 t.f2) := by
  obtain ⟨cells, hg, hc⟩ := h
  obtain ⟨h0, h1, h2⟩ := hc j t ht
  exact ⟨by simp [World.cell?, hg, h0], by simp [World.cell?, hg, h1], by simp [World.cell?, hg, h2]⟩
theorem TokAt.tail {w : World} {g off : Nat} {t : Tok} {l : List Tok} (h : TokAt w g off (t :: l)) : TokAt w g (off + 3) l := by
  obtain ⟨cells, hg, hc⟩ := h
  refine ⟨cells, hg, fun j t ht => ?_⟩
  have := hc (j + 1) t (by simpa using ht)
  rwa [show off + 3 * (j + 1) = off + 3 + 3 * j by omega] at this
theorem TokAt.same {w w' : World} {g off : Nat} {l : List Tok} (h : TokAt w g off l) (hg : w'.heap[g]? = w.heap[g]?) : TokAt w' g off l := by
  obtain ⟨cells, h1, hc⟩ := h
  exact ⟨cells, hg.trans h1, hc⟩
theorem TokAt.ne_cells {w : World} {g off : Nat} {l : List Tok} (h : TokAt w g off l) {k t : Nat} {cs : Array Value} (hk : w.heap[k]? = some (.cells cs t (0, 0))) (ht : t ≠ 88) : g ≠ k := by
  obtain ⟨cells, h1, _⟩ := h
  rintro rfl
  rw [h1] at hk
  injection hk with hk
  injection hk with _ e
  exact ht e.symm
theorem str_eq (a b : ByteArray) : (a.toList == b.toList) = decide (a = b) := by
  by_cases h : a = b
  · simp [h]
  · have : a.toList ≠ b.toList := by
      intro e
      rw [Lib.toList_data, Lib.toList_data] at e
      exact h (ByteArray.ext (Array.ext' e))
    simp [h, this]
theorem Good.ne {l : List Tok} (h : Good l) : ∃ t r, l = t :: r := by
  obtain ⟨⟨body, e, rfl, _⟩, _⟩ := h
  cases body with
  | nil => exact ⟨e, [], rfl⟩
  | cons t r => exact ⟨t, r ++ [e], rfl⟩
theorem Good.tail {t : Tok} {l : List Tok} (h : Good (t :: l)) (ht : t.f0 ≠ 3) : Good l := by
  obtain ⟨⟨body, e, he, h3⟩, hs, hn⟩ := h
  refine ⟨?_, fun t ht => hs t (List.mem_cons_of_mem _ ht), by simp only [List.length_cons] at hn; omega⟩
  cases body with
  | nil =>
    injection he with h1 _
    rw [h1] at ht
    exact absurd h3 ht
  | cons t' r =>
    injection he with _ h2
    exact ⟨r, e, h2, h3⟩

set_option maxHeartbeats 400000 in
theorem is_calls {b R Mb : Nat} {ok : Nat → Prop} {w : World} {p : PS} (h : RS b ok R Mb w p) (s : ByteArray) :
    Calls Tryz.prog 110 #[.pointer (some ⟨R, 0, none⟩), .string s] w fun e w' => e = .returned (.bool (p.is s)) ∧ Drawn0 w w' := by
  obtain ⟨g, off, c, nv, m, D, hx⟩ := h
  obtain ⟨t, r, hl⟩ := hx.good.ne
  have hb := hx.blk
  have ht := hx.tok
  rw [hl] at hb ht
  obtain ⟨t0, t1, t2⟩ := ht.cells 0 t rfl
  have r0 := (blk_cell hb 0).trans rfl
  have E := Aside0.mk (show p.is s = (decide (t.f0 ≠ 3) && decide (t.f1 = s)) by simp [PS.is, PS.tok, hl])
  clear hx hb ht hl
  simp only [Nat.mul_zero, Nat.add_zero, List.length_cons] at t0 t1 t2 r0
  by_cases h3 : t.f0 = 3
  · have hb : (t.f0 != 3) = false := by simp [h3]
    have E2 := Aside0.mk (show p.is s = false by rw [E.out]; simp [h3])
    replace h3 := Aside0.mk h3
    go_enter Tryz.func110, Tryz.ntmps110
    go_wp2
    go_ret
    exact ⟨by rw [E2.out]; rfl, Drawn0.refl _⟩
  · have hb : (t.f0 != 3) = true := by simp [h3]
    have E2 := Aside0.mk (show p.is s = (t.f1.toList == s.toList) by rw [E.out, str_eq]; simp [h3])
    replace h3 := Aside0.mk h3
    go_enter Tryz.func110, Tryz.ntmps110
    go_wp2
    go_ret
    exact ⟨by rw [E2.out]; rfl, Drawn0.refl _⟩

set_option maxHeartbeats 400000 in
theorem fail_calls {b R Mb : Nat} {ok : Nat → Prop} {w : World} {p : PS} (h : RS b ok R Mb w p) (y : Int) :
    Calls Tryz.prog 60 #[.pointer (some ⟨R, 0, none⟩), .int .i64 y] w fun e w' => e = .panicked (stopE p.tok.f2 y) ∧ Drawn0 w w' := by
  obtain ⟨g, off, c, nv, m, D, hx⟩ := h
  obtain ⟨t, r, hl⟩ := hx.good.ne
  have hb := hx.blk
  have ht := hx.tok
  rw [hl] at hb ht
  obtain ⟨t0, t1, t2⟩ := ht.cells 0 t rfl
  have r0 := (blk_cell hb 0).trans rfl
  have E := Aside0.mk (show p.tok = t by simp [PS.tok, hl])
  clear hx hb ht hl
  simp only [Nat.mul_zero, Nat.add_zero, List.length_cons] at t0 t1 t2 r0
  go_enter Tryz.func60, Tryz.ntmps60
  go_wp2
  exact ⟨rfl, by rw [E.out]; exact ⟨rfl, Drawn0.refl _⟩⟩

/-- The reader has gone past a token that is not the last one. -/
theorem RSx.next {b R Mb : Nat} {ok : Nat → Prop} {w : World} {p : PS} {g off c : Nat} {nv : Value} {m : Nat} {D : DataW Unit} (h : RSx b ok R Mb w p g off c nv m D) {t : Tok} {r : List Tok} (hl : p.l = t :: r) (ht : t.f0 ≠ 3) :
    RS b ok R Mb (w.setCell ⟨R, 0, none⟩ (.slice (some ⟨g, off + 3, none⟩) r.length (c - 1))) p.next ∧ 1 < c ∧ 1 ≤ r.length := by
  have hg : Good r := by have := h.good; rw [hl] at this; exact this.tail ht
  obtain ⟨t', r', hr⟩ := hg.ne
  have hc := h.cap
  rw [hl] at hc
  have hlen : 1 ≤ r.length := by rw [hr]; simp
  simp only [List.length_cons] at hc
  have hgR : g ≠ R := h.tok.ne_cells h.blk (by decide)
  have hMR : Mb ≠ R := by
    rintro rfl
    obtain ⟨es, cl, hm, _⟩ := h.map
    rw [h.blk] at hm
    cases hm
  refine ⟨⟨g, off + 3, c - 1, nv, m, D, ?_⟩, by omega, hlen⟩
  have hnx : p.next.l = r := by simp [PS.next, hl]
  refine ⟨?_, by rw [hnx]; omega, ?_, ?_, ?_, h.mlen, h.named, by rw [hnx]; exact hg, h.nlen, h.low, h.laid.same (by simp [World.setCell]) (fun k hk => Below.heap_setCell _ _ _ _ (by have := h.low; have := h.high; simp; omega)), h.high⟩
  · rw [hnx]; exact blk_set h.blk 0 _
  · rw [hnx]
    have := h.tok
    rw [hl] at this
    exact this.tail.same (Below.heap_setCell _ _ _ _ hgR)
  · exact Kd.R_set h.nodes h.blk (by decide) 0 _
  · exact h.map.kept (grownBy_setCell' w R _) (fun e => hMR (Option.some.inj e))
theorem RS.fr {b R Mb : Nat} {ok : Nat → Prop} {w w' : World} {p : PS} (h : RS b ok R Mb w p) (hb : Below w.heap.size w w') : RS b ok R Mb w' p := by
  obtain ⟨g, off, c, nv, m, D, hx⟩ := h
  have hgl : g < w.heap.size := by obtain ⟨cells, hg, _⟩ := hx.tok; exact blk_lt hg
  refine ⟨g, off, c, nv, m, D, (hb.block R (blk_lt hx.blk)).trans hx.blk, hx.cap, hx.tok.same (hb.block g hgl), Kd.R_below hx.nodes hb, ?_, hx.mlen, hx.named, hx.good, hx.nlen, hx.low, hx.laid.below hb, hx.high⟩
  exact hx.map.kept (grown_of_below hb none) (by simp)

theorem tail_len (r : List Tok) (t : Tok) : (t :: r).length = r.length + 1 := rfl

theorem drawnN_heap (w : World) (n : Nat) : (w.drewN n).heap = w.heap ∧ (w.drewN n).os = w.os ∧ (w.drewN n).tape = w.tape ∧ (w.drewN n).output = w.output := by
  induction n with
  | zero => exact ⟨rfl, rfl, rfl, rfl⟩
  | succ n ih => rw [← World.drew_drewN]; exact ih
theorem setCell_drawn (w : World) (n : Nat) (a : Addr) (v : Value) : Below (w.setCell a v).heap.size (w.setCell a v) ((w.drewN n).setCell a v) := by
  have h := drawnN_heap w n
  obtain ⟨_, h2, h3, h4⟩ := h
  refine ⟨h2, h3, h4, ?_, fun k _ => ?_⟩
  · simp [World.setCell]
  · simp [World.setCell]
theorem drawnN_below (w : World) (n : Nat) : Below w.heap.size w (w.drewN n) := pw_below_drewN (Below.refl _ _) n
/-- What a failed call comes to. -/
theorem Post.bad {α : Type} {b R Mb : Nat} {ok : Nat → Prop} {w w' : World} {enc : α → Value} {r : PR α} {a y : Int} (h : r = .error (a, y)) (hf : Fr b R Mb w w') : Post b ok R Mb w enc r (.panicked (stopE a y)) w' := by rw [h]; exact ⟨rfl, hf⟩
theorem Post.good {α : Type} {b R Mb : Nat} {ok : Nat → Prop} {w w' : World} {enc : α → Value} {r : PR α} {x : α} {q : PS} (h : r = .ok (x, q)) (hs : RS b ok R Mb w' q) (hf : Fr b R Mb w w') : Post b ok R Mb w enc r (.returned (enc x)) w' := by rw [h]; exact ⟨rfl, hs, hf⟩

/-- 'r.l = r.l[1:]': the cells that it reads, the world that it leaves. -/
theorem RS.step {b R Mb : Nat} {ok : Nat → Prop} {w : World} {p : PS} (h : RS b ok R Mb w p) (h3 : p.tok.f0 ≠ 3) :
    ∃ g off n c x y, w.cell? ⟨R, 0, none⟩ = some (.slice (some ⟨g, off, none⟩) (n + 1) c) ∧ w.frozen? ⟨R, 0, none⟩ = false ∧ 1 < c ∧ n + 1 ≤ c ∧ 1 ≤ n ∧ w.cell? ⟨g, off, none⟩ = some (.int .i64 p.tok.f0) ∧ w.cell? ⟨g, off + 1, none⟩ = some (.string p.tok.f1) ∧ w.cell? ⟨g, off + 2, none⟩ = some (.int .i64 p.tok.f2) ∧
      w.cell? ⟨R, 1, none⟩ = some x ∧ w.cell? ⟨R, 2, none⟩ = some y ∧ RS b ok R Mb (w.setCell ⟨R, 0, none⟩ (.slice (some ⟨g, off + 3, none⟩) n (c - 1))) p.next := by
  obtain ⟨g, off, c, nv, m, D, hx⟩ := h
  obtain ⟨t, r, hl⟩ := hx.good.ne
  have htok : p.tok = t := by simp [PS.tok, hl]
  rw [htok] at h3 ⊢
  obtain ⟨hs, hc, hr⟩ := hx.next hl h3
  have hb := hx.blk
  have ht := hx.tok
  rw [hl] at hb ht
  have hcap := hx.cap
  rw [hl] at hcap
  obtain ⟨t0, t1, t2⟩ := ht.cells 0 t rfl
  simp only [Nat.mul_zero, Nat.add_zero] at t0 t1 t2
  exact ⟨g, off, r.length, c, _, _, (blk_cell hb 0).trans rfl, blk_frozen hb 0, hc, hcap, hr, t0, t1, t2, (blk_cell hb 1).trans rfl, (blk_cell hb 2).trans rfl, hs⟩
theorem PS.is_tok {p : PS} {s : ByteArray} (h : p.is s = true) : p.tok.f0 ≠ 3 ∧ p.tok.f1 = s := by simpa [PS.is] using h

set_option maxHeartbeats 400000 in
theorem must_calls {b R Mb : Nat} {ok : Nat → Prop} {w : World} {p : PS} (h : RS b ok R Mb w p) (s : ByteArray) :
    Calls Tryz.prog 116 #[.pointer (some ⟨R, 0, none⟩), .string s] w (Post b ok R Mb w (fun _ => .tuple #[]) (p.must s)) := by
  have HI := Aside0.mk (is_calls h s)
  cases his : p.is s with
  | false =>
    rw [his] at HI
    have HS := Aside0.mk h
    have E : Aside0 (p.must s = .error (p.tok.f2, 4)) := ⟨by simp [PS.must, his, PS.fail]⟩
    clear his h
    go_enter Tryz.func116, Tryz.ntmps116
    go_wp2_with (first | (go_at_call 110; refine HI.out.mono ?_; rintro e w1 ⟨rfl, ⟨n1, rfl⟩⟩) | (go_at_call 60; refine (fail_calls (HS.out.fr (drawnN_below w n1)) 4).mono ?_; rintro e w2 ⟨rfl, ⟨n2, rfl⟩⟩))
    exact ⟨rfl, Post.bad E.out (Fr.of_drawn ((Drawn0.refl _).step _))⟩
  | true =>
    rw [his] at HI
    obtain ⟨g, off, n, c, x, y, c0, f0, hc, hnc, hn, _, _, _, _, _, hs⟩ := h.step (PS.is_tok his).1
    have HS := Aside0.mk hs
    have E : Aside0 (p.must s = .ok ((), p.next)) := ⟨by simp [PS.must, his]⟩
    clear his h hs
    go_enter Tryz.func116, Tryz.ntmps116
    go_wp2_with (go_at_call 110; refine HI.out.mono ?_; rintro e w1 ⟨rfl, ⟨n1, rfl⟩⟩)
    go_end0
    exact Post.good (x := ()) E.out (HS.out.fr (setCell_drawn w n1 _ _)) ((Fr.of_below (drawnN_below w n1)).setR 0 _)

set_option maxHeartbeats 400000 in
theorem goes_calls {b R Mb : Nat} {ok : Nat → Prop} {w : World} {p : PS} (h : RS b ok R Mb w p) (s : ByteArray) :
    Calls Tryz.prog 117 #[.pointer (some ⟨R, 0, none⟩), .string s] w fun e w' => e = .returned (.bool (p.goes s).1) ∧ RS b ok R Mb w' (p.goes s).2 ∧ Fr b R Mb w w' := by
  have HI := Aside0.mk (is_calls h s)
  cases his : p.is s with
  | false =>
    rw [his] at HI
    have HS := Aside0.mk h
    have E : Aside0 (p.goes s = (false, p)) := ⟨by simp [PS.goes, his]⟩
    clear his h
    go_enter Tryz.func117, Tryz.ntmps117
    go_wp2_with (go_at_call 110; refine HI.out.mono ?_; rintro e w1 ⟨rfl, ⟨n1, rfl⟩⟩)
    go_ret
    rw [E.out]
    exact ⟨rfl, HS.out.fr (drawnN_below w n1), Fr.of_drawn ((Drawn0.refl _).step _)⟩
  | true =>
    rw [his] at HI
    obtain ⟨g, off, n, c, x, y, c0, f0, hc, hnc, hn, _, _, _, _, _, hs⟩ := h.step (PS.is_tok his).1
    have HS := Aside0.mk hs
    have E : Aside0 (p.goes s = (true, p.next)) := ⟨by simp [PS.goes, his]⟩
    clear his h hs
    go_enter Tryz.func117, Tryz.ntmps117
    go_wp2_with (go_at_call 110; refine HI.out.mono ?_; rintro e w1 ⟨rfl, ⟨n1, rfl⟩⟩)
    go_ret
    rw [E.out]
    exact ⟨rfl, HS.out.fr (setCell_drawn w n1 _ _), (Fr.of_below (drawnN_below w n1)).setR 0 _⟩
end Go.Proofs.YtkafikdjhiienaaGreatDoor

/- read2 -/
namespace Go.Proofs.YtkafikdjhiienaaGreatDoor
open Go.RowKit Go.Proofs.YtkafikdjhiienaaGreatDoorW.PrintWords

set_option maxHeartbeats 400000 in
theorem keyword_calls (s : ByteArray) (w : World) (hL : LaidAt w) :
    Calls Tryz.prog 111 #[.string s] w fun e w' => e = .returned (.bool (isKeyword s)) ∧ Drawn0 w w' := by
  by_cases h0 : s.size = 0
  · have E := Aside0.mk (show isKeyword s = false by simp [isKeyword, h0])
    obtain rfl := toList_nil s h0
    clear h0
    go_enter Tryz.func111, Tryz.ntmps111
    go_wp2
    go_ret
    exact ⟨by rw [E.out]; rfl, Drawn0.refl _⟩
  have hn := toList_ne s (by omega)
  have hn2 : s.toList ≠ [] := by simpa using hn
  have HC : Aside0 (Calls Tryz.prog 138 #[.slice (some ⟨1, 0, none⟩) 12 12, .string s] w fun e w' => e = .returned (.bool (Lib.containsS wordsL s)) ∧ w' = w) :=
    ⟨Tryz.slices_Contains_string 1 0 12 12 wordsL s w (by decide) (by omega) (fun j hj => by rw [Nat.zero_add]; exact hL.words j hj)⟩
  have E := Aside0.mk (show isKeyword s = Lib.containsS wordsL s by simp [isKeyword]; omega)
  go_enter Tryz.func111, Tryz.ntmps111
  go_wp2_with (go_at_call 138; refine HC.out.mono ?_; rintro e w1 ⟨rfl, rfl⟩)
  go_ret
  exact ⟨by rw [E.out]; rfl, Drawn0.refl _⟩

theorem RS.tok {b R Mb : Nat} {ok : Nat → Prop} {w : World} {p : PS} (h : RS b ok R Mb w p) :
    ∃ g off n c x y, w.cell? ⟨R, 0, none⟩ = some (.slice (some ⟨g, off, none⟩) (n + 1) c) ∧ n + 1 ≤ c ∧ w.cell? ⟨g, off, none⟩ = some (.int .i64 p.tok.f0) ∧ w.cell? ⟨g, off + 1, none⟩ = some (.string p.tok.f1) ∧ w.cell? ⟨g, off + 2, none⟩ = some (.int .i64 p.tok.f2) ∧
      w.cell? ⟨R, 1, none⟩ = some x ∧ w.cell? ⟨R, 2, none⟩ = some y ∧ p.tok.f1.size ≤ 4096 ∧ LaidAt w ∧ R < w.heap.size ∧ g < w.heap.size := by
  obtain ⟨g, off, c, nv, m, D, hx⟩ := h
  obtain ⟨t, r, hl⟩ := hx.good.ne
  have htok : p.tok = t := by simp [PS.tok, hl]
  have hb := hx.blk
  have ht := hx.tok
  have hg := hx.good.2.1 t (by rw [hl]; simp)
  have hcap := hx.cap
  rw [htok]
  rw [hl] at hb ht hcap
  obtain ⟨t0, t1, t2⟩ := ht.cells 0 t rfl
  simp only [Nat.mul_zero, Nat.add_zero] at t0 t1 t2
  obtain ⟨cells, hgc, _⟩ := ht
  exact ⟨g, off, r.length, c, _, _, (blk_cell hb 0).trans rfl, hcap, t0, t1, t2, (blk_cell hb 1).trans rfl, (blk_cell hb 2).trans rfl, hg, hx.laid, blk_lt hb, blk_lt hgc⟩

theorem name_err {p : PS} {th : ByteArray → Bool} (h : p.tok.f0 ≠ 0 ∨ isKeyword p.tok.f1 = true ∨ isName p.tok.f1 = false) : p.name th = .error (p.tok.f2, 4) := by
  unfold PS.name; rw [if_pos h]; rfl
theorem name_there {p : PS} {th : ByteArray → Bool} (h0 : p.tok.f0 = 0) (h1 : isKeyword p.tok.f1 = false) (h2 : isName p.tok.f1 = true) (h3 : th p.tok.f1 = true) : p.name th = .error (p.tok.f2, 6) := by
  unfold PS.name; rw [if_neg (by simp [h0, h1, h2]), if_pos h3]; rfl
theorem name_ok {p : PS} {th : ByteArray → Bool} (h0 : p.tok.f0 = 0) (h1 : isKeyword p.tok.f1 = false) (h2 : isName p.tok.f1 = true) (h3 : th p.tok.f1 = false) : p.name th = .ok (p.tok.f1, p.next) := by
  unfold PS.name; rw [if_neg (by simp [h0, h1, h2]), if_neg (by simp [h3])]
theorem below_of {w a c : World} (h : Below w.heap.size w a) (k : Below a.heap.size a c) : Below w.heap.size w c := h.trans (k.mono h.size)

set_option maxRecDepth 100000 in
set_option maxHeartbeats 1000000 in
theorem name_reads {b R Mb : Nat} {ok : Nat → Prop} {w : World} {p : PS} (h : RS b ok R Mb w p) (gf : Nat) (cap : Array Value) (th : ByteArray → Bool)
    (hcall : ∀ (w : World) (s : ByteArray), (callFunc gf (#[.string s] ++ cap)).run Tryz.prog w = .ok (.enter gf (#[.string s] ++ cap)) w)
    (hth : ∀ (W : World) (s : ByteArray), Below w.heap.size w W → isName s = true → Calls Tryz.prog gf (#[.string s] ++ cap) W fun e w' => e = .returned (.bool (th s)) ∧ Below W.heap.size W w') :
    Calls Tryz.prog 118 #[.pointer (some ⟨R, 0, none⟩), .func (.func gf) #[] cap] w (Post b ok R Mb w (fun s => .string s) (p.name th)) := by
  obtain ⟨g, off, n, c, x, y, c0, hnc, t0, t1, t2, c1, c2, hsz, hL, hRl, hgl⟩ := h.tok
  have HS := Aside0.mk h
  have HT := Aside0.mk hth
  have HL := Aside0.mk hL
  clear hth h hL
  by_cases h0 : p.tok.f0 = 0
  · have hb : (p.tok.f0 != 0) = false := by simp [h0]
    have HF := Aside0.mk (fun (W : World) (y : Int) (hW : Below w.heap.size w W) => fail_calls (HS.out.fr hW) y)
    have HK := Aside0.mk (fun (W : World) (hW : Below w.heap.size w W) => keyword_calls p.tok.f1 W (HL.out.below hW))
    have HN := Aside0.mk (fun (W : World) => name_calls p.tok.f1 W (by omega))
    cases hk : isKeyword p.tok.f1 with
    | true =>
      have E := Aside0.mk (name_err (th := th) (.inr (.inl hk)))
      rw [hk] at HK
      replace h0 := Aside0.mk h0
      clear hk
      go_enter Tryz.func118, Tryz.ntmps118
      go_wp2_with (first | (go_at_call 111; refine (HK.out _ ?hb1).mono ?_; (case hb1 => exact (Below.refl _ _).alloc (Nat.le_refl _) _); rintro e w1 ⟨rfl, ⟨n1, rfl⟩⟩) | (go_at_call 60; refine (HF.out _ _ ?hb2).mono ?_; (case hb2 => exact pw_below_drewN ((Below.refl _ _).alloc (Nat.le_refl _) _) _); rintro e w2 ⟨rfl, ⟨n2, rfl⟩⟩))
      exact ⟨rfl, Post.bad E.out (Fr.of_below (pw_below_drewN ((Below.refl _ _).alloc (Nat.le_refl _) _) _))⟩
    | false =>
      rw [hk] at HK
      cases hn : isName p.tok.f1 with
      | false =>
        have E := Aside0.mk (name_err (th := th) (.inr (.inr hn)))
        rw [hn] at HN
        replace h0 := Aside0.mk h0
        clear hk hn
        go_enter Tryz.func118, Tryz.ntmps118
        go_wp2_with (first | (go_at_call 111; refine (HK.out _ ?hb1).mono ?_; (case hb1 => exact (Below.refl _ _).alloc (Nat.le_refl _) _); rintro e w1 ⟨rfl, ⟨n1, rfl⟩⟩) | (go_at_call 113; refine (HN.out _).mono ?_; rintro e w3 ⟨rfl, ⟨n3, rfl⟩⟩) | (go_at_call 60; refine (HF.out _ _ ?hb2).mono ?_; (case hb2 => exact pw_below_drewN ((Below.refl _ _).alloc (Nat.le_refl _) _) _); rintro e w2 ⟨rfl, ⟨n2, rfl⟩⟩))
        exact ⟨rfl, Post.bad E.out (Fr.of_below (pw_below_drewN ((Below.refl _ _).alloc (Nat.le_refl _) _) _))⟩
      | true =>
        rw [hn] at HN
        cases hth : th p.tok.f1 with
        | true =>
          have E := Aside0.mk (name_there (th := th) h0 hk hn hth)
          have HT2 : Aside0 (∀ W, Below w.heap.size w W → Calls Tryz.prog gf (#[.string p.tok.f1] ++ cap) W fun e w' => e = .returned (.bool true) ∧ Below W.heap.size W w') := ⟨fun W hW => by have := HT.out W p.tok.f1 hW hn; rw [hth] at this; exact this⟩
          replace h0 := Aside0.mk h0
          clear hk hn hth HT
          go_enter Tryz.func118, Tryz.ntmps118
          go_wp2_with (first | (go_at_call 111; refine (HK.out _ ?hb1).mono ?_; (case hb1 => exact (Below.refl _ _).alloc (Nat.le_refl _) _); rintro e w1 ⟨rfl, ⟨n1, rfl⟩⟩) | (go_at_call 113; refine (HN.out _).mono ?_; rintro e w3 ⟨rfl, ⟨n3, rfl⟩⟩))
          have hB := pw_below_drewN ((Below.refl w.heap.size w).alloc (Nat.le_refl _) (.cells #[.int .i64 p.tok.f0, .string p.tok.f1, .int .i64 p.tok.f2] 88)) (n1 + n3)
          refine (HT2.out _ hB).mono ?_
          rintro e w4 ⟨rfl, hb4⟩
          have hB4 := below_of hB hb4
          go_wp2_with (go_at_call 60; refine (HF.out _ _ hB4).mono ?_; rintro e w2 ⟨rfl, ⟨n2, rfl⟩⟩)
          exact ⟨rfl, Post.bad E.out (Fr.of_below (pw_below_drewN hB4 _))⟩
        | false =>
          have E := Aside0.mk (name_ok (th := th) h0 hk hn hth)
          have HT2 : Aside0 (∀ W, Below w.heap.size w W → Calls Tryz.prog gf (#[.string p.tok.f1] ++ cap) W fun e w' => e = .returned (.bool false) ∧ Below W.heap.size W w') := ⟨fun W hW => by have := HT.out W p.tok.f1 hW hn; rw [hth] at this; exact this⟩
          have h3 : p.tok.f0 ≠ 3 := by omega
          replace h0 := Aside0.mk h0
          clear hk hn hth HT
          go_enter Tryz.func118, Tryz.ntmps118
          go_wp2_with (first | (go_at_call 111; refine (HK.out _ ?hb1).mono ?_; (case hb1 => exact (Below.refl _ _).alloc (Nat.le_refl _) _); rintro e w1 ⟨rfl, ⟨n1, rfl⟩⟩) | (go_at_call 113; refine (HN.out _).mono ?_; rintro e w3 ⟨rfl, ⟨n3, rfl⟩⟩))
          have hB := pw_below_drewN ((Below.refl w.heap.size w).alloc (Nat.le_refl _) (.cells #[.int .i64 p.tok.f0, .string p.tok.f1, .int .i64 p.tok.f2] 88)) (n1 + n3)
          refine (HT2.out _ hB).mono ?_
          rintro e w4 ⟨rfl, hb4⟩
          have hB4 := below_of hB hb4
          obtain ⟨g4, off4, n4, c4, x4, y4, d0, f0, hc, hnc4, hn4, _, _, _, _, _, hs⟩ := (HS.out.fr hB4).step h3
          have HS4 := Aside0.mk hs
          have k1 : w4.cell? ⟨w.heap.size, 1, none⟩ = some (.string p.tok.f1) := (hb4.cell (p := ⟨w.heap.size, 1, none⟩) (by simp)).trans (by simp)
          have hB4 := Aside0.mk hB4
          clear hs hB hb4
          go_wp2_with (fail)
          go_ret
          exact Post.good E.out HS4.out ((Fr.of_below hB4.out).setR 0 _)
  · have E := Aside0.mk (name_err (th := th) (.inl h0))
    have hb : (p.tok.f0 != 0) = true := by simp [h0]
    clear h0
    go_enter Tryz.func118, Tryz.ntmps118
    go_wp2_with (go_at_call 60; refine (fail_calls (HS.out.fr ((Below.refl _ _).alloc (Nat.le_refl _) _)) 4).mono ?_; rintro e w2 ⟨rfl, ⟨n2, rfl⟩⟩)
    exact ⟨rfl, Post.bad E.out (Fr.of_below (pw_below_drewN ((Below.refl _ _).alloc (Nat.le_refl _) _) _))⟩
end Go.Proofs.YtkafikdjhiienaaGreatDoor

/- read3 -/
namespace Go.Proofs.YtkafikdjhiienaaGreatDoor
open Go.RowKit Go.Proofs.YtkafikdjhiienaaGreatDoorW.PrintWords

theorem infoNod : (Tryz.prog.info? 110).map (fun i => (i.zero, i.size, i.bytes)) = some (some (.agg #[.int .i64 0, .string ⟨#[]⟩, .int .i64 0, .slice none 0 0, .slice none 0 0, .slice none 0 0]), 6, 104) := by kernel_rfl

def newNod (k : Int) : Nod := ⟨k, ⟨#[]⟩, 0, [], [], []⟩
theorem called_new (s : ByteArray) (hs : 0 < s.size) (k : Int) (l : List Nod) : calledFrom s (l ++ [newNod k]) = calledFrom s l := by
  induction l with
  | nil =>
    have : ¬ (9 ≤ (newNod k).f0 ∧ (newNod k).f1 = s) := by
      rintro ⟨_, e⟩
      rw [← e] at hs
      exact absurd hs (show ¬ 0 < (⟨#[]⟩ : ByteArray).size by decide)
    simp only [List.nil_append, calledFrom]
    rw [if_neg this]; rfl
  | cons x l ih => simp only [List.cons_append, calledFrom, ih]
theorem newNod_mk (w : World) (b : Nat) (ok : Nat → Prop) (k : Int) : kNod.M w b ok (newNod k) [.int .i64 k, .string ⟨#[]⟩, .int .i64 0, .slice none 0 0, .slice none 0 0, .slice none 0 0] :=
  PPolicyHolds.k110_mkM w b ok (newNod k) (Kd.R_nil _ _ _ _ _) (Kd.R_nil _ _ _ _ _) (Kd.R_nil _ _ _ _ _)

theorem grown_set (w : World) (a : Addr) (v : Value) : w.grownBy (w.setCell a v) (some a.block) := ⟨rfl, rfl, rfl, by simp [World.setCell], fun k _ hk => Below.heap_setCell _ _ _ _ (fun e => hk (by rw [e]))⟩
/-- What a write into the nodes' row turns. -/
theorem Fr.of_grown {b R Mb : Nat} {ok : Nat → Prop} {w w1 : World} {nv : Value} {nodes : List Nod} (hn : kNod.R 110 w b ok nv nodes) (hg : w.grownBy w1 nv.ownBlock) : Fr b R Mb w w1 := by
  refine ⟨hg.os, hg.tape, hg.output, hg.size, fun k hk _ _ h3 => hg.block k hk ?_⟩
  intro e
  obtain ⟨inner, ho⟩ := Kd.R_own hn
  obtain ⟨cells, hc⟩ := own_typed ho k e.symm
  exact h3 (own_base ho k e.symm) cells hc
/-- The reader with other nodes. -/
theorem RSx.renode {b R Mb : Nat} {ok : Nat → Prop} {w w1 : World} {p : PS} {g off c : Nat} {nv nv1 : Value} {m : Nat} {D : DataW Unit} {nodes1 : List Nod} (h : RSx b ok R Mb w p g off c nv m D) (hg : w.grownBy w1 nv.ownBlock)
    (hR : kNod.R 110 w1 b ok nv1 nodes1) (hm : m ≤ nodes1.length) (hN : NamedIs D nodes1) (hl : nodes1.length ≤ 200) :
    RS b ok R Mb (w1.setCell ⟨R, 1, none⟩ nv1) { p with nodes := nodes1 } ∧ Fr b R Mb w (w1.setCell ⟨R, 1, none⟩ nv1) := by
  have hb1 := blk_grown h.blk hg (Kd.R_ne h.nodes h.blk (by decide))
  have hgl : g < w.heap.size := by obtain ⟨cells, hgc, _⟩ := h.tok; exact blk_lt hgc
  have htg : some g ≠ nv.ownBlock := by obtain ⟨cells, hgc, _⟩ := h.tok; exact Kd.R_ne h.nodes hgc (by decide)
  have hgR : g ≠ R := h.tok.ne_cells h.blk (by decide)
  have hMR : Mb ≠ R := by
    rintro rfl
    obtain ⟨es, cl, hm, _⟩ := h.map
    rw [h.blk] at hm
    cases hm
  have hMo : some Mb ≠ nv.ownBlock := by
    intro e
    obtain ⟨inner, ho⟩ := Kd.R_own h.nodes
    obtain ⟨cells, hc⟩ := own_typed ho Mb e.symm
    obtain ⟨es, cl, hm, _⟩ := h.map
    rw [hc] at hm
    cases hm
  refine ⟨⟨g, off, c, nv1, m, D, blk_set hb1 1 _, h.cap, (h.tok.same (hg.block g hgl htg)).same (Below.heap_setCell _ _ _ _ hgR), Kd.R_set hR hb1 (by decide) 1 _, (h.map.kept hg hMo).kept (grown_set w1 ⟨R, 1, none⟩ nv1) (fun e => hMR (Option.some.inj e)), hm, hN, h.good, hl, h.low, ?_, h.high⟩, (Fr.of_grown h.nodes hg).setR 1 _⟩
  refine (h.laid.same (w' := w1) hg.size (fun k hk => hg.block k (by have := h.laid.size; omega) ?_)).same (by simp [World.setCell]) (fun k hk => Below.heap_setCell _ _ _ _ (by have := h.low; have := h.high; simp; omega))
  intro e
  have := Kd.R_base h.nodes k e.symm
  have := h.high
  omega

set_option maxRecDepth 100000 in
set_option maxHeartbeats 1000000 in
theorem begins_calls {b R Mb : Nat} {ok : Nat → Prop} {w : World} {p : PS} (h : RS b ok R Mb w p) (hfr : ∀ k, w.heap.size ≤ k → ok k) (k : Int) (hn : p.nodes.length < 200) :
    Calls Tryz.prog 83 #[.pointer (some ⟨R, 0, none⟩), .int .i64 k] w fun e w' => e = .returned (.int .i64 p.nodes.length) ∧ RS b ok R Mb w' (p.begins k) ∧ Fr b R Mb w w' := by
  obtain ⟨g, off, c, nv, m, D, hx⟩ := h
  obtain ⟨A, C, rfl⟩ := Kd.R_slice hx.nodes
  have r1 : w.cell? ⟨R, 1, none⟩ = some (.slice A p.nodes.length C) := (blk_cell hx.blk 1).trans rfl
  have f1 := blk_frozen hx.blk 1
  have hbR : b ≤ w.heap.size := by have := blk_lt hx.blk; have := hx.low; omega
  have HX := Aside0.mk hx
  replace hfr := Aside0.mk hfr
  clear hx
  go_enter Tryz.func83, Tryz.ntmps83
  go_wp2_with (at_builtin; refine Kd.R_append kNod (w0 := w) b rfl (.tmp 9) (.tmp 12) 52 110 _ 104 rfl Tryz.underlying52 infoNod rfl (by decide) (by omega) (.slice A p.nodes.length C) p.nodes (newNod k) [.int .i64 k, .string ⟨#[]⟩, .int .i64 0, .slice none 0 0, .slice none 0 0, .slice none 0 0] ok (fun _ => False) rfl rfl ?aP (fun _ hk => hk.elim) hfr.out HX.out.nodes (Below.refl _ _) hbR ?aL ?_; (case aP => exact newNod_mk _ _ _ k); (case aL => omega); intro v1 w1 hR1 hB1 hg1 hat1; obtain ⟨A1, C1, rfl⟩ := Kd.R_slice hR1; have hb1 := blk_grown HX.out.blk hg1 (Kd.R_ne HX.out.nodes HX.out.blk (by decide)); have s1 : w1.cell? ⟨R, 1, none⟩ = some (.slice A p.nodes.length C) := (blk_cell hb1 1).trans rfl; have s2 := blk_frozen hb1 1; replace hb1 := Aside0.mk hb1; replace hR1 := Aside0.mk hR1; replace hg1 := Aside0.mk hg1; replace hB1 := Aside0.mk hB1; clear hat1)
  go_ret
  have hl1 : (p.nodes ++ [newNod k]).length = p.nodes.length + 1 := by simp
  rw [hl1] at hR1
  have fin := HX.out.renode (nodes1 := p.nodes ++ [newNod k]) hg1.out hR1.out (by rw [hl1]; have := HX.out.mlen; omega) ⟨HX.out.named.1, by have := HX.out.named.2.1; unfold namedNo at this ⊢; rw [List.filter_append, List.length_append]; exact Nat.le_trans this (Nat.le_add_right _ _), fun s hs z => by rw [called_new s hs]; exact HX.out.named.2.2 s hs z⟩ (by rw [hl1]; omega)
  exact ⟨rfl, fin.1, fin.2⟩

theorem fail_at {b R Mb : Nat} {ok : Nat → Prop} {w : World} {p : PS} (h : RS b ok R Mb w p) (W : World) (y : Int) (hW : Below w.heap.size w W) :
    Calls Tryz.prog 60 #[.pointer (some ⟨R, 0, none⟩), .int .i64 y] W fun e w' => e = .panicked (stopE p.tok.f2 y) ∧ Drawn0 W w' := fail_calls (h.fr hW) y
/-- What 'kind' comes to. -/
def KindPost (w : World) (r : Except (Int × Int) Int) (e : Ending) (w' : World) : Prop :=
  match r with
  | .ok k => e = .returned (.int .i64 k) ∧ Below w.heap.size w w'
  | .error (a, y) => e = .panicked (stopE a y) ∧ Below w.heap.size w w'
theorem KindPost.ok {w w' : World} {r : Except (Int × Int) Int} {k : Int} (h : r = .ok k) (hb : Below w.heap.size w w') : KindPost w r (.returned (.int .i64 k)) w' := by rw [h]; exact ⟨rfl, hb⟩
theorem KindPost.bad {w w' : World} {r : Except (Int × Int) Int} {a y : Int} (h : r = .error (a, y)) (hb : Below w.heap.size w w') : KindPost w r (.panicked (stopE a y)) w' := by rw [h]; exact ⟨rfl, hb⟩

set_option maxRecDepth 100000 in
set_option maxHeartbeats 2000000 in
theorem kind_calls {b R Mb : Nat} {ok : Nat → Prop} {w : World} {p : PS} (h : RS b ok R Mb w p) :
    Calls Tryz.prog 79 #[.pointer (some ⟨R, 0, none⟩)] w (KindPost w p.kind) := by
  obtain ⟨g, off, n, c, x, y, c0, hnc, t0, t1, t2, c1, c2, hsz, hL, hRl, hgl⟩ := h.tok
  have HS := Aside0.mk h
  have HL := Aside0.mk hL
  have HI := Aside0.mk (fun (W : World) (s : ByteArray) (hW : Below w.heap.size w W) => is_calls (HS.out.fr hW) s)
  have HF := Aside0.mk (fail_at h)
  have HA := Aside0.mk ((Below.refl w.heap.size w).alloc (Nat.le_refl _) (.cells #[.int .i64 p.tok.f0, .string p.tok.f1, .int .i64 p.tok.f2] 88))
  clear h hL
  cases i1 : p.is sBo with
  | true =>
    have H1 : Aside0 (∀ W, Below w.heap.size w W → Calls Tryz.prog 110 #[.pointer (some ⟨R, 0, none⟩), .string sBo] W fun e w' => e = .returned (.bool true) ∧ Drawn0 W w') := ⟨fun W hW => by have := HI.out W sBo hW; rw [i1] at this; exact this⟩
    have E := Aside0.mk (show p.kind = .ok 6 by simp [PS.kind, i1])
    clear i1 HI
    go_enter Tryz.func79, Tryz.ntmps79
    go_wp2_with (go_at_call 110; refine (H1.out _ HA.out).mono ?_; rintro e w1 ⟨rfl, ⟨n1, rfl⟩⟩)
    go_ret
    exact KindPost.ok E.out (pw_below_drewN HA.out _)
  | false =>
    have H1 : Aside0 (∀ W, Below w.heap.size w W → Calls Tryz.prog 110 #[.pointer (some ⟨R, 0, none⟩), .string sBo] W fun e w' => e = .returned (.bool false) ∧ Drawn0 W w') := ⟨fun W hW => by have := HI.out W sBo hW; rw [i1] at this; exact this⟩
    cases i2 : p.is sCo with
    | true =>
      have H2 : Aside0 (∀ W, Below w.heap.size w W → Calls Tryz.prog 110 #[.pointer (some ⟨R, 0, none⟩), .string sCo] W fun e w' => e = .returned (.bool true) ∧ Drawn0 W w') := ⟨fun W hW => by have := HI.out W sCo hW; rw [i2] at this; exact this⟩
      have E := Aside0.mk (show p.kind = .ok 7 by simp [PS.kind, i1, i2])
      clear i1 i2 HI
      go_enter Tryz.func79, Tryz.ntmps79
      go_wp2_with (first | ((go_at_call 110); (with_reducible refine (H1.out _ ?hb1).mono ?_); (case hb1 => first | exact HA.out | exact pw_below_drewN HA.out _); rintro e w1 ⟨rfl, ⟨n1, rfl⟩⟩) | ((go_at_call 110); (with_reducible refine (H2.out _ ?hb2).mono ?_); (case hb2 => first | exact HA.out | exact pw_below_drewN HA.out _); rintro e w2 ⟨rfl, ⟨n2, rfl⟩⟩))
      go_ret
      exact KindPost.ok E.out (pw_below_drewN HA.out _)
    | false =>
      have H2 : Aside0 (∀ W, Below w.heap.size w W → Calls Tryz.prog 110 #[.pointer (some ⟨R, 0, none⟩), .string sCo] W fun e w' => e = .returned (.bool false) ∧ Drawn0 W w') := ⟨fun W hW => by have := HI.out W sCo hW; rw [i2] at this; exact this⟩
      cases i3 : p.is sPo with
      | true =>
        have H3 : Aside0 (∀ W, Below w.heap.size w W → Calls Tryz.prog 110 #[.pointer (some ⟨R, 0, none⟩), .string sPo] W fun e w' => e = .returned (.bool true) ∧ Drawn0 W w') := ⟨fun W hW => by have := HI.out W sPo hW; rw [i3] at this; exact this⟩
        have E := Aside0.mk (show p.kind = .ok 8 by simp [PS.kind, i1, i2, i3])
        clear i1 i2 i3 HI
        go_enter Tryz.func79, Tryz.ntmps79
        go_wp2_with (first | ((go_at_call 110); (with_reducible refine (H1.out _ ?hb1).mono ?_); (case hb1 => first | exact HA.out | exact pw_below_drewN HA.out _); rintro e w1 ⟨rfl, ⟨n1, rfl⟩⟩) | ((go_at_call 110); (with_reducible refine (H2.out _ ?hb2).mono ?_); (case hb2 => first | exact HA.out | exact pw_below_drewN HA.out _); rintro e w2 ⟨rfl, ⟨n2, rfl⟩⟩) | ((go_at_call 110); (with_reducible refine (H3.out _ ?hb3).mono ?_); (case hb3 => first | exact HA.out | exact pw_below_drewN HA.out _); rintro e w3 ⟨rfl, ⟨n3, rfl⟩⟩))
        go_ret
        exact KindPost.ok E.out (pw_below_drewN HA.out _)
      | false =>
        have H3 : Aside0 (∀ W, Below w.heap.size w W → Calls Tryz.prog 110 #[.pointer (some ⟨R, 0, none⟩), .string sPo] W fun e w' => e = .returned (.bool false) ∧ Drawn0 W w') := ⟨fun W hW => by have := HI.out W sPo hW; rw [i3] at this; exact this⟩
        have HK := Aside0.mk (fun (W : World) (hW : Below w.heap.size w W) => keyword_calls p.tok.f1 W (HL.out.below hW))
        have HN := Aside0.mk (fun (W : World) => name_calls p.tok.f1 W (by omega))
        by_cases h0 : p.tok.f0 = 0
        · have hb0 : (p.tok.f0 != 0) = false := by simp [h0]
          cases hk : isKeyword p.tok.f1 with
          | true =>
            rw [hk] at HK
            have E := Aside0.mk (show p.kind = .ok (Lib.idxOfS wordsL p.tok.f1) by simp [PS.kind, i1, i2, i3, h0, hk])
            have HX : Aside0 (∀ W, Below w.heap.size w W → Calls Tryz.prog 112 #[.slice (some ⟨1, 0, none⟩) 12 12, .string p.tok.f1] W fun e w' => e = .returned (.int .i64 (Lib.idxOfS wordsL p.tok.f1)) ∧ w' = W) :=
              ⟨fun W hW => Tryz.slices_Index_string 1 0 12 12 wordsL p.tok.f1 W (by decide) (by omega) (fun j hj => by rw [Nat.zero_add]; exact (HL.out.below hW).words j hj)⟩
            replace h0 := Aside0.mk h0
            clear i1 i2 i3 HI hk
            go_enter Tryz.func79, Tryz.ntmps79
            go_wp2_with (first | ((go_at_call 110); (with_reducible refine (H1.out _ ?hb1).mono ?_); (case hb1 => first | exact HA.out | exact pw_below_drewN HA.out _); rintro e w1 ⟨rfl, ⟨n1, rfl⟩⟩) | ((go_at_call 110); (with_reducible refine (H2.out _ ?hb2).mono ?_); (case hb2 => first | exact HA.out | exact pw_below_drewN HA.out _); rintro e w2 ⟨rfl, ⟨n2, rfl⟩⟩) | ((go_at_call 110); (with_reducible refine (H3.out _ ?hb3).mono ?_); (case hb3 => first | exact HA.out | exact pw_below_drewN HA.out _); rintro e w3 ⟨rfl, ⟨n3, rfl⟩⟩) | (go_at_call 111; refine (HK.out _ ?hbb).mono ?_; (case hbb => first | exact HA.out | exact pw_below_drewN HA.out _); rintro e w4 ⟨rfl, ⟨n4, rfl⟩⟩))
            generalize hWq : (w.alloc (.cells #[.int .i64 p.tok.f0, .string p.tok.f1, .int .i64 p.tok.f2] 88)).drewN (n1 + n2 + n3 + n4) = Wq
            have hcq : Wq.cell? ⟨w.heap.size, 1, none⟩ = some (.string p.tok.f1) := by rw [← hWq]; simp
            have hBq : Below w.heap.size w Wq := by rw [← hWq]; exact pw_below_drewN HA.out _
            replace hBq := Aside0.mk hBq
            clear hWq
            go_quiet ((go_at_call 112; exact Calls.quiet_of_same (HX.out _ (pw_below_drewN hBq.out _))))
            go_wp2
            go_ret
            exact KindPost.ok E.out (pw_below_drewN hBq.out _)
          | false =>
            rw [hk] at HK
            cases hn : isName p.tok.f1 with
            | false =>
              rw [hn] at HN
              have E := Aside0.mk (show p.kind = .error (p.tok.f2, 4) by simp [PS.kind, i1, i2, i3, h0, hk, hn])
              replace h0 := Aside0.mk h0
              clear i1 i2 i3 HI hk hn
              go_enter Tryz.func79, Tryz.ntmps79
              go_wp2_with (first | ((go_at_call 110); (with_reducible refine (H1.out _ ?hb1).mono ?_); (case hb1 => first | exact HA.out | exact pw_below_drewN HA.out _); rintro e w1 ⟨rfl, ⟨n1, rfl⟩⟩) | ((go_at_call 110); (with_reducible refine (H2.out _ ?hb2).mono ?_); (case hb2 => first | exact HA.out | exact pw_below_drewN HA.out _); rintro e w2 ⟨rfl, ⟨n2, rfl⟩⟩) | ((go_at_call 110); (with_reducible refine (H3.out _ ?hb3).mono ?_); (case hb3 => first | exact HA.out | exact pw_below_drewN HA.out _); rintro e w3 ⟨rfl, ⟨n3, rfl⟩⟩) | (go_at_call 111; refine (HK.out _ ?hbb).mono ?_; (case hbb => first | exact HA.out | exact pw_below_drewN HA.out _); rintro e w4 ⟨rfl, ⟨n4, rfl⟩⟩) | (go_at_call 113; refine (HN.out _).mono ?_; rintro e w5 ⟨rfl, ⟨n5, rfl⟩⟩) | (go_at_call 60; refine (HF.out _ 4 ?hbb).mono ?_; (case hbb => first | exact HA.out | exact pw_below_drewN HA.out _); rintro e w6 ⟨rfl, ⟨n6, rfl⟩⟩))
              exact ⟨rfl, KindPost.bad E.out (pw_below_drewN HA.out _)⟩
            | true =>
              rw [hn] at HN
              have E := Aside0.mk (show p.kind = .ok (-1) by simp [PS.kind, i1, i2, i3, h0, hk, hn])
              replace h0 := Aside0.mk h0
              clear i1 i2 i3 HI hk hn
              go_enter Tryz.func79, Tryz.ntmps79
              go_wp2_with (first | ((go_at_call 110); (with_reducible refine (H1.out _ ?hb1).mono ?_); (case hb1 => first | exact HA.out | exact pw_below_drewN HA.out _); rintro e w1 ⟨rfl, ⟨n1, rfl⟩⟩) | ((go_at_call 110); (with_reducible refine (H2.out _ ?hb2).mono ?_); (case hb2 => first | exact HA.out | exact pw_below_drewN HA.out _); rintro e w2 ⟨rfl, ⟨n2, rfl⟩⟩) | ((go_at_call 110); (with_reducible refine (H3.out _ ?hb3).mono ?_); (case hb3 => first | exact HA.out | exact pw_below_drewN HA.out _); rintro e w3 ⟨rfl, ⟨n3, rfl⟩⟩) | (go_at_call 111; refine (HK.out _ ?hbb).mono ?_; (case hbb => first | exact HA.out | exact pw_below_drewN HA.out _); rintro e w4 ⟨rfl, ⟨n4, rfl⟩⟩) | (go_at_call 113; refine (HN.out _).mono ?_; rintro e w5 ⟨rfl, ⟨n5, rfl⟩⟩))
              go_ret
              exact KindPost.ok E.out (pw_below_drewN HA.out _)
        · have hb0 : (p.tok.f0 != 0) = true := by simp [h0]
          have E := Aside0.mk (show p.kind = .error (p.tok.f2, 4) by simp [PS.kind, i1, i2, i3, h0])
          replace h0 := Aside0.mk h0
          clear i1 i2 i3 HI
          go_enter Tryz.func79, Tryz.ntmps79
          go_wp2_with (first | ((go_at_call 110); (with_reducible refine (H1.out _ ?hb1).mono ?_); (case hb1 => first | exact HA.out | exact pw_below_drewN HA.out _); rintro e w1 ⟨rfl, ⟨n1, rfl⟩⟩) | ((go_at_call 110); (with_reducible refine (H2.out _ ?hb2).mono ?_); (case hb2 => first | exact HA.out | exact pw_below_drewN HA.out _); rintro e w2 ⟨rfl, ⟨n2, rfl⟩⟩) | ((go_at_call 110); (with_reducible refine (H3.out _ ?hb3).mono ?_); (case hb3 => first | exact HA.out | exact pw_below_drewN HA.out _); rintro e w3 ⟨rfl, ⟨n3, rfl⟩⟩) | (go_at_call 60; refine (HF.out _ 4 ?hbb).mono ?_; (case hbb => first | exact HA.out | exact pw_below_drewN HA.out _); rintro e w6 ⟨rfl, ⟨n6, rfl⟩⟩))
          exact ⟨rfl, KindPost.bad E.out (pw_below_drewN HA.out _)⟩
end Go.Proofs.YtkafikdjhiienaaGreatDoor

/- funcs -/
namespace Go.Proofs.YtkafikdjhiienaaGreatDoor
open Go.RowKit Go.Proofs.YtkafikdjhiienaaGreatDoorW.PrintWords

/-- The first place where q says yes; below 0: nowhere. -/
def findI {α : Type} (q : α → Bool) (l : List α) : Int := if l.any q = true then (l.findIdx q : Int) else -1
theorem findI_neg {α : Type} (q : α → Bool) (l : List α) : decide (0 ≤ findI q l) = l.any q := by
  unfold findI
  cases h : l.any q <;> simp
theorem any_take_succ {α : Type} (q : α → Bool) (l : List α) (k : Nat) (x : α) (hx : l[k]? = some x) (h : (l.take k).any q = false) (hq : q x = false) : (l.take (k + 1)).any q = false := by
  have hk := (List.getElem?_eq_some_iff.1 hx).1
  have e := (List.getElem?_eq_some_iff.1 hx).2
  rw [List.take_succ_eq_append_getElem hk, List.any_append, h, e]
  simp [hq]
theorem findI_hit {α : Type} (q : α → Bool) (l : List α) (k : Nat) (x : α) (hx : l[k]? = some x) (h : (l.take k).any q = false) (hq : q x = true) : findI q l = k := by
  have hk := (List.getElem?_eq_some_iff.1 hx).1
  have e := (List.getElem?_eq_some_iff.1 hx).2
  unfold findI
  rw [if_pos (by rw [List.any_eq_true]; exact ⟨x, by rw [← e]; exact List.getElem_mem hk, hq⟩)]
  congr 1
  rw [List.findIdx_eq hk]
  refine ⟨by rw [e]; exact hq, fun j hj => ?_⟩
  have := List.any_eq_false.1 h (l[j]'(by omega)) (by rw [List.mem_take_iff_getElem]; exact ⟨j, by omega, rfl⟩)
  simpa using this
theorem findI_miss {α : Type} (q : α → Bool) (l : List α) (h : (l.take l.length).any q = false) : findI q l = -1 := by
  unfold findI
  rw [List.take_length] at h
  rw [h]; rfl

set_option maxRecDepth 100000 in
set_option maxHeartbeats 1000000 in
theorem idxFunc_int (gf : Nat) (cap : Array Value) (q : Int → Bool) (l : List Int) (A : Option Addr) (c : Nat) (w : World) (hC : (Kd.int .i64).C w A l.length l)
    (hcall : ∀ (w : World) (x : Int), (callFunc gf (#[.int .i64 x] ++ cap)).run Tryz.prog w = .ok (.enter gf (#[.int .i64 x] ++ cap)) w)
    (hq : ∀ (W : World) (x : Int), Below w.heap.size w W → x ∈ l → Calls Tryz.prog gf (#[.int .i64 x] ++ cap) W fun e w' => e = .returned (.bool (q x)) ∧ Below W.heap.size W w') :
    Calls Tryz.prog 115 #[.slice A l.length c, .func (.func gf) #[] cap] w fun e w' => e = .returned (.int .i64 (findI q l)) ∧ Below w.heap.size w w' := by
  have HQ := Aside0.mk hq
  have HC := Aside0.mk hC
  have hmax := Kd.C_max hC
  clear hq hC
  go_enter Tryz.func115, Tryz.ntmps115
  go_wp2
  go_loopw [8] (fun v wr => ∃ k : Nat, v = .int .i64 k ∧ k ≤ l.length ∧ Aside0 ((l.take k).any q = false) ∧ Aside0 (Below w.heap.size w wr)) (fun v _ => l.length - (intOf v).toNat)
  case atStart => exact ⟨0, rfl, Nat.zero_le _, ⟨by simp⟩, ⟨Below.refl _ _⟩⟩
  case round =>
    obtain ⟨k, rfl, hk, ha, hb⟩ := hrel
    by_cases hlt : k < l.length
    · obtain ⟨ad, hA, hcell⟩ := Kd.at_int (Kd.C_below HC.out hb.out) k (by omega) (by omega)
      have hx : Aside0 (l[k]? = some (rd l k)) := ⟨by simp [rd, List.getD_eq_getElem?_getD, List.getElem?_eq_getElem hlt]⟩
      subst hA
      rw [Int.toNat_natCast] at hcell
      have hm : Aside0 (rd l k ∈ l) := ⟨List.mem_of_getElem? hx.out⟩
      cases hqx : q (rd l k) with
      | true =>
        have HQ2 : Aside0 (Calls Tryz.prog gf (#[.int .i64 (rd l k)] ++ cap) wr fun e w' => e = .returned (.bool true) ∧ Below wr.heap.size wr w') := ⟨by have := HQ.out wr _ hb.out hm.out; rw [hqx] at this; exact this⟩
        have E := Aside0.mk (findI_hit q l k _ hx.out ha.out hqx)
        clear hqx
        go_wp2_with (refine HQ2.out.mono ?_; rintro e w1 ⟨rfl, hb1⟩)
        go_ret
        exact ⟨by rw [E.out]; rfl, below_of hb.out hb1⟩
      | false =>
        have HQ2 : Aside0 (Calls Tryz.prog gf (#[.int .i64 (rd l k)] ++ cap) wr fun e w' => e = .returned (.bool false) ∧ Below wr.heap.size wr w') := ⟨by have := HQ.out wr _ hb.out hm.out; rw [hqx] at this; exact this⟩
        have E := Aside0.mk (any_take_succ q l k _ hx.out ha.out hqx)
        clear hqx
        go_wp2_with (refine HQ2.out.mono ?_; rintro e w1 ⟨rfl, hb1⟩)
        go_roundw
        case rel => exact ⟨k + 1, by go_num, by omega, E, ⟨below_of hb.out hb1⟩⟩
        case measure => simp [intOf]; omega
    · obtain rfl : k = l.length := by omega
      have E := Aside0.mk (findI_miss q l ha.out)
      go_wp2
      go_ret
      exact ⟨by rw [E.out]; rfl, hb.out⟩

set_option maxHeartbeats 400000 in
theorem contFunc_int (gf : Nat) (cap : Array Value) (q : Int → Bool) (l : List Int) (A : Option Addr) (c : Nat) (w : World) (hC : (Kd.int .i64).C w A l.length l)
    (hcall : ∀ (w : World) (x : Int), (callFunc gf (#[.int .i64 x] ++ cap)).run Tryz.prog w = .ok (.enter gf (#[.int .i64 x] ++ cap)) w)
    (hq : ∀ (W : World) (x : Int), Below w.heap.size w W → x ∈ l → Calls Tryz.prog gf (#[.int .i64 x] ++ cap) W fun e w' => e = .returned (.bool (q x)) ∧ Below W.heap.size W w') :
    Calls Tryz.prog 81 #[.slice A l.length c, .func (.func gf) #[] cap] w fun e w' => e = .returned (.bool (l.any q)) ∧ Below w.heap.size w w' := by
  have H := Aside0.mk (idxFunc_int gf cap q l A c w hC hcall hq)
  have E := Aside0.mk (findI_neg q l)
  clear hq hcall hC
  go_enter Tryz.func81, Tryz.ntmps81
  go_wp2_with (go_at_call 115; refine H.out.mono ?_; rintro e w1 ⟨rfl, hb1⟩)
  go_ret
  exact ⟨by rw [← E.out]; rfl, hb1⟩
abbrev encFld (x : Fld) : Value := .agg #[.string x.f0, .bool x.f1, .int .i64 x.f2]

set_option maxRecDepth 100000 in
set_option maxHeartbeats 1000000 in
theorem idxFunc_fld (gf : Nat) (cap : Array Value) (q : Fld → Bool) (l : List Fld) (A : Option Addr) (c : Nat) (w : World) (hC : kFld.C w A l.length l)
    (hcall : ∀ (w : World) (x : Fld), (callFunc gf (#[encFld x] ++ cap)).run Tryz.prog w = .ok (.enter gf (#[encFld x] ++ cap)) w)
    (hq : ∀ (W : World) (x : Fld), Below w.heap.size w W → x ∈ l → Calls Tryz.prog gf (#[encFld x] ++ cap) W fun e w' => e = .returned (.bool (q x)) ∧ Below W.heap.size W w') :
    Calls Tryz.prog 153 #[.slice A l.length c, .func (.func gf) #[] cap] w fun e w' => e = .returned (.int .i64 (findI q l)) ∧ Below w.heap.size w w' := by
  have HQ := Aside0.mk hq
  have HC := Aside0.mk hC
  have hmax := Kd.C_max hC
  clear hq hC
  go_enter Tryz.func153, Tryz.ntmps153
  go_wp2
  go_loopw [8] (fun v wr => ∃ k : Nat, v = .int .i64 k ∧ k ≤ l.length ∧ Aside0 ((l.take k).any q = false) ∧ Aside0 (Below w.heap.size w wr)) (fun v _ => l.length - (intOf v).toNat)
  case atStart => exact ⟨0, rfl, Nat.zero_le _, ⟨by simp⟩, ⟨Below.refl _ _⟩⟩
  case round =>
    obtain ⟨k, rfl, hk, ha, hb⟩ := hrel
    by_cases hlt : k < l.length
    · obtain ⟨ad, hA, hcell, hcell1, hcell2⟩ := PPolicyHolds.at_T155 (Kd.C_below HC.out hb.out) k (by omega) (by omega)
      have hx : Aside0 (l[k]? = some (PPolicyHolds.rd_T155 l k)) := ⟨by simp [PPolicyHolds.rd_T155, List.getD_eq_getElem?_getD, List.getElem?_eq_getElem hlt]⟩
      subst hA
      rw [Int.toNat_natCast] at hcell hcell1 hcell2
      have hm : Aside0 (PPolicyHolds.rd_T155 l k ∈ l) := ⟨List.mem_of_getElem? hx.out⟩
      cases hqx : q (PPolicyHolds.rd_T155 l k) with
      | true =>
        have HQ2 : Aside0 (Calls Tryz.prog gf (#[encFld (PPolicyHolds.rd_T155 l k)] ++ cap) wr fun e w' => e = .returned (.bool true) ∧ Below wr.heap.size wr w') := ⟨by have := HQ.out wr _ hb.out hm.out; rw [hqx] at this; exact this⟩
        have E := Aside0.mk (findI_hit q l k _ hx.out ha.out hqx)
        clear hqx
        go_wp2_with (refine HQ2.out.mono ?_; rintro e w1 ⟨rfl, hb1⟩)
        go_ret
        exact ⟨by rw [E.out]; rfl, below_of hb.out hb1⟩
      | false =>
        have HQ2 : Aside0 (Calls Tryz.prog gf (#[encFld (PPolicyHolds.rd_T155 l k)] ++ cap) wr fun e w' => e = .returned (.bool false) ∧ Below wr.heap.size wr w') := ⟨by have := HQ.out wr _ hb.out hm.out; rw [hqx] at this; exact this⟩
        have E := Aside0.mk (any_take_succ q l k _ hx.out ha.out hqx)
        clear hqx
        go_wp2_with (refine HQ2.out.mono ?_; rintro e w1 ⟨rfl, hb1⟩)
        go_roundw
        case rel => exact ⟨k + 1, by go_num, by omega, E, ⟨below_of hb.out hb1⟩⟩
        case measure => simp [intOf]; omega
    · obtain rfl : k = l.length := by omega
      have E := Aside0.mk (findI_miss q l ha.out)
      go_wp2
      go_ret
      exact ⟨by rw [E.out]; rfl, hb.out⟩

set_option maxHeartbeats 400000 in
theorem contFunc_fld (gf : Nat) (cap : Array Value) (q : Fld → Bool) (l : List Fld) (A : Option Addr) (c : Nat) (w : World) (hC : kFld.C w A l.length l)
    (hcall : ∀ (w : World) (x : Fld), (callFunc gf (#[encFld x] ++ cap)).run Tryz.prog w = .ok (.enter gf (#[encFld x] ++ cap)) w)
    (hq : ∀ (W : World) (x : Fld), Below w.heap.size w W → x ∈ l → Calls Tryz.prog gf (#[encFld x] ++ cap) W fun e w' => e = .returned (.bool (q x)) ∧ Below W.heap.size W w') :
    Calls Tryz.prog 141 #[.slice A l.length c, .func (.func gf) #[] cap] w fun e w' => e = .returned (.bool (l.any q)) ∧ Below w.heap.size w w' := by
  have H := Aside0.mk (idxFunc_fld gf cap q l A c w hC hcall hq)
  have E := Aside0.mk (findI_neg q l)
  clear hq hcall hC
  go_enter Tryz.func141, Tryz.ntmps141
  go_wp2_with (go_at_call 153; refine H.out.mono ?_; rintro e w1 ⟨rfl, hb1⟩)
  go_ret
  exact ⟨by rw [← E.out]; rfl, hb1⟩
end Go.Proofs.YtkafikdjhiienaaGreatDoor
