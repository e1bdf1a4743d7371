/- Zones, in plain Lean. -/
import Derived.Test.YtkmnhomehejppaaAwIter
set_option linter.unusedSimpArgs false
set_option linter.unusedVariables false
set_option linter.deprecated false
namespace Go.Proofs.Zt
open Go.Aw

structure Chg where
  at_ : Int
  off : Int
deriving Inhabited
structure Zone where
  off : Int
  ch : List Chg
structure Str where
  fr : Int
  to : Int
  off : Int
  bef : Int
deriving Inhabited
def Chg.av (c : Chg) : AV := .agg [.int .i64 c.at_, .int .i64 c.off]
def Zone.cs (z : Zone) : List AV := [.int .i64 z.off, .sl (z.ch.map Chg.av)]
def Zone.av (z : Zone) : AV := .agg z.cs
def Str.cs (s : Str) : List AV := [.int .i64 s.fr, .int .i64 s.to, .int .i64 s.off, .int .i64 s.bef]
def Str.av (s : Str) : AV := .agg s.cs
def ints (l : List Int) : AV := .sl (l.map (.int .i64 ·))

def seg : List Chg → Int → Nat
  | [], _ => 0
  | c :: r, t => if c.at_ ≤ t then seg r t + 1 else 0

def offs (z : Zone) (k : Nat) : Int := if k = 0 then z.off else z.ch[k - 1]!.off

def badOff (o : Int) : Bool := decide (o < -840) || decide (840 < o)
/-- the changes from some on -/
def okFrom : Int → List Chg → Bool
  | _, [] => true
  | b, c :: r => !badOff c.off && decide (c.at_ ≤ 105190559) && decide (b + 5760 < c.at_) && okFrom c.at_ r
def Zone.valid (z : Zone) : Bool := !badOff z.off && decide (z.ch.length ≤ 40) && okFrom 0 z.ch

theorem seg_stop (l : List Chg) (t : Int) : ∀ k, k ≤ l.length → (∀ j, j < k → l[j]!.at_ ≤ t) → (k < l.length → ¬ l[k]!.at_ ≤ t) → seg l t = k := by
  induction l with
  | nil => intro k hk _ _; simp at hk; simp [seg, hk]
  | cons c r ih =>
    intro k hk h1 h2
    cases k with
    | zero => have := h2 (by simp); simp at this; simp [seg]; omega
    | succ k =>
      have h0 := h1 0 (by omega)
      simp at h0
      simp only [seg, if_pos h0]
      rw [ih k (by simpa using hk) (fun j hj => by have := h1 (j + 1) (by omega); simpa using this) (fun h => by have := h2 (by simpa using h); simpa using this)]

theorem getD_map {α : Type} [Inhabited α] (f : α → AV) (l : List α) (k : Nat) (h : k < l.length) : (l.map f).getD k .any = f l[k]! := by
  simp [List.getD, h]

theorem get!_drop {α : Type} [Inhabited α] (l : List α) (k : Nat) (h : k < l.length) : l.drop k = l[k]! :: l.drop (k + 1) := by
  rw [List.drop_eq_getElem_cons h]
  congr 1
  simp [h]

theorem seg_le (l : List Chg) (t : Int) : seg l t ≤ l.length := by
  induction l with
  | nil => simp [seg]
  | cons c r ih => simp only [seg]; split <;> simp <;> omega

theorem okFrom_get (b : Int) (l : List Chg) (h : okFrom b l = true) (k : Nat) (hk : k < l.length) : badOff l[k]!.off = false ∧ l[k]!.at_ ≤ 105190559 ∧ b + 5760 < l[k]!.at_ := by
  induction l generalizing b k with
  | nil => simp at hk
  | cons c r ih =>
    simp only [okFrom, Bool.and_eq_true, Bool.not_eq_true', decide_eq_true_eq] at h
    cases k with
    | zero => simpa [and_assoc] using h.1
    | succ k =>
      obtain ⟨h1, h2, h3⟩ := ih c.at_ h.2 k (by simpa using hk)
      simp only [List.getElem!_cons_succ]
      exact ⟨h1, h2, by omega⟩

theorem badOff_false {o : Int} (h : badOff o = false) : -840 ≤ o ∧ o ≤ 840 := by
  simp [badOff] at h
  omega

structure Zone.Ok (z : Zone) : Prop where
  off : -840 ≤ z.off ∧ z.off ≤ 840
  len : z.ch.length ≤ 40
  ch : okFrom 0 z.ch = true

theorem Zone.valid_ok {z : Zone} (h : z.valid = true) : z.Ok := by
  simp only [Zone.valid, Bool.and_eq_true, Bool.not_eq_true', decide_eq_true_eq] at h
  exact ⟨badOff_false h.1.1, h.1.2, h.2⟩

theorem Zone.Ok.offs {z : Zone} (h : z.Ok) (k : Nat) (hk : k ≤ z.ch.length) : -840 ≤ offs z k ∧ Zt.offs z k ≤ 840 := by
  unfold Zt.offs
  split
  · exact h.off
  · obtain ⟨h1, _⟩ := okFrom_get 0 z.ch h.ch (k - 1) (by omega)
    exact badOff_false h1

/-! ### the reference -/
def localR (z : Zone) (t : Int) : Int × Int × Int :=
  if !z.valid || decide (t < 0) || decide (105190559 < t) then (0, 0, 1) else
    let l := t + offs z (seg z.ch t)
    if decide (l < 0) || decide (105190559 < l) then (0, 0, 2) else (l / 1440, l % 1440, 0)

def good (z : Zone) (d m : Int) : Bool := z.valid && decide (0 ≤ d) && decide (d ≤ 73048) && decide (0 ≤ m) && decide (m ≤ 1439)

/-- the instant of a local time in a segment, if it lies there -/
def hit (z : Zone) (l : Int) (k : Nat) : List Int :=
  if 0 ≤ l - offs z k ∧ l - offs z k ≤ 105190559 ∧ seg z.ch (l - offs z k) = k then [l - offs z k] else []
def hits (z : Zone) (l : Int) (n : Nat) : List Int := (List.range n).flatMap (hit z l)
def instantsR (z : Zone) (d m : Int) : List Int := if good z d m then hits z (d * 1440 + m) (z.ch.length + 1) else []

/-- the first change, from the k-th on, that skips a local time -/
def skip (z : Zone) (l : Int) : Nat → Nat → Int × Int
  | 0, _ => (0, 2)
  | n + 1, k => if z.ch[k - 1]!.at_ + offs z (k - 1) ≤ l ∧ l < z.ch[k - 1]!.at_ + offs z k then (z.ch[k - 1]!.at_, 0) else skip z l n (k + 1)

def pick (l : List Int) (later : Bool) : Int := if later then l[l.length - 1]! else l[0]!
def instantR (z : Zone) (d m : Int) (later : Bool) : Int × Int :=
  if !good z d m then (0, 1) else
    if (instantsR z d m).length ≠ 0 then (pick (instantsR z d m) later, 0) else skip z (d * 1440 + m) z.ch.length 1

def spanR (z : Zone) (d : Int) : Int × Int × Int :=
  if !z.valid || decide (d < 0) || decide (73047 < d) then (0, 0, 1) else
    let f := instantR z d 0 false
    if f.2 ≠ 0 then (0, 0, f.2) else
      let g := instantR z (d + 1) 0 false
      if g.2 ≠ 0 then (0, 0, g.2) else (f.1, g.1, 0)

/-! ### stretches -/
def str (z : Zone) (k : Nat) : Str := ⟨if k = 0 then 0 else z.ch[k - 1]!.at_, if k < z.ch.length then z.ch[k]!.at_ else 105190560, offs z k, offs z (k - 1)⟩
def findS (z : Zone) (p : Str → Bool) : Nat → Nat → Str × Bool
  | 0, _ => (⟨0, 0, 0, 0⟩, false)
  | n + 1, k => if p (str z k) then (str z k, true) else findS z p n (k + 1)
theorem findS_no (z : Zone) (p : Str → Bool) : ∀ n k, (∀ j, k ≤ j → j < k + n → p (str z j) = false) → findS z p n k = (⟨0, 0, 0, 0⟩, false)
  | 0, _, _ => rfl
  | n + 1, k, h => by
    rw [findS, h k (Nat.le_refl _) (by omega)]
    exact findS_no z p n (k + 1) (fun j h1 h2 => h j (by omega) (by omega))
theorem findS_at (z : Zone) (p : Str → Bool) : ∀ n k i, k ≤ i → i < k + n → (∀ j, k ≤ j → j < i → p (str z j) = false) → p (str z i) = true → findS z p n k = (str z i, true)
  | 0, _, _, h1, h2, _, _ => by omega
  | n + 1, k, i, h1, h2, h, hp => by
    rw [findS]
    by_cases he : k = i
    · subst he
      rw [if_pos hp]
    · rw [if_neg (by rw [h k (Nat.le_refl _) (by omega)]; simp)]
      exact findS_at z p n (k + 1) i (by omega) (by omega) (fun j h3 h4 => h j (by omega) h4) hp
end Go.Proofs.Zt
