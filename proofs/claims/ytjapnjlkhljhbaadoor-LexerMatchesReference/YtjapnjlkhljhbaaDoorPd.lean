/- For every argument, estoppellaw06.LexerMatchesReference returns true and leaves its arguments as they were, where the listed package variables hold what the program's text lays into them. (Part 4 of what its proof rests on.) -/
import Derived.ChangeShapes
import Derived.ChangeReads
import Derived.ChangeOld
import Derived.ChangeArms
import Derived.OpenShut
import Derived.ChangeSame
import Derived.RowKit
import Derived.Test.YtjapnjlkhljhbaaDoorPc
set_option linter.unusedSimpArgs false
set_option linter.unusedVariables false
set_option linter.deprecated false
namespace Go.Proofs.Lex
open Go.Aw
theorem s21_loop {N : Nat} {p : Str} {i : Nat} (hp : p.length ≤ 1000000) : ∀ (l : Str) (k : Nat) (b : Bool), p.drop (i + k) = l → i + k ≤ p.length → ∀ {M}, l.length < M →
    ∃ o : Ou Int Int, iter (fun q => s21_b1 N p (i : Int) q.1 q.2) M ((k : Int), b) = some o ∧ (o.on (fun a => some a) (fun a => some a) : Option Int) = some ((k + gapC b l : Nat) : Int)
  | [], k, b, hd, hi, M, hM => by
    obtain ⟨M, rfl⟩ : ∃ m, M = m + 1 := ⟨M - 1, by simp at hM; omega⟩
    have : p.length ≤ i + k := List.drop_eq_nil_iff.1 hd
    exact ⟨.brk k, iter_end (by simp only [s21_b1]; rw [wr (by omega) (by omega), if_neg (by omega)]), rfl⟩
  | c :: l, k, b, hd, hi, M, hM => by
    obtain ⟨M, rfl⟩ : ∃ m, M = m + 1 := ⟨M - 1, by simp at hM; omega⟩
    obtain ⟨hlt, hg, hd2⟩ := drop_get hd
    have hgo : ∀ b', s21_b1 N p (i : Int) (k : Int) b = some (.inl (((k + 1 : Nat) : Int), b')) → ∃ o : Ou Int Int, iter (fun q => s21_b1 N p (i : Int) q.1 q.2) (M + 1) ((k : Int), b) = some o ∧ (o.on (fun a => some a) (fun a => some a) : Option Int) = some ((k + (1 + gapC b' l) : Nat) : Int) := fun b' h => by
      rw [iter_step h]
      have := s21_loop (N := N) hp l (k + 1) b' (by rw [← hd2]; rfl) (by omega) (M := M) (by simp at hM; omega)
      rwa [Nat.add_assoc] at this
    have hst : ∀ r, (if (c.toNat : Int) = 10 then some (.inl (((k + 1 : Nat) : Int), false)) else if (c.toNat : Int) = 35 then some (.inl (((k + 1 : Nat) : Int), true)) else bif b then some (.inl (((k + 1 : Nat) : Int), true)) else if (c.toNat : Int) = 32 then some (.inl (((k + 1 : Nat) : Int), false)) else if (c.toNat : Int) = 9 then some (.inl (((k + 1 : Nat) : Int), false)) else some (.inr (.ret (k : Int)))) = r → s21_b1 N p (i : Int) (k : Int) b = r := fun r h => by
      rw [← h]
      simp only [s21_b1]
      rw [wr (n := (i : Int) + k) (by omega) (by omega), if_pos (by omega), grd_pos (by omega), show ((i : Int) + k).toNat = i + k by omega, hg, wr_succ (by omega)]
    rw [gapC]
    by_cases h10 : c.toNat = 10
    · rw [if_pos h10]
      exact hgo false (hst _ (by rw [if_pos (by omega)]))
    rw [if_neg h10]
    by_cases h35 : c.toNat = 35
    · rw [if_pos h35]
      exact hgo true (hst _ (by rw [if_neg (by omega), if_pos (by omega)]))
    rw [if_neg h35]
    cases b with
    | true =>
      rw [if_pos (by simp)]
      exact hgo true (hst _ (by rw [if_neg (by omega), if_neg (by omega)]; rfl))
    | false =>
      by_cases h32 : c.toNat = 32
      · rw [if_pos (by simp [h32])]
        exact hgo false (hst _ (by rw [if_neg (by omega), if_neg (by omega)]; simp only [cond_false]; rw [if_pos (by omega)]))
      · by_cases h9 : c.toNat = 9
        · rw [if_pos (by simp [h9])]
          exact hgo false (hst _ (by rw [if_neg (by omega), if_neg (by omega)]; simp only [cond_false]; rw [if_neg (by omega), if_pos (by omega)]))
        · rw [if_neg (by simp [h32, h9])]
          exact ⟨.ret k, iter_end (hst _ (by rw [if_neg (by omega), if_neg (by omega)]; simp only [cond_false]; rw [if_neg (by omega), if_neg (by omega)])), rfl⟩
theorem s21_eq {N : Nat} {p : Str} {i : Nat} (hi : i ≤ p.length) (hN : p.length < N) (hp : p.length ≤ 1000000) : s21 N p (i : Int) = some ((gapC false (p.drop i) : Nat) : Int) := by
  obtain ⟨o, e1, e2⟩ := s21_loop (N := N) (i := i) hp (p.drop i) 0 false rfl (by omega) (M := N) (by simp; omega)
  simp only [s21]
  rw [show iter (fun q => s21_b1 N p (i : Int) q.1 q.2) N (0, false) = some o from e1]
  rw [Nat.zero_add] at e2
  exact e2
def shift (d : Int) (t : Token) : Token := { t with At := t.At + d }
theorem s13_shift {N : Nat} {d : Int} {a : List Token} (hN : a.length < N) (ha : a.length ≤ 1000000) (hb : ∀ t, t ∈ a → -1000000000 ≤ t.At + d ∧ t.At + d ≤ 1000000000) : s13 N a d (a.map (shift d)) = some true := by
  simp only [s13, List.length_map]
  rw [if_pos trivial]
  have hloop : iter (fun p => s13_b1 N a d (a.map (shift d)) p) N 0 = some _ := iter_list (fun (_ : Unit) i => i) () a (fun _ _ _ => .inl ()) (fun _ => .brk ()) (fun _ _ => True) (fun i s t hi _ => by
    obtain ⟨hg, hlt⟩ := getI hi
    refine ⟨?_, fun _ _ => trivial⟩
    have hg2 : (a.map (shift d))[i]! = shift d t := by
      have : (a.map (shift d))[i]? = some (shift d t) := by simp [hi]
      exact (getI this).1
    have hbt := hb t (List.mem_of_getElem? hi)
    simp only [s13_b1]
    rw [if_pos (by omega), grd_pos (by omega), grd_pos (by rw [List.length_map]; omega), toNat_nat, hg, hg2, if_pos (show t.Kind = (shift d t).Kind from rfl), if_pos (show t.Text = (shift d t).Text from rfl), if_pos (show t.N = (shift d t).N from rfl), wr (by omega) (by omega), if_pos (show t.At + d = (shift d t).At from rfl), wr_succ (by omega)]) (fun s _ => by
    simp only [s13_b1]
    rw [if_neg (by omega)]) hN trivial
  rw [hloop, runL_fold]
  rfl
theorem shift_zero (a : List Token) : a.map (shift 0) = a := by
  have : shift 0 = id := by funext t; simp [shift]
  rw [this, List.map_id]
theorem lx_at {at_ : Nat} {l : Str} {ts : List Token} {e : Option (Int × Nat)} (h : Lx at_ l ts e) : (∀ t, t ∈ ts → (at_ : Int) ≤ t.At ∧ t.At < at_ + l.length ∧ 1 ≤ t.Text.length ∧ t.At + t.Text.length ≤ at_ + l.length) ∧ ∀ k a, e = some (k, a) → at_ ≤ a ∧ a < at_ + l.length := by
  induction h with
  | done => exact ⟨by simp, by simp⟩
  | @bad at_ l c r e hr ht =>
    refine ⟨by simp, fun k a h => ?_⟩
    cases h
    have hlen : r.length + 1 = l.length - gapC false l := by rw [← List.length_drop, hr, List.length_cons]
    omega
  | @tok at_ l c r k n v ts e hr ht _ ih =>
    obtain ⟨h1, h2⟩ := tokR_len ht
    have hlen : r.length + 1 = l.length - gapC false l := by rw [← List.length_drop, hr, List.length_cons]
    have hdl : ((c :: r).drop n).length = r.length + 1 - n := by simp
    refine ⟨fun t hm => ?_, fun k a h => ?_⟩
    · rcases List.mem_cons.1 hm with rfl | hm
      · simp only [List.length_take, List.length_cons]; omega
      · have := ih.1 t hm; omega
    · have := ih.2 k a h; omega
end Go.Proofs.Lex
namespace Go.Proofs.Lex
open Go.Aw
theorem s10_true : s10 8388608 = some true := by kernel_rfl
end Go.Proofs.Lex
namespace Go.Proofs.Lex
open Go.Aw
theorem scan_off {body : Int → Option (Int ⊕ Ou Int Int)} {p : Str} {f : Str → Bool} {i : Nat} (hb : ∀ (n : Nat) c l, p.drop (i + n) = c :: l → body (n : Int) = some (if f (c :: l) then .inl ((n + 1 : Nat) : Int) else .inr (.ret (n : Int)))) (he : ∀ n : Nat, p.length ≤ i + n → i + n ≤ p.length → body (n : Int) = some (.inr (.brk (n : Int)))) :
    ∀ (l : Str) (n : Nat), p.drop (i + n) = l → i + n ≤ p.length → ∀ {M}, l.length < M → ∃ o : Ou Int Int, iter body M (n : Int) = some o ∧ (o.on (fun a => some a) (fun a => some a) : Option Int) = some ((n + runN f l : Nat) : Int)
  | [], n, hd, hi, M, hM => by
    obtain ⟨M, rfl⟩ : ∃ k, M = k + 1 := ⟨M - 1, by simp at hM; omega⟩
    exact ⟨.brk n, iter_end (he n (List.drop_eq_nil_iff.1 hd) hi), rfl⟩
  | c :: l, n, hd, hi, M, hM => by
    obtain ⟨M, rfl⟩ : ∃ k, M = k + 1 := ⟨M - 1, by simp at hM; omega⟩
    have h1 := hb n c l hd
    obtain ⟨hlt, _, hd2⟩ := drop_get hd
    rw [runN]
    cases hf : f (c :: l) with
    | true =>
      rw [hf] at h1
      rw [iter_step h1]
      obtain ⟨o, e1, e2⟩ := scan_off hb he l (n + 1) (by rw [← hd2]; rfl) (by omega) (M := M) (by simp at hM; omega)
      refine ⟨o, e1, ?_⟩
      rw [e2]
      simp only [if_true]; congr 2; omega
    | false =>
      rw [hf] at h1
      exact ⟨.ret n, iter_end h1, rfl⟩
theorem s33_eq {N : Nat} {p : Str} {i : Nat} (hi : i ≤ p.length) (hN : p.length < N) (hp : p.length ≤ 1000000) : s33 N p (i : Int) = some ((nameN (p.drop i) : Nat) : Int) := by
  have hb : ∀ (n : Nat) c l, p.drop (i + n) = c :: l → s33_b2 N p (i : Int) (n : Int) = some (if fName (c :: l) then .inl ((n + 1 : Nat) : Int) else .inr (.ret (n : Int))) := fun n c l hd => by
    obtain ⟨hlt, hg, hd2⟩ := drop_get hd
    have hw : IntKind.wrap .i64 ((i : Int) + (n : Int)) = ((i + n : Nat) : Int) := by rw [wr (by omega) (by omega)]; omega
    have hk : ∀ b, s33_k1 N p (i : Int) (n : Int) b = some (if (word c || b) = true then .inl ((n + 1 : Nat) : Int) else .inr (.ret (n : Int))) := fun b => by
      simp only [s33_k1]
      rw [hw, toNat_nat, hg, s40_eq, wr_succ (by omega)]
      simp only [Option.bind_some]
      cases word c <;> cases b <;> rfl
    simp only [s33_b2]
    rw [hw, if_pos (by omega), grd_pos (by omega), toNat_nat, hg, wr_succ (by omega)]
    by_cases h : (c.toNat : Int) = 46
    · have h46 : decide (c.toNat = 46) = true := decide_eq_true (by omega)
      rw [if_pos h]
      cases l with
      | nil =>
        have : p.length ≤ i + n + 1 := List.drop_eq_nil_iff.1 hd2
        rw [if_neg (by omega), hk]
        simp only [fName, h46, headW, Bool.and_false, Bool.or_false]
      | cons d r =>
        obtain ⟨hlt2, hg2, _⟩ := drop_get hd2
        rw [if_pos (by omega), grd_pos (by omega), toNat_nat, hg2, s40_eq]
        simp only [Option.bind_some]
        rw [hk]
        simp only [fName, h46, headW, Bool.true_and]
    · have h46 : decide (c.toNat = 46) = false := decide_eq_false (by omega)
      rw [if_neg h, hk]
      simp only [fName, h46, Bool.false_and, Bool.or_false]
  have he : ∀ n : Nat, p.length ≤ i + n → i + n ≤ p.length → s33_b2 N p (i : Int) (n : Int) = some (.inr (.brk (n : Int))) := fun n h1 h2 => by
    simp only [s33_b2]
    rw [wr (by omega) (by omega), if_neg (by omega)]
  obtain ⟨o, e1, e2⟩ := scan_off hb he (p.drop i) 0 rfl (by omega) (M := N) (by simp; omega)
  simp only [s33]
  rw [show iter (fun q => s33_b2 N p (i : Int) q) N 0 = some o from e1]
  rw [Nat.zero_add] at e2
  exact e2
theorem s35_loop {N : Nat} {p : Str} {i : Nat} (hp : p.length ≤ 1000000) : ∀ (l : Str) (n v : Nat), p.drop (i + n) = l → i + n ≤ p.length → v < 10 ^ (min n 12) → ∀ {M}, l.length < M →
    ∃ v' : Nat, iter (fun q => s35_b1 N p (i : Int) q.1 q.2) M ((n : Int), (v : Int)) = some (((n + digN l : Nat) : Int), (v' : Int)) ∧ (n + digN l ≤ 12 → v' = (l.take (digN l)).foldl (fun v c => v * 10 + (c.toNat - 48)) v)
  | [], n, v, hd, hi, hv, M, hM => by
    obtain ⟨M, rfl⟩ : ∃ k, M = k + 1 := ⟨M - 1, by simp at hM; omega⟩
    have := List.drop_eq_nil_iff.1 hd
    refine ⟨v, iter_end ?_, fun _ => rfl⟩
    simp only [s35_b1]
    rw [wr (by omega) (by omega), if_neg (by omega)]
    rfl
  | c :: l, n, v, hd, hi, hv, M, hM => by
    obtain ⟨M, rfl⟩ : ∃ k, M = k + 1 := ⟨M - 1, by simp at hM; omega⟩
    obtain ⟨hlt, hg, hd2⟩ := drop_get hd
    have hw : IntKind.wrap .i64 ((i : Int) + (n : Int)) = ((i + n : Nat) : Int) := by rw [wr (by omega) (by omega)]; omega
    have hp12 : (10 : Nat) ^ (min n 12) ≤ 10 ^ 12 := Nat.pow_le_pow_right (by omega) (by omega)
    have h1212 : (10 : Nat) ^ 12 = 1000000000000 := by decide
    have hdn : digN (c :: l) = if fDig (c :: l) = true then 1 + digN l else 0 := by show runN fDig (c :: l) = _; rw [runN]
    cases hdg : digi c with
    | false =>
      have h0 : digN (c :: l) = 0 := by rw [hdn, if_neg (by simp [fDig, hdg])]
      refine ⟨v, iter_end ?_, fun _ => by rw [h0]; rfl⟩
      simp only [s35_b1]
      rw [hw, if_pos (by omega), grd_pos (by omega), toNat_nat, hg, s34_eq, hdg, h0]
      rfl
    | true =>
      have h1 : digN (c :: l) = 1 + digN l := by rw [hdn, if_pos (show fDig (c :: l) = true from hdg)]
      have hc : 48 ≤ c.toNat ∧ c.toNat ≤ 57 := by simpa [digi] using hdg
      by_cases h12 : n < 12
      · have hst : s35_b1 N p (i : Int) (n : Int) (v : Int) = some (.inl (((n + 1 : Nat) : Int), ((v * 10 + (c.toNat - 48) : Nat) : Int))) := by
          simp only [s35_b1]
          rw [hw, if_pos (by omega), grd_pos (by omega), toNat_nat, hg, s34_eq, hdg]
          simp only [Option.bind_some, cond_true]
          rw [if_pos (by omega), wr_succ (by omega), wr8 (by omega) (by omega), wr (n := (c.toNat : Int) - 48) (by omega) (by omega), wr (n := 10 * (v : Int)) (by omega) (by omega), wr (by omega) (by omega)]
          congr 3
          omega
        have hv2 : v * 10 + (c.toNat - 48) < 10 ^ (min (n + 1) 12) := by
          rw [show min (n + 1) 12 = n + 1 by omega, Nat.pow_succ]
          rw [show min n 12 = n by omega] at hv
          omega
        obtain ⟨v', e1, e2⟩ := s35_loop (N := N) hp l (n + 1) _ (by rw [← hd2]; rfl) (by omega) hv2 (M := M) (by simp at hM; omega)
        rw [iter_step hst]
        refine ⟨v', by rw [e1, h1]; congr 3; omega, fun h => ?_⟩
        rw [e2 (by omega), h1, show 1 + digN l = digN l + 1 by omega, List.take_succ_cons, List.foldl_cons]
      · have hst : s35_b1 N p (i : Int) (n : Int) (v : Int) = some (.inl (((n + 1 : Nat) : Int), (v : Int))) := by
          simp only [s35_b1]
          rw [hw, if_pos (by omega), grd_pos (by omega), toNat_nat, hg, s34_eq, hdg]
          simp only [Option.bind_some, cond_true]
          rw [if_neg (by omega), wr_succ (by omega)]
        obtain ⟨v', e1, e2⟩ := s35_loop (N := N) hp l (n + 1) v (by rw [← hd2]; rfl) (by omega) (by rw [show min (n + 1) 12 = min n 12 by omega]; exact hv) (M := M) (by simp at hM; omega)
        rw [iter_step hst]
        exact ⟨v', by rw [e1, h1]; congr 3; omega, fun h => by omega⟩
theorem s35_eq {N : Nat} {p : Str} {i : Nat} (hi : i ≤ p.length) (hN : p.length < N) (hp : p.length ≤ 1000000) : ∃ v' : Nat, s35 N p (i : Int) = some (((digN (p.drop i) : Nat) : Int), (v' : Int)) ∧ (digN (p.drop i) ≤ 12 → v' = valN ((p.drop i).take (digN (p.drop i)))) := by
  obtain ⟨v', e1, e2⟩ := s35_loop (N := N) (i := i) hp (p.drop i) 0 0 rfl (by omega) (by decide) (M := N) (by simp; omega)
  rw [Nat.zero_add] at e1 e2
  refine ⟨v', ?_, e2⟩
  simp only [s35]
  rw [show iter (fun q => s35_b1 N p (i : Int) q.1 q.2) N (0, 0) = _ from e1]
  rfl
theorem s36_eq {N : Nat} {c : UInt8} (hN : 100 < N) : s36 N (c.toNat : Int) = some (symb c) := by
  have hl : lit2.length = 10 := by rfl
  have hloop : iter (fun p => s36_b1 N (c.toNat : Int) p) N 0 = some _ := iter_list (fun (_ : Unit) i => i) () lit2 (fun _ _ a => if decide ((a.toNat : Int) = (c.toNat : Int)) then .inr (.ret true) else .inl ()) (fun _ => .brk ()) (fun _ _ => True) (fun i s a hi _ => by
    have hlt := (getI hi).2
    refine ⟨?_, fun _ _ => trivial⟩
    have hg : lit2.getD i 0 = a := by simp [List.getD, hi]
    simp only [s36_b1]
    rw [if_pos (by omega), grd_pos (by omega), toNat_nat, hg, wr_succ (by omega)]
    by_cases h : (a.toNat : Int) = (c.toNat : Int)
    · rw [if_pos h, decide_eq_true h]; rfl
    · rw [if_neg h, decide_eq_false h]; rfl) (fun s _ => by
    simp only [s36_b1]
    rw [if_neg (by omega)]) (by omega) trivial
  simp only [s36]
  rw [hloop, runL_any]
  have : (lit2.any fun a => decide ((a.toNat : Int) = (c.toNat : Int))) = symb c := by
    rw [symb, List.contains_eq_any_beq]
    congr 1
    funext a
    rw [Bool.eq_iff_iff]
    simp only [decide_eq_true_eq, beq_iff_eq]
    constructor
    · intro h
      exact (UInt8.toNat_inj.1 (by omega)).symm
    · intro h; rw [h]
  rw [this]
  cases symb c <;> rfl
theorem digN_stop : ∀ (l : Str) (e : UInt8) (r : Str), l.drop (digN l) = e :: r → digi e = false
  | [], e, r, h => by simp at h
  | c :: l, e, r, h => by
    have hdn : digN (c :: l) = if fDig (c :: l) = true then 1 + digN l else 0 := by show runN fDig (c :: l) = _; rw [runN]
    cases hdg : digi c with
    | true =>
      rw [hdn, if_pos (show fDig (c :: l) = true from hdg), show 1 + digN l = digN l + 1 by omega, List.drop_succ_cons] at h
      exact digN_stop l e r h
    | false =>
      rw [hdn, if_neg (by simp [fDig, hdg]), List.drop_zero] at h
      cases h
      exact hdg
def noTok : Token := ⟨0, [], 0, 0⟩
def refS (i : Nat) (l : Str) : Token × Int :=
  match tokR l with
  | .inl (k, n, v) => (⟨k, l.take n, v, i⟩, 0)
  | .inr e => (noTok, e)
theorem s22_eq {N : Nat} {p : Str} {i : Nat} {c : UInt8} {l : Str} (hd : p.drop i = c :: l) (hp : p.length ≤ 1000000) (hN : p.length < N) (hN2 : 100 < N) : s22 N p (i : Int) = some (refS i (c :: l)) := by
  obtain ⟨hlt, hg, hd2⟩ := drop_get hd
  have hll : (c :: l).length = p.length - i := by rw [← hd, List.length_drop]
  have cut : ∀ n, List.drop i (List.take (i + n) p) = (c :: l).take n := fun n => by
    rw [List.drop_take, hd, Nat.add_sub_cancel_left]
  simp only [s22]
  rw [grd_pos (by omega), toNat_nat, hg, s32_eq]
  simp only [Option.bind_some, refS, tokR]
  cases hl : lett c with
  | true =>
    simp only [cond_true, if_true]
    have hn : nameN (c :: l) ≤ (c :: l).length := runN_le fName (c :: l)
    rw [s33_eq (by omega) hN hp, hd]
    simp only [Option.bind_some]
    generalize hnm : nameN (c :: l) = n at *
    have hw : IntKind.wrap .i64 ((i : Int) + (n : Int)) = ((i + n : Nat) : Int) := by rw [wr (by omega) (by omega)]; omega
    by_cases h24 : 24 < n
    · rw [if_pos (by omega), if_pos h24]; rfl
    · rw [if_neg (by omega), if_neg h24, hw, grd_pos (by omega)]
      simp only [toNat_nat, cut]
      rfl
  | false =>
    simp only [cond_false, Bool.false_eq_true, if_false]
    rw [s34_eq]
    simp only [Option.bind_some]
    cases hdg : digi c with
    | true =>
      simp only [cond_true, if_true]
      have hn : digN (c :: l) ≤ (c :: l).length := runN_le fDig (c :: l)
      obtain ⟨v', e1, e2⟩ := s35_eq (N := N) (p := p) (i := i) (by omega) hN hp
      rw [hd] at e1 e2
      have hst := digN_stop (c :: l)
      rw [e1]
      simp only [Option.bind_some]
      generalize hnm : digN (c :: l) = n at *
      have hw : IntKind.wrap .i64 ((i : Int) + (n : Int)) = ((i + n : Nat) : Int) := by rw [wr (by omega) (by omega)]; omega
      by_cases h12 : 12 < n
      · rw [if_pos (by omega), if_pos h12]; rfl
      · rw [if_neg (by omega), if_neg h12, hw]
        have hdn : p.drop (i + n) = (c :: l).drop n := by rw [← List.drop_drop, hd]
        have hv := e2 (by omega)
        cases hr : (c :: l).drop n with
        | nil =>
          have : p.length ≤ i + n := List.drop_eq_nil_iff.1 (hdn.trans hr)
          rw [if_neg (by omega), grd_pos (by omega)]
          simp only [toNat_nat, cut, hv]
          rfl
        | cons e r =>
          obtain ⟨hlt2, hg2, _⟩ := drop_get (hdn.trans hr)
          have hde := hst e r hr
          rw [if_pos (by omega), grd_pos (by omega), toNat_nat, hg2, s32_eq]
          simp only [Option.bind_some]
          have hwd : headW (e :: r) = (lett e || decide (e.toNat = 95)) := by
            show word e = _
            rw [word, hde, Bool.or_false]
          cases hle : lett e with
          | true =>
            rw [hle, Bool.true_or] at hwd
            rw [if_pos hwd]; rfl
          | false =>
            simp only [cond_false]
            rw [hle, Bool.false_or] at hwd
            by_cases h95 : (e.toNat : Int) = 95
            · rw [if_pos h95, if_pos (by rw [hwd]; exact decide_eq_true (by omega))]; rfl
            · rw [if_neg h95, if_neg (by rw [hwd]; simp; omega), grd_pos (by omega)]
              simp only [toNat_nat, cut, hv]
    | false =>
      simp only [cond_false, Bool.false_eq_true, if_false]
      rw [s36_eq hN2]
      simp only [Option.bind_some]
      cases hs : symb c with
      | true =>
        simp only [cond_true, if_true]
        rw [wr_succ (by omega), grd_pos (by omega)]
        simp only [toNat_nat, cut]
        rfl
      | false => rfl
theorem s12_loop {N : Nat} {p : Str} (hN : p.length < N) (hN2 : 100 < N) (hp : p.length ≤ 1000000) {at_ : Nat} {l : Str} {ts : List Token} {e : Option (Int × Nat)} (h : Lx at_ l ts e) :
    ∀ (o : List Token), p.drop at_ = l → at_ ≤ p.length → o.length + ts.length < 5000 → ∀ {M}, ts.length + 1 < M →
    ∃ q, iter (fun q => s12_b1 N p q.1 q.2) M (o, ((at_ + gapC false l : Nat) : Int)) = some q ∧ (q.on (fun a => some (a, 0, 0)) (fun a => some a) : Option (List Token × Int × Int)) = some (ans o ts e) := by
  induction h with
  | @done at_ l hg =>
    intro o hd hi ho M hM
    obtain ⟨M, rfl⟩ : ∃ k, M = k + 1 := ⟨M - 1, by omega⟩
    have hll : l.length = p.length - at_ := by rw [← hd, List.length_drop]
    refine ⟨.brk o, iter_end ?_, by simp [ans, Ou.on]⟩
    simp only [s12_b1]
    rw [if_neg (by omega)]
  | @bad at_ l c r e hr ht =>
    intro o hd hi ho M hM
    obtain ⟨M, rfl⟩ : ∃ k, M = k + 1 := ⟨M - 1, by omega⟩
    have hd' : p.drop (at_ + gapC false l) = c :: r := by rw [← List.drop_drop, hd, hr]
    obtain ⟨hlt, _, _⟩ := drop_get hd'
    have he := tokR_err ht
    refine ⟨.ret ([], e, ((at_ + gapC false l : Nat) : Int)), iter_end ?_, rfl⟩
    simp only [s12_b1]
    rw [if_pos (by omega), s22_eq hd' hp hN hN2]
    simp only [Option.bind_some, refS, ht]
    rw [if_neg (by omega)]
  | @tok at_ l c r k n v ts e hr ht hx ih =>
    intro o hd hi ho M hM
    obtain ⟨M, rfl⟩ : ∃ k, M = k + 1 := ⟨M - 1, by omega⟩
    obtain ⟨n1, n2⟩ := tokR_len ht
    have hd' : p.drop (at_ + gapC false l) = c :: r := by rw [← List.drop_drop, hd, hr]
    obtain ⟨hlt, _, _⟩ := drop_get hd'
    have hll : r.length + 1 = p.length - (at_ + gapC false l) := by rw [← List.length_drop, hd', List.length_cons]
    simp only [List.length_cons] at ho hM
    have hg2 := gapC_le false ((c :: r).drop n)
    have hdl : ((c :: r).drop n).length = r.length + 1 - n := by simp
    have hstep : s12_b1 N p o ((at_ + gapC false l : Nat) : Int) = some (.inl (o ++ [⟨k, (c :: r).take n, v, ((at_ + gapC false l : Nat) : Int)⟩], ((at_ + gapC false l + n + gapC false ((c :: r).drop n) : Nat) : Int))) := by
      simp only [s12_b1]
      rw [if_pos (by omega), s22_eq hd' hp hN hN2]
      simp only [Option.bind_some, refS, ht]
      have hlen : ((c :: r).take n).length = n := by rw [List.length_take, List.length_cons, Nat.min_eq_left (by omega)]
      rw [if_pos trivial, if_neg (by omega), grd_pos (by omega), hlen]
      have hw : IntKind.wrap .i64 (((at_ + gapC false l : Nat) : Int) + (n : Int)) = ((at_ + gapC false l + n : Nat) : Int) := by rw [wr (by omega) (by omega)]; omega
      rw [hw, s21_eq (by omega) hN hp, ← List.drop_drop, hd']
      simp only [Option.bind_some]
      rw [wr (by omega) (by omega)]
      congr 3
    rw [iter_step hstep]
    obtain ⟨q, e1, e2⟩ := ih (o ++ [⟨k, (c :: r).take n, v, ((at_ + gapC false l : Nat) : Int)⟩]) (by rw [← List.drop_drop, hd']) (by omega) (by simp; omega) (M := M) (by omega)
    refine ⟨q, e1, ?_⟩
    rw [e2]
    cases e <;> simp [ans]
theorem s12_of {N : Nat} {p : Str} (hN : 20000 < N) (hp : p.length ≤ 20000) {ts : List Token} {e : Option (Int × Nat)} (h : Lx 0 p ts e) (hc : ts.length < 5000) : s12 N p = some (ans [] ts e) := by
  simp only [s12]
  rw [if_neg (by omega), show s21 N p 0 = s21 N p ((0 : Nat) : Int) by rfl, s21_eq (by omega) (by omega) (by omega)]
  simp only [Option.bind_some, List.drop_zero]
  obtain ⟨q, e1, e2⟩ := s12_loop (N := N) (by omega) (by omega) (by omega) h [] rfl (by omega) (by simpa using hc) (M := N) (by omega)
  rw [Nat.zero_add] at e1
  rw [e1]
  exact e2
theorem s3_true {p1 : Str} : s3 8388608 p1 = some true := by
  simp only [s3, s10_true, Option.bind_some]
  by_cases h1 : 3000 < (List.length p1 : Int)
  · rw [if_pos h1]
  rw [if_neg h1]
  obtain ⟨ts, e, x1⟩ := lx_total _ p1 0 (Nat.le_refl _)
  have l1 := lx_len x1
  have a1 := (lx_at x1).1
  have h2 := s12_of (N := 8388608) (by omega) (by omega) x1 (by omega)
  have b1 := s13_shift (N := 8388608) (d := 0) (a := ts) (by omega) (by omega) (fun t ht => by have := a1 t ht; omega)
  rw [shift_zero] at b1
  cases e with
  | some x =>
    obtain ⟨k, a⟩ := x
    have h2 : s12 8388608 p1 = some ([], k, (a : Int)) := h2
    have b0 := s13_shift (N := 8388608) (d := 0) (a := []) (by simp) (by simp) (fun t ht => by cases ht)
    rw [shift_zero] at b0
    rw [s11_bad (by omega) (by omega) x1 (by omega), h2]
    simp only [Option.bind_some, cond_true]
    rw [if_pos trivial, if_pos trivial, b0]
    rfl
  | none =>
    have h2 : s12 8388608 p1 = some (ts, 0, 0) := h2
    rw [s11_ok (by omega) (by omega) x1 (by omega), h2]
    simp only [Option.bind_some, cond_true]
    rw [if_pos trivial, if_pos trivial, b1]
    rfl
end Go.Proofs.Lex
namespace Go.Aw
open Go.WideShapes Go.ChangeShapes
def reach (P : Program) : List Field → Nat → Option Nat
  | [], n => some n
  | f :: r, n => if f.offset = n then reach P r (n + P.cellsOf f.type) else none
def laysT (P : Program) (d : Option TypeDesc) (c : Nat) : Bool := match d with
  | some (.slice e) => decide (e < P.types.size) && decide (0 < P.cellsOf e)
  | some (.pointer e) => decide (e < P.types.size)
  | some (.map k e) => decide (k < P.types.size) && decide (e < P.types.size)
  | some (.struct fs) => fs.toList.all (fun f => decide (f.type < P.types.size)) && (reach P fs.toList 0 == some c)
  | some (.array n e) => decide (e < P.types.size) && (n * P.cellsOf e == c)
  | _ => true
def lays (P : Program) : Bool := (List.range P.types.size).all fun t => laysT P (P.underlying t) (P.cellsOf t)
theorem lays_at {P : Program} (h : lays P = true) {t : TypeId} (ht : t < P.types.size) {d : TypeDesc} (hu : P.underlying t = some d) : laysT P (some d) (P.cellsOf t) = true := by
  have := List.all_eq_true.1 h t (List.mem_range.2 ht)
  rwa [hu] at this
section
variable {H : Type} {enc : TypeId × Value → H} {P : Program} {w : World} {base : Nat} {sp : Nat → Bool}
theorem step_spare (hl : lays P = true) {r r' : TypeId → List Value → Option (DataW H × List MemPlace)}
    (hr : ∀ t cs x, t < P.types.size → r t cs = some x → (∀ p ∈ x.2, sp p.block = true) → r' t cs = some x) {t : TypeId} (ht : t < P.types.size) {cs : List Value} {x : DataW H × List MemPlace}
    (h : DataW.trodStep enc P w base (fun _ => true) true r t cs = some x) (hs : ∀ p ∈ x.2, sp p.block = true) : DataW.trodStep enc P w base sp true r' t cs = some x := by
  unfold DataW.trodStep at h ⊢
  split at h
  case h_6 e a hu =>
    have he : e < P.types.size := by simpa [laysT] using lays_at hl ht hu
    simp only [Option.map_eq_some_iff, Option.bind_eq_some_iff] at h ⊢
    obtain ⟨y, ⟨cs', hc, hy⟩, rfl⟩ := h
    exact ⟨y, ⟨cs', hc, hr _ _ _ he hy (fun p hp => hs p (by simp [hp]))⟩, rfl⟩
  case h_8 e a len cap hu =>
    have hE : e < P.types.size ∧ 0 < P.cellsOf e := by simpa [laysT] using lays_at hl ht hu
    simp only at h ⊢
    split at h
    · rename_i hc
      rw [if_pos hc]
      simp only [Option.map_eq_some_iff, Option.bind_eq_some_iff, if_true] at h ⊢
      obtain ⟨elems, he, rest, hrest, rfl⟩ := h
      have hrl : rest.length = cap - len := by simpa using mapM_some_length hrest
      have one : ∀ (i : Nat) (y : DataW H × List MemPlace), y ∈ elems ++ rest →
          (w.cells? base (a.add (i * P.cellsOf e)) (P.cellsOf e)).bind (r e) = some y → (w.cells? base (a.add (i * P.cellsOf e)) (P.cellsOf e)).bind (r' e) = some y := by
        intro i y hy hv
        simp only [Option.bind_eq_some_iff] at hv ⊢
        obtain ⟨cs', hc', hy'⟩ := hv
        refine ⟨cs', hc', hr _ _ _ hE.1 hy' (fun p hp => hs p ?_)⟩
        simp only [List.mem_append, List.mem_flatMap]
        right
        exact ⟨y, by simpa using hy, hp⟩
      refine ⟨elems, mapM_carry he (fun i y hi hy => one i y (by simp [hy])), rest, ?_, rfl⟩
      by_cases hsp : sp a.block = true
      · rw [if_pos hsp]
        exact mapM_carry hrest (fun j y hj hy => one (len + j) y (by simp [hy]))
      · rw [if_neg hsp]
        have hpos := hE.2
        cases rest with
        | nil => rfl
        | cons z zs =>
          refine absurd (hs (.cell a.block (a.off + 0)) ?_) hsp
          simp only [List.mem_append]
          left
          exact MemPlace.mem_row.2 ⟨0, Nat.mul_pos (by simp only [List.length_cons]; omega) hpos, rfl⟩
    · cases h
  case h_9 fs cs hu =>
    have hE := lays_at hl ht hu
    simp only [laysT, Bool.and_eq_true, List.all_eq_true, decide_eq_true_eq] at hE
    split at h
    · rename_i hc
      rw [if_pos hc]
      simp only [Option.map_eq_some_iff] at h ⊢
      obtain ⟨xs, hx, rfl⟩ := h
      exact ⟨xs, mapM_carry hx (fun f y hf hy hv => hr _ _ _ (hE.1 f hf) hv (fun p hp => hs p (List.mem_flatMap.2 ⟨y, hy, hp⟩))), rfl⟩
    · cases h
  case h_10 n e cs hu =>
    have hE := lays_at hl ht hu
    simp only [laysT, Bool.and_eq_true, decide_eq_true_eq] at hE
    split at h
    · rename_i hc
      rw [if_pos hc]
      simp only [Option.map_eq_some_iff] at h ⊢
      obtain ⟨xs, hx, rfl⟩ := h
      exact ⟨xs, mapM_carry hx (fun f y _ hy hv => hr _ _ _ hE.1 hv (fun p hp => hs p (List.mem_flatMap.2 ⟨y, hy, hp⟩))), rfl⟩
    · cases h
  case h_12 =>
    exact h
  case h_14 k e b hu =>
    have hE : k < P.types.size ∧ e < P.types.size := by simpa [laysT] using lays_at hl ht hu
    split at h
    · rename_i es clock hb
      split at h
      · rename_i hc
        simp only [Option.bind_eq_some_iff] at h
        obtain ⟨entries, he, hd⟩ := h
        split at hd
        · rename_i hris
          have hx := Option.some.inj hd
          subst hx
          simp only [if_pos hc, Option.bind_eq_some_iff]
          refine ⟨entries, mapM_carry he (fun x y _ hy hv => ?_), by simp [hris]⟩
          simp only [Option.bind_eq_some_iff] at hv ⊢
          obtain ⟨key, hk, hz⟩ := hv
          refine ⟨key, hk, ?_⟩
          split at hz
          · rename_i hf
            rw [if_pos hf]
            simp only [Option.map_eq_some_iff] at hz ⊢
            obtain ⟨q, hq, rfl⟩ := hz
            exact ⟨q, hr _ _ _ hE.2 hq (fun p hp => hs p (by simp only [List.mem_cons, List.mem_flatMap]; right; exact ⟨_, hy, hp⟩)), rfl⟩
          · cases hz
        · cases hd
      · cases h
    · cases h
  all_goals first | exact h | cases h
theorem trod_spare (hl : lays P = true) : ∀ (n : Nat) (t : TypeId) (cs : List Value) (x : DataW H × List MemPlace), t < P.types.size →
    DataW.trod enc P w base (fun _ => true) true n t cs = some x → (∀ p ∈ x.2, sp p.block = true) → DataW.trod enc P w base sp true n t cs = some x := by
  intro n
  induction n with
  | zero => intro t cs x _ h; simp [DataW.trod] at h
  | succ n ih =>
    intro t cs x ht h hs
    rw [DataW.trod_step] at h ⊢
    exact step_spare hl ih ht h hs
theorem all_spare (hl : lays P = true) {w' : World} : ∀ (ts : List TypeId) (vs : List Value) (ds : List (DataW H)) (ps : List MemPlace), (∀ t ∈ ts, t < P.types.size) →
    DataW.TrodAll enc P w base (fun _ => true) true ts vs ds ps → (∀ p ∈ ps, sp p.block = true) → (∀ p ∈ ps, w.sameAt w' p) → DataW.TrodAll enc P w' base sp true ts vs ds ps
  | [], vs, ds, ps, _, h, _, _ => by
    obtain ⟨rfl, rfl, rfl⟩ := trodAll_nil h
    rfl
  | t :: ts, vs, ds, ps, ht, h, hs, hw => by
    obtain ⟨v, vs', d, ds', p, q, rfl, rfl, rfl, ⟨n, h1⟩, h2⟩ := trodAll_cons h
    refine ⟨p, q, ⟨n, ?_⟩, all_spare hl ts vs' ds' q (fun u hu => ht u (List.mem_cons_of_mem _ hu)) h2 (fun x hx => hs x (List.mem_append_right _ hx)) (fun x hx => hw x (List.mem_append_right _ hx)), rfl⟩
    exact DataW.trod_carry n t _ _ (trod_spare hl n t _ _ (ht t (List.mem_cons_self ..)) h1 (fun x hx => hs x (List.mem_append_left _ hx))) (fun x hx => hw x (List.mem_append_left _ hx))
end
def okOne (P : Program) (S : List TypeId) (t : TypeId) : Bool := decide (t < P.types.size) && match P.underlying t with
    | some .bool | some (.int _) | some .string => true
    | some (.pointer e) => decide (0 < P.cellsOf e) && S.contains e
    | some (.slice e) | some (.array _ e) => S.contains e
    | some (.struct fs) => fs.toList.all fun f => S.contains f.type
    | _ => false
def okS (P : Program) (S : List TypeId) : Bool := S.all (okOne P S)
def argAV (P : Program) (t : TypeId) (xs : List AV) : AV := match P.underlying t with
  | some (.struct _) | some (.array _ _) => .agg xs
  | _ => xs.headD .any
def Sh (P : Program) : Nat → TypeId → List AV → Prop
  | 0, _, _ => False
  | n + 1, t, xs => match P.underlying t with
    | some .bool => ∃ b, xs = [.bool b]
    | some (.int k) => ∃ i, xs = [.int k i] ∧ (Lit.int k i).wf = true
    | some .string => ∃ l, xs = [.str l] ∧ l.length ≤ maxLen
    | some (.pointer e) => xs = [.lit (.pointer none)] ∨ ∃ ys, xs = [.ref ys] ∧ Sh P n e ys
    | some (.slice e) => ∃ ys : List (List AV), xs = [.sl (ys.map (argAV P e))] ∧ ys.length ≤ maxLen ∧ ∀ y, y ∈ ys → Sh P n e y
    | some (.struct fs) => ∃ ys : List (List AV), xs = ys.flatten ∧ ys.length = fs.size ∧ ∀ (i : Nat) (f : Field) (y : List AV), fs[i]? = some f → ys[i]? = some y → Sh P n f.type y
    | some (.array m e) => ∃ ys : List (List AV), xs = ys.flatten ∧ ys.length = m ∧ ∀ y, y ∈ ys → Sh P n e y
    | _ => False
mutual
def AV.bulk : AV → Nat
  | .str l => l.length + 1
  | .sl xs => bulkL xs + 1
  | .ref cs => bulkL cs + 1
  | .agg cs => bulkL cs + 1
  | .any => 1
  | .int _ _ => 1
  | .bool _ => 1
  | .lit _ => 1
  | .ptr _ _ _ => 1
  | .row _ _ _ _ _ => 1
  | .nil => 1
  | .tup _ => 1
  | .fn _ _ _ => 1
  | .ifc _ _ => 1
  | .mapv _ _ => 1
def bulkL : List AV → Nat
  | [] => 0
  | x :: r => x.bulk + bulkL r
end
theorem bulk_sl (l : List AV) : (AV.sl l).bulk = bulkL l + 1 := by rw [AV.bulk]
theorem bulk_ref (l : List AV) : (AV.ref l).bulk = bulkL l + 1 := by rw [AV.bulk]
theorem bulk_agg (l : List AV) : (AV.agg l).bulk = bulkL l + 1 := by rw [AV.bulk]
theorem bulk_str (l : List UInt8) : (AV.str l).bulk = l.length + 1 := by rw [AV.bulk]
theorem bulk_int (k : IntKind) (n : Int) : (AV.int k n).bulk = 1 := by rw [AV.bulk]
theorem bulk_bool (b : Bool) : (AV.bool b).bulk = 1 := by rw [AV.bulk]
theorem bulk_lit (v : Value) : (AV.lit v).bulk = 1 := by rw [AV.bulk]
theorem bulkL_app : ∀ (l m : List AV), bulkL (l ++ m) = bulkL l + bulkL m
  | [], m => by simp [bulkL]
  | x :: l, m => by simp only [List.cons_append, bulkL, bulkL_app l m]; omega
structure Bulk (H : Type) where
  b : DataW H → Nat
  l : List (DataW H) → Nat
  str : ∀ s, b (.lit (.string s)) = s.length + 1
  one : ∀ d, 1 ≤ b d
  ptr : ∀ d, b (.ptr d) = b d + 1
  slice : ∀ x y, b (.slice x y) = l x + l y + 1
  agg : ∀ x, b (.agg x) = l x + 1
  nil : l [] = 0
  cons : ∀ d r, l (d :: r) = b d + l r
theorem bulk_flat {H : Type} (B : Bulk H) : ∀ (ys : List (List AV)) (ps : List (DataW H × List MemPlace)), ys.length = ps.length → (∀ (i : Nat) y p, ys[i]? = some y → ps[i]? = some p → bulkL y ≤ B.b p.1) → bulkL ys.flatten ≤ B.l (ps.map (·.1))
  | [], [], _, _ => by simp [bulkL]
  | y :: ys, p :: ps, hl, h => by
    have h0 := h 0 y p rfl rfl
    have := bulk_flat B ys ps (by simpa using hl) (fun i z q hz hq => h (i + 1) z q (by simpa using hz) (by simpa using hq))
    rw [List.flatten_cons, bulkL_app, List.map_cons, B.cons]
    omega
theorem bulk_map {H : Type} (B : Bulk H) (f : List AV → AV) : ∀ (ys : List (List AV)) (ps : List (DataW H × List MemPlace)), ys.length = ps.length → (∀ (i : Nat) y p, ys[i]? = some y → ps[i]? = some p → (f y).bulk ≤ B.b p.1) → bulkL (ys.map f) ≤ B.l (ps.map (·.1))
  | [], [], _, _ => by simp [bulkL]
  | y :: ys, p :: ps, hl, h => by
    have h0 := h 0 y p rfl rfl
    have := bulk_map B f ys ps (by simpa using hl) (fun i z q hz hq => h (i + 1) z q (by simpa using hz) (by simpa using hq))
    rw [List.map_cons, List.map_cons, B.cons, bulkL]
    omega
def BulkOk {H : Type} (P : Program) (t : TypeId) (xs : List AV) (d : DataW H) : Prop := ∀ B : Bulk H, bulkL xs ≤ B.b d ∧ (argAV P t xs).bulk ≤ B.b d
theorem bulkOk_one {H : Type} {P : Program} {t : TypeId} {x : AV} {d : DataW H} (hn : argAV P t [x] = x) (h : ∀ B : Bulk H, x.bulk ≤ B.b d) : BulkOk P t [x] d := fun B => by
  rw [hn]
  exact ⟨by simpa [bulkL] using h B, h B⟩
theorem argAV_cells {P : Program} {n : Nat} {t : TypeId} {xs : List AV} (h : Sh P n t xs) : (argAV P t xs).cells = xs := by
  cases n with
  | zero => exact h.elim
  | succ n =>
    unfold argAV
    unfold Sh at h
    cases hu : P.underlying t with
    | none => rw [hu] at h; exact h.elim
    | some d =>
      rw [hu] at h
      cases d with
      | bool => obtain ⟨_, rfl⟩ := h; rfl
      | int q => obtain ⟨_, rfl, _⟩ := h; rfl
      | string => obtain ⟨_, rfl, _⟩ := h; rfl
      | pointer e => rcases h with rfl | ⟨_, rfl, _⟩ <;> rfl
      | slice e => obtain ⟨_, rfl, _⟩ := h; rfl
      | struct fs => rfl
      | array m e => rfl
      | _ => exact h.elim
def RelL (w : World) (cs : List Value) (xs : List AV) : Prop := xs.length = cs.length ∧ ∀ (j : Nat) (v : Value) (y : AV), cs[j]? = some v → xs[j]? = some y → v.oneCell' = true ∧ Rel (fun _ => False) w v y
theorem relL_one {w : World} {v : Value} {x : AV} (h1 : v.oneCell' = true) (h2 : Rel (fun _ => False) w v x) : RelL w [v] [x] := ⟨rfl, fun j v y hv hy => by
  cases j with
  | zero =>
    simp only [List.getElem?_cons_zero, Option.some.injEq] at hv hy
    rw [← hv, ← hy]
    exact ⟨h1, h2⟩
  | succ j => simp at hv⟩
theorem relL_app {w : World} {cs ds : List Value} {xs ys : List AV} (h : RelL w cs xs) (h' : RelL w ds ys) : RelL w (cs ++ ds) (xs ++ ys) := by
  refine ⟨by simp [h.1, h'.1], fun j v y hv hy => ?_⟩
  by_cases hj : j < cs.length
  · rw [List.getElem?_append_left hj] at hv
    rw [List.getElem?_append_left (by rw [h.1]; exact hj)] at hy
    exact h.2 j v y hv hy
  · rw [List.getElem?_append_right (by omega)] at hv
    rw [List.getElem?_append_right (by rw [h.1]; omega), h.1] at hy
    exact h'.2 _ v y hv hy
theorem glue {w : World} {cs : List Value} : ∀ (ls : List Nat) (ys : List (List AV)) (acc : Nat), ys.length = ls.length → acc + ls.sum ≤ cs.length →
    (∀ (i c : Nat) (y : List AV), ls[i]? = some c → ys[i]? = some y → RelL w ((cs.drop (acc + (ls.take i).sum)).take c) y) → RelL w ((cs.drop acc).take ls.sum) ys.flatten
  | [], [], acc, _, _, _ => ⟨by simp, fun j v y hv => by simp at hv⟩
  | c :: ls, y :: ys, acc, hl, hs, h => by
    simp only [List.sum_cons] at hs
    have h0 := h 0 c y rfl rfl
    simp only [List.take_zero, List.sum_nil, Nat.add_zero] at h0
    have h1 := glue (w := w) (cs := cs) ls ys (acc + c) (by simpa using hl) (by omega) (fun i c' y' hi hy => by
      have := h (i + 1) c' y' (by simpa using hi) (by simpa using hy)
      simpa [Nat.add_assoc] using this)
    have := relL_app h0 h1
    rw [List.flatten_cons, List.sum_cons]
    rw [show (cs.drop acc).take (c + ls.sum) = (cs.drop acc).take c ++ (cs.drop (acc + c)).take ls.sum by rw [List.take_add, List.drop_drop]]
    exact this
theorem reach_sum (P : Program) : ∀ (fs : List Field) (acc n : Nat), reach P fs acc = some n → n = acc + (fs.map fun f => P.cellsOf f.type).sum ∧ ∀ (i : Nat) (f : Field), fs[i]? = some f → f.offset = acc + ((fs.map fun f => P.cellsOf f.type).take i).sum
  | [], acc, n, h => by
    simp only [reach, Option.some.injEq] at h
    exact ⟨by simp [h], fun i f hf => by simp at hf⟩
  | f :: fs, acc, n, h => by
    simp only [reach] at h
    split at h
    · rename_i he
      obtain ⟨h1, h2⟩ := reach_sum P fs _ n h
      refine ⟨by simp [h1, Nat.add_assoc], fun i g hg => ?_⟩
      cases i with
      | zero => simp at hg; subst hg; simpa using he
      | succ i =>
        have := h2 i g (by simpa using hg)
        simp [this, Nat.add_assoc]
    · cases h
theorem exists_list {β : Type} (p : Nat → β → Prop) : ∀ n, (∀ i, i < n → ∃ y, p i y) → ∃ l : List β, l.length = n ∧ ∀ (i : Nat) (y : β), l[i]? = some y → p i y
  | 0, _ => ⟨[], rfl, fun i y h => by simp at h⟩
  | n + 1, h => by
    obtain ⟨l, hl, hp⟩ := exists_list p n (fun i hi => h i (by omega))
    obtain ⟨y, hy⟩ := h n (by omega)
    refine ⟨l ++ [y], by simp [hl], fun i z hz => ?_⟩
    by_cases hi : i < n
    · rw [List.getElem?_append_left (by omega)] at hz
      exact hp i z hz
    · rw [List.getElem?_append_right (by omega)] at hz
      have hi' : i - l.length = 0 := by
        have := (List.getElem?_eq_some_iff.1 hz).1
        simp at this
        omega
      rw [hi'] at hz
      simp at hz
      rw [show i = n by omega, ← hz]
      exact hy
section
variable {H : Type} {enc : TypeId × Value → H} {P : Program} {w : World} {sp : Nat → Bool}
theorem cells_get {a : Addr} {n : Nat} {cs : List Value} (h : w.cells? 0 a n = some cs) : cs.length = n ∧ ∀ (i : Nat) (v : Value), cs[i]? = some v → w.cell? (a.add i) = some v := by
  unfold World.cells? at h
  rw [if_pos (Nat.zero_le _)] at h
  have hl : cs.length = n := by simpa using mapM_some_length h
  refine ⟨hl, fun i v hv => ?_⟩
  have hi : i < n := by rw [← hl]; exact (List.getElem?_eq_some_iff.1 hv).1
  have := mapM_some_get h i i (by simp [hi])
  rw [this]
  exact hv
theorem cell_spot {a : Addr} {v : Value} (h : w.cell? a = some v) : a.spot = none ∧ a.block < w.heap.size := by
  unfold World.cell? at h
  cases hb : w.heap[a.block]? with
  | none => simp [hb] at h
  | some o =>
    refine ⟨?_, (Array.getElem?_eq_some_iff.1 hb).1⟩
    cases o <;> simp [hb] at h
    cases hs : a.spot with
    | none => rfl
    | some _ => simp [hs] at h
theorem add_plain {a : Addr} (h : a.spot = none) (i : Nat) : a.add i = ⟨a.block, a.off + i, none⟩ := by
  unfold Addr.add
  split
  · rename_i h0
    subst h0
    cases a
    simp at h
    simp [h]
  · rfl
theorem trod_sh (hl : lays P = true) {S : List TypeId} (hS : okS P S = true) : ∀ (n : Nat) (t : TypeId) (cs : List Value) (x : DataW H × List MemPlace), t ∈ S → DataW.trod enc P w 0 sp true n t cs = some x → ∃ xs, Sh P n t xs ∧ RelL w cs xs ∧ BulkOk P t xs x.1 := by
  intro k
  induction k with
  | zero => intro t cs x _ h; simp [DataW.trod] at h
  | succ k ih =>
    intro t cs x hin h
    have hok := List.all_eq_true.1 hS t hin
    simp only [okOne, Bool.and_eq_true, decide_eq_true_eq] at hok
    obtain ⟨ht, hok⟩ := hok
    cases hu : P.underlying t with
    | none => simp [hu] at hok
    | some d =>
      rw [hu] at hok
      have hla := lays_at hl ht hu
      cases d with
      | bool =>
        obtain ⟨b, rfl, rfl⟩ := DataW.trod_bool hu h
        exact ⟨[.bool b], by simp [Sh, hu], relL_one rfl (.bool b), bulkOk_one (by simp [argAV, hu]) (fun B => by rw [bulk_bool]; exact B.one _)⟩
      | int q =>
        obtain ⟨i, rfl, rfl, hw⟩ := DataW.trod_int hu h
        exact ⟨[.int q i], by simp [Sh, hu, hw], relL_one rfl (.int q i), bulkOk_one (by simp [argAV, hu]) (fun B => by rw [bulk_int]; exact B.one _)⟩
      | string =>
        obtain ⟨s, rfl, rfl, hs⟩ := DataW.trod_string hu h
        refine ⟨[.str s.data.toList], by simp only [Sh, hu]; exact ⟨_, rfl, hs⟩, relL_one rfl ?_, bulkOk_one (by simp [argAV, hu]) (fun B => by rw [bulk_str, B.str]; exact Nat.le_refl _)⟩
        have := Rel.str (F := fun _ => False) (w := w) s.data.toList
        simpa using this
      | pointer e =>
        rcases DataW.trod_pointer hu h with ⟨rfl, rfl⟩ | ⟨a, cs', y, n', hn', rfl, rfl, hc, hy⟩
        · exact ⟨[.lit (.pointer none)], by simp [Sh, hu], relL_one rfl (.lit _), bulkOk_one (by simp [argAV, hu]) (fun B => by rw [bulk_lit]; exact B.one _)⟩
        · simp only [Bool.and_eq_true, decide_eq_true_eq] at hok
          obtain rfl : k = n' := by omega
          obtain ⟨ys, h1, h2, hbk⟩ := ih e cs' y (List.contains_iff_mem.1 hok.2) hy
          obtain ⟨hcl, hcell⟩ := cells_get hc
          obtain ⟨hsp, hlt⟩ := cell_spot (a := a) (v := cs'[0]'(by omega)) (by
            have := hcell 0 _ (List.getElem?_eq_getElem (by omega))
            simpa [Addr.add] using this)
          have hz : ∀ (j : Nat) (z : AV), ys[j]? = some z → ∃ v, w.cell? ⟨a.block, a.off + j, none⟩ = some v ∧ v.oneCell' = true ∧ Rel (fun _ => False) w v z := fun j z hj => by
            have hlt : j < cs'.length := by rw [← h2.1]; exact (List.getElem?_eq_some_iff.1 hj).1
            have hv := List.getElem?_eq_getElem hlt
            have := hcell j _ hv
            rw [add_plain hsp] at this
            exact ⟨_, this, h2.2 j _ z hv hj⟩
          have ha : a = ⟨a.block, a.off, none⟩ := by cases a; simp at hsp; simp [hsp]
          refine ⟨[.ref ys], by simp only [Sh, hu]; exact .inr ⟨ys, rfl, h1⟩, relL_one rfl ?_, bulkOk_one (by simp [argAV, hu]) (fun B => by rw [bulk_ref, B.ptr]; have := (hbk B).1; omega)⟩
          rw [ha]
          refine .ref a.block a.off ys (fun j => (w.cell? ⟨a.block, a.off + j, none⟩).getD undef) (fun f => f) hlt (fun j z hj => ?_) (fun j z hj => ?_) (fun j z hj => ?_)
          · obtain ⟨v, h3, _⟩ := hz j z hj
            simp [h3]
          · obtain ⟨v, h3, h4, _⟩ := hz j z hj
            simpa [h3] using h4
          · obtain ⟨v, h3, _, h5⟩ := hz j z hj
            simpa [h3] using h5
      | slice e =>
        rcases DataW.trod_slice hu h with ⟨rfl, rfl⟩ | ⟨a, len, cap, elems, rest, n', hn', rfl, rfl, _, hlc, hcm, hel, hE, _⟩
        · exact ⟨[.sl []], by simp only [Sh, hu]; exact ⟨[], rfl, by simp, by simp⟩, relL_one rfl .slnil, bulkOk_one (by simp [argAV, hu]) (fun B => by rw [bulk_sl]; simpa [bulkL] using B.one _)⟩
        · simp only [laysT, Bool.and_eq_true, decide_eq_true_eq] at hla
          obtain rfl : k = n' := by omega
          have hok := List.contains_iff_mem.1 hok
          obtain ⟨ys, hyl, hyp⟩ := exists_list (fun i ys => Sh P k e ys ∧ ∃ cs', w.cells? 0 (a.add (i * P.cellsOf e)) (P.cellsOf e) = some cs' ∧ RelL w cs' ys ∧ ∀ p, elems[i]? = some p → BulkOk P e ys p.1) len (fun i hi => by
            have hx : elems[i]? = some elems[i] := List.getElem?_eq_getElem (by omega)
            have := hE i hi
            rw [hx] at this
            obtain ⟨cs', hc, hy⟩ := Option.bind_eq_some_iff.1 this
            obtain ⟨ys, h1, h2, h3⟩ := ih e cs' _ hok hy
            exact ⟨ys, h1, cs', hc, h2, fun p hp => by rw [hx] at hp; cases hp; exact h3⟩)
          have hmem : ∀ y, y ∈ ys → Sh P k e y := fun y hy => by
            obtain ⟨i, hi⟩ := List.getElem?_of_mem hy
            exact (hyp i y hi).1
          refine ⟨[.sl (ys.map (argAV P e))], by simp only [Sh, hu]; exact ⟨ys, rfl, by omega, hmem⟩, relL_one rfl ?_, bulkOk_one (by simp [argAV, hu]) (fun B => by
            rw [bulk_sl, B.slice]
            have := bulk_map B (argAV P e) ys elems (by omega) (fun i y p hy hp => by
              obtain ⟨_, _, _, _, hb⟩ := hyp i y hy
              exact ((hb p hp) B).2)
            omega)⟩
          · by_cases h0 : len = 0
            · subst h0
              have : ys = [] := List.length_eq_zero_iff.1 hyl
              subst this
              exact .sl0 a cap
            · obtain ⟨y0, hy0⟩ : ∃ y, ys[0]? = some y := ⟨ys[0]'(by omega), List.getElem?_eq_getElem (by omega)⟩
              obtain ⟨_, c0, hc0, hr0, _⟩ := hyp 0 y0 hy0
              obtain ⟨hl0, hg0⟩ := cells_get hc0
              obtain ⟨hsp, hlt⟩ := cell_spot (a := a) (v := c0[0]'(by omega)) (by
                have := hg0 0 _ (List.getElem?_eq_getElem (by omega))
                simpa [Addr.add] using this)
              have hz : ∀ (i : Nat) (y : List AV) (j : Nat) (z : AV), ys[i]? = some y → y[j]? = some z → ∃ v, w.cell? ⟨a.block, a.off + (i * P.cellsOf e + j), none⟩ = some v ∧ v.oneCell' = true ∧ Rel (fun _ => False) w v z := fun i y j z hi hj => by
                obtain ⟨_, c1, hc1, hr1, _⟩ := hyp i y hi
                obtain ⟨hl1, hg1⟩ := cells_get hc1
                have hlt : j < c1.length := by rw [← hr1.1]; exact (List.getElem?_eq_some_iff.1 hj).1
                have hv := List.getElem?_eq_getElem hlt
                have := hg1 j _ hv
                rw [add_plain hsp, add_plain rfl] at this
                simp only [Nat.add_assoc] at this
                exact ⟨_, this, hr1.2 j _ z hv hj⟩
              have hget : ∀ (i : Nat) (x : AV), (ys.map (argAV P e))[i]? = some x → ∃ y, ys[i]? = some y ∧ x = argAV P e y := fun i x hx => by
                rw [List.getElem?_map] at hx
                obtain ⟨y, h1, h2⟩ := Option.map_eq_some_iff.1 hx
                exact ⟨y, h1, h2.symm⟩
              have ha : a = ⟨a.block, a.off, none⟩ := by cases a; simp at hsp; simp [hsp]
              rw [ha]
              refine .sl a.block a.off len cap (P.cellsOf e) _ (fun j => (w.cell? ⟨a.block, a.off + j, none⟩).getD undef) (fun f => f) hlt (by simp [hyl]) hlc (fun i x hx => ?_) (fun i x j z hx hj => ?_) (fun i x j z hx hj => ?_) (fun i x j z hx hj => ?_)
              · obtain ⟨y, hy, rfl⟩ := hget i x hx
                obtain ⟨hsh, c1, hc1, hr1, _⟩ := hyp i y hy
                rw [argAV_cells hsh, hr1.1, (cells_get hc1).1]
              · obtain ⟨y, hy, rfl⟩ := hget i x hx
                rw [argAV_cells (hyp i y hy).1] at hj
                obtain ⟨v, h3, _⟩ := hz i y j z hy hj
                rw [Nat.add_assoc, h3]
                simp [h3]
              · obtain ⟨y, hy, rfl⟩ := hget i x hx
                rw [argAV_cells (hyp i y hy).1] at hj
                obtain ⟨v, h3, h4, _⟩ := hz i y j z hy hj
                simpa [h3] using h4
              · obtain ⟨y, hy, rfl⟩ := hget i x hx
                rw [argAV_cells (hyp i y hy).1] at hj
                obtain ⟨v, h3, _, h5⟩ := hz i y j z hy hj
                simpa [h3] using h5
      | struct fs =>
        simp only [List.all_eq_true] at hok
        obtain ⟨ps, n', hn', rfl, hcl, hpl, hf⟩ := DataW.trod_struct hu h
        obtain rfl : k = n' := by omega
        simp only [laysT, Bool.and_eq_true, beq_iff_eq] at hla
        obtain ⟨hsum, hoff⟩ := reach_sum P fs.toList 0 _ hla.2
        obtain ⟨ys, hyl, hyp⟩ := exists_list (fun i ys => ∀ f, fs[i]? = some f → Sh P k f.type ys ∧ RelL w ((cs.drop f.offset).take (P.cellsOf f.type)) ys ∧ ∀ p, ps[i]? = some p → BulkOk P f.type ys p.1) fs.size (fun i hi => by
          have hfi : fs[i]? = some fs[i] := Array.getElem?_eq_getElem hi
          have hx : ps[i]? = some ps[i] := List.getElem?_eq_getElem (by omega)
          have := hf i _ hfi
          rw [hx] at this
          obtain ⟨ys, h1, h2, h3⟩ := ih _ _ _ (List.contains_iff_mem.1 (hok fs[i] (by simp))) this
          exact ⟨ys, fun f hff => by rw [hfi] at hff; cases hff; exact ⟨h1, h2, fun p hp => by rw [hx] at hp; cases hp; exact h3⟩⟩)
        have hbk : ∀ B : Bulk H, bulkL ys.flatten ≤ B.l (ps.map (·.1)) := fun B => bulk_flat B ys ps (by omega) (fun i y p hy hp => by
          have hi : i < fs.size := by have := (List.getElem?_eq_some_iff.1 hy).1; omega
          exact (((hyp i y hy fs[i] (Array.getElem?_eq_getElem hi)).2.2 p hp) B).1)
        refine ⟨ys.flatten, by simp only [Sh, hu]; exact ⟨ys, rfl, hyl, fun i f y hfi hy => (hyp i y hy f hfi).1⟩, ?_, fun B => by
          have := hbk B
          simp only [argAV, hu, bulk_agg, B.agg]
          omega⟩
        have hg := glue (w := w) (cs := cs) (fs.toList.map fun f => P.cellsOf f.type) ys 0 (by simp [hyl]) (by omega) (fun i c y hi hy => by
          rw [List.getElem?_map] at hi
          cases hfi : fs.toList[i]? with
          | none => simp [hfi] at hi
          | some f =>
            simp only [hfi, Option.map_some, Option.some.injEq] at hi
            rw [← hoff i f hfi, ← hi]
            exact (hyp i y hy f (by simpa using hfi)).2.1)
        rw [List.drop_zero, List.take_of_length_le (by omega)] at hg
        exact hg
      | array m e =>
        simp only [laysT, Bool.and_eq_true, decide_eq_true_eq, beq_iff_eq] at hla
        obtain ⟨ps, n', hn', rfl, hcl, hpl, hE⟩ := DataW.trod_array hu h
        obtain rfl : k = n' := by omega
        have hok := List.contains_iff_mem.1 hok
        obtain ⟨ys, hyl, hyp⟩ := exists_list (fun i ys => Sh P k e ys ∧ RelL w ((cs.drop (i * P.cellsOf e)).take (P.cellsOf e)) ys ∧ ∀ p, ps[i]? = some p → BulkOk P e ys p.1) m (fun i hi => by
          have := hE i hi
          have hx : ps[i]? = some ps[i] := List.getElem?_eq_getElem (by omega)
          rw [hx] at this
          obtain ⟨ys, h1, h2, h3⟩ := ih e _ _ hok this
          exact ⟨ys, h1, h2, fun p hp => by rw [hx] at hp; cases hp; exact h3⟩)
        have hmem : ∀ y, y ∈ ys → Sh P k e y := fun y hy => by
          obtain ⟨i, hi⟩ := List.getElem?_of_mem hy
          exact (hyp i y hi).1
        have hbk : ∀ B : Bulk H, bulkL ys.flatten ≤ B.l (ps.map (·.1)) := fun B => bulk_flat B ys ps (by omega) (fun i y p hy hp => (((hyp i y hy).2.2 p hp) B).1)
        refine ⟨ys.flatten, by simp only [Sh, hu]; exact ⟨ys, rfl, hyl, hmem⟩, ?_, fun B => by
          have := hbk B
          simp only [argAV, hu, bulk_agg, B.agg]
          omega⟩
        · have hg := glue (w := w) (cs := cs) (List.replicate m (P.cellsOf e)) ys 0 (by simp [hyl]) (by simp; omega) (fun i c y hi hy => by
            have him : i < m := by have := (List.getElem?_eq_some_iff.1 hi).1; simpa using this
            have hc : c = P.cellsOf e := by
              rw [List.getElem?_replicate, if_pos him] at hi
              exact (Option.some.inj hi).symm
            rw [List.take_replicate, List.sum_replicate_nat, Nat.min_eq_left (by omega), hc, Nat.zero_add]
            exact (hyp i y hy).2.1)
          rw [List.drop_zero, List.sum_replicate_nat, List.take_of_length_le (by omega)] at hg
          exact hg
      | _ => simp at hok
theorem cell_one {t : TypeId} {v : Value} {r : Reach} {base : Nat} (h : Cell.okWide P w r base t v) : v.oneCell' = true := by
  cases v with
  | agg cs =>
    unfold Cell.okWide Cell.ok at h
    cases hu : P.underlying t with
    | none => simp [hu] at h
    | some d => cases d <;> simp [hu] at h
  | tuple cs =>
    unfold Cell.okWide Cell.ok at h
    cases hu : P.underlying t with
    | none => simp [hu] at h
    | some d => cases d <;> simp [hu] at h
  | _ => rfl
theorem arg_rel {t : TypeId} {v : Value} {xs : List AV} {r : Reach} {base : Nat} (hval : Value.okWide P w r base t v) (h : RelL w v.cells.toList xs) : Rel (fun _ => False) w v (argAV P t xs) := by
  unfold Value.okWide at hval
  unfold argAV
  have one : v.oneCell' = true → Rel (fun _ => False) w v (xs.headD .any) := fun h1 => by
    have hc : v.cells = #[v] := by cases v <;> first | rfl | cases h1
    rw [hc] at h
    obtain ⟨hl, hr⟩ := h
    obtain ⟨x, rfl⟩ := List.length_eq_one_iff.1 (show xs.length = 1 by simpa using hl)
    exact (hr 0 v x rfl rfl).2
  split at hval
  · rename_i fs hu
    obtain ⟨cs, rfl, _⟩ := hval
    rw [hu]
    exact .agg cs xs (by simpa [Value.cells] using h.1.symm) (fun j u hj => by
      have hlt := (Array.getElem?_eq_some_iff.1 hj).1
      have hx : xs[j]? = some (xs[j]'(by rw [h.1]; simpa [Value.cells] using hlt)) := List.getElem?_eq_getElem _
      exact (h.2 j u _ (by simpa [Value.cells] using hj) hx).1) (fun j u y hj hy => (h.2 j u y (by simpa [Value.cells] using hj) hy).2)
  · rename_i m e hu
    obtain ⟨cs, rfl, _⟩ := hval
    rw [hu]
    exact .agg cs xs (by simpa [Value.cells] using h.1.symm) (fun j u hj => by
      have hlt := (Array.getElem?_eq_some_iff.1 hj).1
      have hx : xs[j]? = some (xs[j]'(by rw [h.1]; simpa [Value.cells] using hlt)) := List.getElem?_eq_getElem _
      exact (h.2 j u _ (by simpa [Value.cells] using hj) hx).1) (fun j u y hj hy => (h.2 j u y (by simpa [Value.cells] using hj) hy).2)
  · rename_i h1 h2
    have : (match P.underlying t with | some (.struct _) | some (.array _ _) => AV.agg xs | _ => xs.headD .any) = xs.headD .any := by
      split
      · rename_i hu; exact absurd hu (h1 _)
      · rename_i hu; exact absurd hu (h2 _ _)
      · rfl
    rw [this]
    exact one (cell_one hval)
inductive Args (P : Program) : List TypeId → List AV → Prop
  | nil : Args P [] []
  | cons (t : TypeId) (ts : List TypeId) (xs : List AV) (ar : List AV) (n : Nat) (h : Sh P n t xs) (hr : Args P ts ar) : Args P (t :: ts) (argAV P t xs :: ar)
theorem args_of (hl : lays P = true) {S : List TypeId} (hS : okS P S = true) {r : Reach} {base : Nat} : ∀ (ts : List TypeId) (vs : List Value) (ds : List (DataW H)) (ps : List MemPlace), (∀ t ∈ ts, t ∈ S) → DataW.TrodAll enc P w 0 sp true ts vs ds ps →
    (∀ (j : Nat) t v, ts[j]? = some t → vs[j]? = some v → Value.okWide P w r base t v) → ∃ ar, Args P ts ar ∧ (∀ B : Bulk H, bulkL ar ≤ B.l ds) ∧ vs.length = ar.length ∧ ∀ (j : Nat) (v : Value) (y : AV), vs[j]? = some v → ar[j]? = some y → Rel (fun _ => False) w v y
  | [], vs, ds, ps, _, h, _ => by
    obtain ⟨rfl, rfl, rfl⟩ := trodAll_nil h
    exact ⟨[], .nil, fun B => by simp [bulkL], rfl, fun j v y hv => by simp at hv⟩
  | t :: ts, vs, ds, ps, hok, h, hval => by
    obtain ⟨v, vs', d, ds', p, q, rfl, rfl, rfl, ⟨n, h1⟩, h2⟩ := trodAll_cons h
    obtain ⟨xs, hx, hr, hb⟩ := trod_sh hl hS n t _ _ (hok t (List.mem_cons_self ..)) h1
    obtain ⟨ar, ha, hba, hal, har⟩ := args_of hl hS ts vs' ds' q (fun u hu => hok u (List.mem_cons_of_mem _ hu)) h2 (fun j u z hu hz => hval (j + 1) u z (by simpa using hu) (by simpa using hz))
    refine ⟨argAV P t xs :: ar, .cons t ts xs ar n hx ha, fun B => by rw [B.cons, bulkL]; have := hba B; have := (hb B).2; simp only at this; omega, by simp [hal], fun j u y hu hy => ?_⟩
    cases j with
    | zero =>
      simp only [List.getElem?_cons_zero, Option.some.injEq] at hu hy
      rw [← hu, ← hy]
      exact arg_rel (hval 0 t v rfl rfl) hr
    | succ j => exact har j u y (by simpa using hu) (by simpa using hy)
end
end Go.Aw
namespace Go.Aw
open Go.WideShapes Go.ChangeShapes Go.RowKit
section
variable {H : Type} {enc : TypeId × Value → H} {P : Program}
theorem law_contract {f : Func} {fid : FuncId} {s : ChangeSpec} {tb : TypeId} {S : List TypeId} (hl : lays P = true) (hS : okS P S = true) (hts : f.params.toList.all (fun t => S.contains t) = true) (hvars : s.vars = [])
    (hfn : ∀ ds : List (DataW H), ds.length = f.params.size → s.fn H ds = { results := [.lit (.bool true)], args := ds }) (hres : f.resultTypes = #[tb]) (hub : P.underlying tb = some .bool)
    (W : World) (base : Nat) (args : Array Value) (ds gs : List (DataW H)) (before : List MemPlace) (law : ∀ ar, Args P f.params.toList ar → (∀ B : Bulk H, bulkL ar ≤ B.l (ds ++ gs)) → PureC P fid ar (.bool true))
    (hval : ∀ (j : Nat) t v, f.params[j]? = some t → args[j]? = some v → Value.okWide P W .any base t v)
    (hW : DataW.Whole enc P f.params.toList s.vars false W args.toList ds gs before) :
    Calls P fid args W fun e W' => ∃ v, e = .returned v ∧ s.post enc P f false true false false W args v W' := by
  have hW' := hW
  obtain ⟨p, q, hA, hV, rfl, hfz, hnd⟩ := hW
  rw [hvars] at hV
  obtain ⟨rfl, rfl⟩ := trodVars_none hV
  simp only [List.append_nil] at hW' hfz hnd
  have hok : ∀ t ∈ f.params.toList, t ∈ S := fun t ht => List.contains_iff_mem.1 (List.all_eq_true.1 hts t ht)
  obtain ⟨ar, hargs, hbk, hal, har⟩ := args_of hl hS f.params.toList args.toList ds p hok hA (fun j t v ht hv => hval j t v (by simpa using ht) (by simpa using hv))
  have hlt : ∀ t ∈ f.params.toList, t < P.types.size := fun t ht => by
    have := List.all_eq_true.1 hS t (hok t ht)
    simp only [okOne, Bool.and_eq_true, decide_eq_true_eq] at this
    exact this.1
  have hdl : ds.length = f.params.size := by
    have : ∀ (ts : List TypeId) (vs : List Value) (ds : List (DataW H)) (ps : List MemPlace), DataW.TrodAll enc P W 0 (fun _ => true) true ts vs ds ps → ds.length = ts.length := by
      intro ts
      induction ts with
      | nil => intro vs ds ps h; obtain ⟨_, rfl, _⟩ := trodAll_nil h; rfl
      | cons t ts ih =>
        intro vs ds ps h
        obtain ⟨_, _, _, _, _, _, _, rfl, _, _, h2⟩ := trodAll_cons h
        simp [ih _ _ _ h2]
    simpa using this _ _ _ _ hA
  refine (law ar hargs (fun B => by simpa using hbk B) (fun _ => False) args W (by simpa using hal) (fun j v y hv hy => (har j v y (by simpa using hv) hy).mono (Grow.refl _ _) (fun b _ hb => hb.elim (fun f => f) (fun h => by simp [Own.has] at h))) ⟨fun e he => by simp at he, List.nodup_nil, fun b hb => by simp [Own.has] at hb, fun b hb => hb.elim⟩).mono ?_
  rintro e W' ⟨r, own', ⟨rfl, rfl⟩, ⟨v, rfl, hv⟩, _, hg, _⟩
  cases hv
  have hb : Below W.heap.size W W' := ⟨hg.os, hg.tape, hg.out, hg.sz, fun b hb => hg.same b hb (fun h => by simp [Own.has] at h)⟩
  have hps : ∀ x ∈ p, x.block < W.heap.size := fun x hx => hW'.lt x hx
  have again : ∀ sp : Nat → Bool, (∀ x ∈ p, sp x.block = true) → DataW.TrodAll enc P W' 0 sp true f.params.toList args.toList ds p := fun sp hsp =>
    all_spare hl _ _ _ _ hlt hA hsp (fun x hx => hb.same (hps x hx))
  have hfn' := hfn ds hdl
  have res : ∀ (b : Nat) (sp : Nat → Bool) (hd : Bool), DataW.TrodAll enc P W' b sp hd f.resultTypes.toList ((Value.bool true).resultList f.resultTypes.size) (s.fn H (ds ++ [])).results [] := fun b sp hd => by
    rw [List.append_nil, hfn', hres]
    exact trodAll_cons_mk (shut_bool hub true) trodAll_mk0
  have arg : ∀ sp : Nat → Bool, (∀ x ∈ p, sp x.block = true) → DataW.TrodAll enc P W' 0 sp true f.params.toList args.toList (s.fn H (ds ++ [])).args p := fun sp hsp => by
    rw [List.append_nil, hfn']
    exact again sp hsp
  have vr : ∀ sp : Nat → Bool, DataW.TrodVars enc P W' sp s.vars (s.fn H (ds ++ [])).vars [] := fun sp => by
    rw [hvars, List.append_nil, hfn']
    rfl
  refine ⟨_, rfl, ds, [], p, [], p, [], hW', res _ _ _, arg _ (fun x hx => by simpa using hps x hx), vr _, hb.frame _, fun _ => ?_⟩
  refine ⟨ok_one hres rfl (okWide_bool_mk hub _), _, _, ([] ++ p) ++ [], ⟨[] ++ p, [], trodAll_append (arg _ (fun _ _ => rfl)) (res _ _ _), vr _, rfl, ?_, ?_⟩, ?_⟩
  · intro b off hp
    have hp' : MemPlace.cell b off ∈ p := by simpa using hp
    rw [hb.frozen (p := ⟨b, off, none⟩) (hps _ hp')]
    exact hfz b off hp'
  · intro ha
    simpa using hnd ha
  · intro x hp _
    simpa using hp
end
end Go.Aw
namespace Go.Aw
section
variable {P : Program} {k : Nat} {t : TypeId} {xs : List AV}
theorem sh_string (hu : P.underlying t = some .string) (h : Sh P (k + 1) t xs) : ∃ l, xs = [.str l] ∧ l.length ≤ maxLen := by simpa only [Sh, hu] using h
theorem arg_string (hu : P.underlying t = some .string) {x : AV} : argAV P t [x] = x := by simp [argAV, hu]
theorem args_nil {ar : List AV} (h : Args P [] ar) : ar = [] := by cases h; rfl
theorem args_cons {ts : List TypeId} {ar : List AV} (h : Args P (t :: ts) ar) : ∃ xs ar' n, ar = argAV P t xs :: ar' ∧ Sh P n t xs ∧ Args P ts ar' := by
  cases h with
  | cons _ _ xs ar' n h hr => exact ⟨xs, ar', n, rfl, h, hr⟩
theorem sh_zero (h : Sh P 0 t xs) : False := h
end
end Go.Aw
set_option maxRecDepth 100000
namespace Go.Proofs.Lex
open Go.Aw
theorem rd9 : ∀ (n : Nat) (xs : List AV), Sh Tryd.prog n 9 xs → ∃ a : List UInt8, xs = [.str a] ∧ (List.length a ≤ 9223372036854775807) := by
  intro n xs h
  cases n with
  | zero => exact (sh_zero h).elim
  | succ n =>
    obtain ⟨a, rfl, w⟩ := sh_string Tryd.underlying9 h
    exact ⟨a, rfl, w⟩
end Go.Proofs.Lex
namespace Go.Proofs.Lex
open Go.Aw
theorem law3 (a0 : List UInt8) (o0 : List.length a0 ≤ 9223372036854775807) : PureC Tryd.prog 3 [.str a0] (.bool true) := c3 8388608 a0 true s3_true
end Go.Proofs.Lex
