/- For every argument, estoppellaw06.LexerGaps returns true and leaves its arguments as they were, where the listed package variables hold what the program's text lays into them. (Part 4 of what its proof rests on.) -/
import Derived.ChangeSame
import Derived.RowKit
import Derived.Test.YtjapnjlkhljhbaaDoorPc
set_option linter.unusedSimpArgs false
set_option linter.unusedVariables false
set_option linter.deprecated false
namespace Go.Aw
open Go.WideShapes Go.ChangeShapes Go.RowKit
section
variable {H : Type} {enc : TypeId × Value → H} {P : Program}
theorem law_contract {f : Func} {fid : FuncId} {s : ChangeSpec} {tb : TypeId} {S : List TypeId} (hl : lays P = true) (hS : okS P S = true) (hts : f.params.toList.all (fun t => S.contains t) = true) (hvars : s.vars = [])
    (hfn : ∀ ds : List (DataW H), ds.length = f.params.size → s.fn H ds = { results := [.lit (.bool true)], args := ds }) (hres : f.resultTypes = #[tb]) (hub : P.underlying tb = some .bool)
    (W : World) (base : Nat) (args : Array Value) (ds gs : List (DataW H)) (before : List MemPlace) (law : ∀ ar, Args P f.params.toList ar → (∀ B : Bulk H, bulkL ar ≤ B.l (ds ++ gs)) → PureC P fid ar (.bool true))
    (hval : ∀ (j : Nat) t v, f.params[j]? = some t → args[j]? = some v → Value.okWide P W .any base t v)
    (hW : DataW.Whole enc P f.params.toList s.vars false W args.toList ds gs before) :
    Calls P fid args W fun e W' => ∃ v, e = .returned v ∧ s.post enc P f false true false false W args v W' := by
  have hW' := hW
  obtain ⟨p, q, hA, hV, rfl, hfz, hnd⟩ := hW
  rw [hvars] at hV
  obtain ⟨rfl, rfl⟩ := trodVars_none hV
  simp only [List.append_nil] at hW' hfz hnd
  have hok : ∀ t ∈ f.params.toList, t ∈ S := fun t ht => List.contains_iff_mem.1 (List.all_eq_true.1 hts t ht)
  obtain ⟨ar, hargs, hbk, hal, har⟩ := args_of hl hS f.params.toList args.toList ds p hok hA (fun j t v ht hv => hval j t v (by simpa using ht) (by simpa using hv))
  have hlt : ∀ t ∈ f.params.toList, t < P.types.size := fun t ht => by
    have := List.all_eq_true.1 hS t (hok t ht)
    simp only [okOne, Bool.and_eq_true, decide_eq_true_eq] at this
    exact this.1
  have hdl : ds.length = f.params.size := by
    have : ∀ (ts : List TypeId) (vs : List Value) (ds : List (DataW H)) (ps : List MemPlace), DataW.TrodAll enc P W 0 (fun _ => true) true ts vs ds ps → ds.length = ts.length := by
      intro ts
      induction ts with
      | nil => intro vs ds ps h; obtain ⟨_, rfl, _⟩ := trodAll_nil h; rfl
      | cons t ts ih =>
        intro vs ds ps h
        obtain ⟨_, _, _, _, _, _, _, rfl, _, _, h2⟩ := trodAll_cons h
        simp [ih _ _ _ h2]
    simpa using this _ _ _ _ hA
  refine (law ar hargs (fun B => by simpa using hbk B) (fun _ => False) args W (by simpa using hal) (fun j v y hv hy => (har j v y (by simpa using hv) hy).mono (Grow.refl _ _) (fun b _ hb => hb.elim (fun f => f) (fun h => by simp [Own.has] at h))) ⟨fun e he => by simp at he, List.nodup_nil, fun b hb => by simp [Own.has] at hb, fun b hb => hb.elim⟩).mono ?_
  rintro e W' ⟨r, own', ⟨rfl, rfl⟩, ⟨v, rfl, hv⟩, _, hg, _⟩
  cases hv
  have hb : Below W.heap.size W W' := ⟨hg.os, hg.tape, hg.out, hg.sz, fun b hb => hg.same b hb (fun h => by simp [Own.has] at h)⟩
  have hps : ∀ x ∈ p, x.block < W.heap.size := fun x hx => hW'.lt x hx
  have again : ∀ sp : Nat → Bool, (∀ x ∈ p, sp x.block = true) → DataW.TrodAll enc P W' 0 sp true f.params.toList args.toList ds p := fun sp hsp =>
    all_spare hl _ _ _ _ hlt hA hsp (fun x hx => hb.same (hps x hx))
  have hfn' := hfn ds hdl
  have res : ∀ (b : Nat) (sp : Nat → Bool) (hd : Bool), DataW.TrodAll enc P W' b sp hd f.resultTypes.toList ((Value.bool true).resultList f.resultTypes.size) (s.fn H (ds ++ [])).results [] := fun b sp hd => by
    rw [List.append_nil, hfn', hres]
    exact trodAll_cons_mk (shut_bool hub true) trodAll_mk0
  have arg : ∀ sp : Nat → Bool, (∀ x ∈ p, sp x.block = true) → DataW.TrodAll enc P W' 0 sp true f.params.toList args.toList (s.fn H (ds ++ [])).args p := fun sp hsp => by
    rw [List.append_nil, hfn']
    exact again sp hsp
  have vr : ∀ sp : Nat → Bool, DataW.TrodVars enc P W' sp s.vars (s.fn H (ds ++ [])).vars [] := fun sp => by
    rw [hvars, List.append_nil, hfn']
    rfl
  refine ⟨_, rfl, ds, [], p, [], p, [], hW', res _ _ _, arg _ (fun x hx => by simpa using hps x hx), vr _, hb.frame _, fun _ => ?_⟩
  refine ⟨ok_one hres rfl (okWide_bool_mk hub _), _, _, ([] ++ p) ++ [], ⟨[] ++ p, [], trodAll_append (arg _ (fun _ _ => rfl)) (res _ _ _), vr _, rfl, ?_, ?_⟩, ?_⟩
  · intro b off hp
    have hp' : MemPlace.cell b off ∈ p := by simpa using hp
    rw [hb.frozen (p := ⟨b, off, none⟩) (hps _ hp')]
    exact hfz b off hp'
  · intro ha
    simpa using hnd ha
  · intro x hp _
    simpa using hp
end
end Go.Aw
namespace Go.Aw
section
variable {P : Program} {k : Nat} {t : TypeId} {xs : List AV}
theorem sh_int {q : IntKind} (hu : P.underlying t = some (.int q)) (h : Sh P (k + 1) t xs) : ∃ n, xs = [.int q n] ∧ (Lit.int q n).wf = true := by simpa only [Sh, hu] using h
theorem sh_string (hu : P.underlying t = some .string) (h : Sh P (k + 1) t xs) : ∃ l, xs = [.str l] ∧ l.length ≤ maxLen := by simpa only [Sh, hu] using h
theorem arg_int {q : IntKind} (hu : P.underlying t = some (.int q)) {x : AV} : argAV P t [x] = x := by simp [argAV, hu]
theorem arg_string (hu : P.underlying t = some .string) {x : AV} : argAV P t [x] = x := by simp [argAV, hu]
theorem args_nil {ar : List AV} (h : Args P [] ar) : ar = [] := by cases h; rfl
theorem args_cons {ts : List TypeId} {ar : List AV} (h : Args P (t :: ts) ar) : ∃ xs ar' n, ar = argAV P t xs :: ar' ∧ Sh P n t xs ∧ Args P ts ar' := by
  cases h with
  | cons _ _ xs ar' n h hr => exact ⟨xs, ar', n, rfl, h, hr⟩
theorem sh_zero (h : Sh P 0 t xs) : False := h
theorem rng_u16 {n : Int} (h : (Lit.int .u16 n).wf = true) : 0 ≤ n ∧ n ≤ 65535 := by simpa [Lit.wf, IntKind.min, IntKind.max, IntKind.signed, IntKind.bits] using h
end
end Go.Aw
set_option maxRecDepth 100000
namespace Go.Proofs.Lex
open Go.Aw
theorem rd9 : ∀ (n : Nat) (xs : List AV), Sh Tryd.prog n 9 xs → ∃ a : List UInt8, xs = [.str a] ∧ (List.length a ≤ 9223372036854775807) := by
  intro n xs h
  cases n with
  | zero => exact (sh_zero h).elim
  | succ n =>
    obtain ⟨a, rfl, w⟩ := sh_string Tryd.underlying9 h
    exact ⟨a, rfl, w⟩
theorem rd34 : ∀ (n : Nat) (xs : List AV), Sh Tryd.prog n 34 xs → ∃ a : Int, xs = [.int .u16 a] ∧ (0 ≤ a ∧ a ≤ 65535) := by
  intro n xs h
  cases n with
  | zero => exact (sh_zero h).elim
  | succ n =>
    obtain ⟨a, rfl, w⟩ := sh_int Tryd.underlying34 h
    exact ⟨a, rfl, rng_u16 w⟩
end Go.Proofs.Lex
namespace Go.Proofs.Lex
open Go.Aw
theorem law8 (a0 : List UInt8) (o0 : List.length a0 ≤ 9223372036854775807) (a1 : List UInt8) (o1 : List.length a1 ≤ 9223372036854775807) (a2 : Int) (o2 : 0 ≤ a2 ∧ a2 ≤ 65535) : PureC Tryd.prog 8 [.str a0, .str a1, .int .u16 a2] (.bool true) := c8 8388608 a0 a1 a2 true (s8_true o2.1 o2.2)
end Go.Proofs.Lex
