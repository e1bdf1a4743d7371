/- From the contract of a law's function to the statement's post-condition. -/
import Derived.Test.YtkmnhomehejppaaAwShape
import Derived.ChangeSame
import Derived.RowKit
set_option linter.unusedSimpArgs false
set_option linter.unusedVariables false
set_option linter.deprecated false
namespace Go.Aw
open Go.WideShapes Go.ChangeShapes Go.RowKit

section
variable {H : Type} {enc : TypeId × Value → H} {P : Program}

theorem law_contract {f : Func} {fid : FuncId} {s : ChangeSpec} {tb : TypeId} {k : Nat} (hl : lays P = true) (hts : f.params.toList.all (fun t => okT P k t) = true) (hvars : s.vars = [])
    (hfn : ∀ ds : List (DataW H), ds.length = f.params.size → s.fn H ds = { results := [.lit (.bool true)], args := ds }) (hres : f.resultTypes = #[tb]) (hub : P.underlying tb = some .bool)
    (law : ∀ as, Args P k f.params.toList as → PureC P fid as (.bool true)) (W : World) (base : Nat) (args : Array Value) (ds gs : List (DataW H)) (before : List MemPlace)
    (hval : ∀ (j : Nat) t v, f.params[j]? = some t → args[j]? = some v → Value.okWide P W .any base t v)
    (hW : DataW.Whole enc P f.params.toList s.vars false W args.toList ds gs before) :
    Calls P fid args W fun e W' => ∃ v, e = .returned v ∧ s.post enc P f false true false false W args v W' := by
  have hW' := hW
  obtain ⟨p, q, hA, hV, rfl, hfz, hnd⟩ := hW
  rw [hvars] at hV
  obtain ⟨rfl, rfl⟩ := trodVars_none hV
  simp only [List.append_nil] at hW' hfz hnd
  have hok : ∀ t ∈ f.params.toList, okT P k t = true := List.all_eq_true.1 hts
  obtain ⟨as, hargs, hal, har⟩ := args_of hl k f.params.toList args.toList ds p hok hA (fun j t v ht hv => hval j t v (by simpa using ht) (by simpa using hv))
  have hlt : ∀ t ∈ f.params.toList, t < P.types.size := fun t ht => by
    have := hok t ht
    cases k with
    | zero => simp [okT] at this
    | succ k =>
      simp only [okT, Bool.and_eq_true, decide_eq_true_eq] at this
      exact this.1
  have hdl : ds.length = f.params.size := by
    have : ∀ (ts : List TypeId) (vs : List Value) (ds : List (DataW H)) (ps : List MemPlace), DataW.TrodAll enc P W 0 (fun _ => true) true ts vs ds ps → ds.length = ts.length := by
      intro ts
      induction ts with
      | nil => intro vs ds ps h; obtain ⟨_, rfl, _⟩ := trodAll_nil h; rfl
      | cons t ts ih =>
        intro vs ds ps h
        obtain ⟨_, _, _, _, _, _, _, rfl, _, _, h2⟩ := trodAll_cons h
        simp [ih _ _ _ h2]
    simpa using this _ _ _ _ hA
  refine (law as hargs (fun _ => False) args W (by simpa using hal) (fun j v y hv hy => (har j v y (by simpa using hv) hy).mono (Grow.refl _ _) (fun b _ hb => hb.elim (fun f => f) (fun h => by simp [Own.has] at h))) ⟨fun e he => by simp at he, List.nodup_nil, fun b hb => by simp [Own.has] at hb, fun b hb => hb.elim⟩).mono ?_
  rintro e W' ⟨r, own', ⟨rfl, rfl⟩, ⟨v, rfl, hv⟩, _, hg, _⟩
  cases hv
  have hb : Below W.heap.size W W' := ⟨hg.os, hg.tape, hg.out, hg.sz, fun b hb => hg.same b hb (fun h => by simp [Own.has] at h)⟩
  have hps : ∀ x ∈ p, x.block < W.heap.size := fun x hx => hW'.lt x hx
  have again : ∀ sp : Nat → Bool, (∀ x ∈ p, sp x.block = true) → DataW.TrodAll enc P W' 0 sp true f.params.toList args.toList ds p := fun sp hsp =>
    all_spare hl _ _ _ _ hlt hA hsp (fun x hx => hb.same (hps x hx))
  have hfn' := hfn ds hdl
  have res : ∀ (b : Nat) (sp : Nat → Bool) (hd : Bool), DataW.TrodAll enc P W' b sp hd f.resultTypes.toList ((Value.bool true).resultList f.resultTypes.size) (s.fn H (ds ++ [])).results [] := fun b sp hd => by
    rw [List.append_nil, hfn', hres]
    exact trodAll_cons_mk (shut_bool hub true) trodAll_mk0
  have arg : ∀ sp : Nat → Bool, (∀ x ∈ p, sp x.block = true) → DataW.TrodAll enc P W' 0 sp true f.params.toList args.toList (s.fn H (ds ++ [])).args p := fun sp hsp => by
    rw [List.append_nil, hfn']
    exact again sp hsp
  have vr : ∀ sp : Nat → Bool, DataW.TrodVars enc P W' sp s.vars (s.fn H (ds ++ [])).vars [] := fun sp => by
    rw [hvars, List.append_nil, hfn']
    rfl
  refine ⟨_, rfl, ds, [], p, [], p, [], hW', res _ _ _, arg _ (fun x hx => by simpa using hps x hx), vr _, hb.frame _, fun _ => ?_⟩
  refine ⟨ok_one hres rfl (okWide_bool_mk hub _), _, _, ([] ++ p) ++ [], ⟨[] ++ p, [], trodAll_append (arg _ (fun _ _ => rfl)) (res _ _ _), vr _, rfl, ?_, ?_⟩, ?_⟩
  · intro b off hp
    have hp' : MemPlace.cell b off ∈ p := by simpa using hp
    rw [hb.frozen (p := ⟨b, off, none⟩) (hps _ hp')]
    exact hfz b off hp'
  · intro ha
    simpa using hnd ha
  · intro x hp _
    simpa using hp
end
end Go.Aw
namespace Go.Aw
section
variable {P : Program} {k : Nat} {t : TypeId} {xs : List AV}
theorem sh_int {q : IntKind} (hu : P.underlying t = some (.int q)) (h : Sh P (k + 1) t xs) : ∃ n, xs = [.int q n] ∧ (Lit.int q n).wf = true := by simpa only [Sh, hu] using h
theorem sh_bool (hu : P.underlying t = some .bool) (h : Sh P (k + 1) t xs) : ∃ b, xs = [.bool b] := by simpa only [Sh, hu] using h
theorem sh_string (hu : P.underlying t = some .string) (h : Sh P (k + 1) t xs) : ∃ l, xs = [.str l] ∧ l.length ≤ maxLen := by simpa only [Sh, hu] using h
theorem sh_slice {e : TypeId} (hu : P.underlying t = some (.slice e)) (h : Sh P (k + 1) t xs) : ∃ ys : List (List AV), xs = [.sl (ys.map .agg)] ∧ ys.length ≤ maxLen ∧ ∀ y, y ∈ ys → Sh P k e y := by simpa only [Sh, hu] using h
theorem sh_struct {fs : Array Field} (hu : P.underlying t = some (.struct fs)) (h : Sh P (k + 1) t xs) : ∃ ys : List (List AV), xs = ys.flatten ∧ ys.length = fs.size ∧ ∀ (i : Nat) (f : Field) (y : List AV), fs[i]? = some f → ys[i]? = some y → Sh P k f.type y := by simpa only [Sh, hu] using h
theorem sh_array {m : Nat} {e : TypeId} (hu : P.underlying t = some (.array m e)) (h : Sh P (k + 1) t xs) : ∃ ys : List (List AV), xs = ys.flatten ∧ ys.length = m ∧ ∀ y, y ∈ ys → Sh P k e y := by simpa only [Sh, hu] using h
theorem sh_struct2 {f0 f1 : Field} (hu : P.underlying t = some (.struct #[f0, f1])) (h : Sh P (k + 1) t xs) : ∃ y0 y1, xs = y0 ++ y1 ∧ Sh P k f0.type y0 ∧ Sh P k f1.type y1 := by
  obtain ⟨ys, rfl, hl, hy⟩ := sh_struct hu h
  match ys, hl with
  | [y0, y1], _ => exact ⟨y0, y1, by simp, hy 0 f0 y0 rfl rfl, hy 1 f1 y1 rfl rfl⟩

theorem arg_one (hu : ∀ fs, P.underlying t ≠ some (.struct fs)) (hu' : ∀ n e, P.underlying t ≠ some (.array n e)) {x : AV} : argAV P t [x] = x := by
  unfold argAV
  split
  · rename_i h; exact absurd h (hu _)
  · rename_i h; exact absurd h (hu' _ _)
  · rfl
theorem arg_int {q : IntKind} (hu : P.underlying t = some (.int q)) {x : AV} : argAV P t [x] = x := by simp [argAV, hu]
theorem arg_bool (hu : P.underlying t = some .bool) {x : AV} : argAV P t [x] = x := by simp [argAV, hu]
theorem arg_string (hu : P.underlying t = some .string) {x : AV} : argAV P t [x] = x := by simp [argAV, hu]
theorem arg_slice {e : TypeId} (hu : P.underlying t = some (.slice e)) {x : AV} : argAV P t [x] = x := by simp [argAV, hu]
theorem arg_struct {fs : Array Field} (hu : P.underlying t = some (.struct fs)) : argAV P t xs = .agg xs := by simp [argAV, hu]
theorem args_nil {as : List AV} (h : Args P k [] as) : as = [] := by cases h; rfl
theorem args_cons {ts : List TypeId} {as : List AV} (h : Args P k (t :: ts) as) : ∃ xs as', as = argAV P t xs :: as' ∧ Sh P k t xs ∧ Args P k ts as' := by
  cases h with
  | cons _ _ xs as' h hr => exact ⟨xs, as', rfl, h, hr⟩

/-- all of a list are of a form -/
theorem all_of {α : Type} {β : Type} (f : α → β) : ∀ (l : List β), (∀ y, y ∈ l → ∃ c, y = f c) → ∃ cs : List α, l = cs.map f
  | [], _ => ⟨[], rfl⟩
  | y :: l, h => by
    obtain ⟨c, hc⟩ := h y (List.mem_cons_self ..)
    obtain ⟨cs, hcs⟩ := all_of f l (fun z hz => h z (List.mem_cons_of_mem _ hz))
    exact ⟨c :: cs, by rw [hc, hcs]; rfl⟩
end
end Go.Aw
