/- For every argument of bulk at most 1048576, estoppellaw09.IncludeParts returns true and leaves its arguments as they were. (Part 7 of what its proof rests on.) -/
import Derived.ChangeSame
import Derived.RowKit
import Derived.Test.YtpbhebjfblidlaaPf
set_option linter.unusedSimpArgs false
set_option linter.unusedVariables false
set_option linter.deprecated false
namespace Go.Aw
open Go.WideShapes Go.ChangeShapes Go.RowKit
section
variable {H : Type} {enc : TypeId × Value → H} {P : Program}
theorem law_contract {f : Func} {fid : FuncId} {s : ChangeSpec} {tb : TypeId} {S : List TypeId} (hl : lays P = true) (hS : okS P S = true) (hts : f.params.toList.all (fun t => S.contains t) = true) (hvars : s.vars = [])
    (hfn : ∀ ds : List (DataW H), ds.length = f.params.size → s.fn H ds = { results := [.lit (.bool true)], args := ds }) (hres : f.resultTypes = #[tb]) (hub : P.underlying tb = some .bool)
    (W : World) (base : Nat) (args : Array Value) (ds gs : List (DataW H)) (before : List MemPlace) (law : ∀ ar, Args P f.params.toList ar → (∀ B : Bulk H, bulkL ar ≤ B.l (ds ++ gs)) → PureC P fid ar (.bool true))
    (hval : ∀ (j : Nat) t v, f.params[j]? = some t → args[j]? = some v → Value.okWide P W .any base t v)
    (hW : DataW.Whole enc P f.params.toList s.vars false W args.toList ds gs before) :
    Calls P fid args W fun e W' => ∃ v, e = .returned v ∧ s.post enc P f false true false false W args v W' := by
  have hW' := hW
  obtain ⟨p, q, hA, hV, rfl, hfz, hnd⟩ := hW
  rw [hvars] at hV
  obtain ⟨rfl, rfl⟩ := trodVars_none hV
  simp only [List.append_nil] at hW' hfz hnd
  have hok : ∀ t ∈ f.params.toList, t ∈ S := fun t ht => List.contains_iff_mem.1 (List.all_eq_true.1 hts t ht)
  obtain ⟨ar, hargs, hbk, hal, har⟩ := args_of hl hS f.params.toList args.toList ds p hok hA (fun j t v ht hv => hval j t v (by simpa using ht) (by simpa using hv))
  have hlt : ∀ t ∈ f.params.toList, t < P.types.size := fun t ht => by
    have := List.all_eq_true.1 hS t (hok t ht)
    simp only [okOne, Bool.and_eq_true, decide_eq_true_eq] at this
    exact this.1
  have hdl : ds.length = f.params.size := by
    have : ∀ (ts : List TypeId) (vs : List Value) (ds : List (DataW H)) (ps : List MemPlace), DataW.TrodAll enc P W 0 (fun _ => true) true ts vs ds ps → ds.length = ts.length := by
      intro ts
      induction ts with
      | nil => intro vs ds ps h; obtain ⟨_, rfl, _⟩ := trodAll_nil h; rfl
      | cons t ts ih =>
        intro vs ds ps h
        obtain ⟨_, _, _, _, _, _, _, rfl, _, _, h2⟩ := trodAll_cons h
        simp [ih _ _ _ h2]
    simpa using this _ _ _ _ hA
  refine (law ar hargs (fun B => by simpa using hbk B) (fun _ => False) args W (by simpa using hal) (fun j v y hv hy => (har j v y (by simpa using hv) hy).mono (Grow.refl _ _) (fun b _ hb => hb.elim (fun f => f) (fun h => by simp [Own.has] at h))) ⟨fun e he => by simp at he, List.nodup_nil, fun b hb => by simp [Own.has] at hb, fun b hb => hb.elim⟩).mono ?_
  rintro e W' ⟨r, own', ⟨rfl, rfl⟩, ⟨v, rfl, hv⟩, _, hg, _⟩
  cases hv
  have hb : Below W.heap.size W W' := ⟨hg.os, hg.tape, hg.out, hg.sz, fun b hb => hg.same b hb (fun h => by simp [Own.has] at h)⟩
  have hps : ∀ x ∈ p, x.block < W.heap.size := fun x hx => hW'.lt x hx
  have again : ∀ sp : Nat → Bool, (∀ x ∈ p, sp x.block = true) → DataW.TrodAll enc P W' 0 sp true f.params.toList args.toList ds p := fun sp hsp =>
    all_spare hl _ _ _ _ hlt hA hsp (fun x hx => hb.same (hps x hx))
  have hfn' := hfn ds hdl
  have res : ∀ (b : Nat) (sp : Nat → Bool) (hd : Bool), DataW.TrodAll enc P W' b sp hd f.resultTypes.toList ((Value.bool true).resultList f.resultTypes.size) (s.fn H (ds ++ [])).results [] := fun b sp hd => by
    rw [List.append_nil, hfn', hres]
    exact trodAll_cons_mk (shut_bool hub true) trodAll_mk0
  have arg : ∀ sp : Nat → Bool, (∀ x ∈ p, sp x.block = true) → DataW.TrodAll enc P W' 0 sp true f.params.toList args.toList (s.fn H (ds ++ [])).args p := fun sp hsp => by
    rw [List.append_nil, hfn']
    exact again sp hsp
  have vr : ∀ sp : Nat → Bool, DataW.TrodVars enc P W' sp s.vars (s.fn H (ds ++ [])).vars [] := fun sp => by
    rw [hvars, List.append_nil, hfn']
    rfl
  refine ⟨_, rfl, ds, [], p, [], p, [], hW', res _ _ _, arg _ (fun x hx => by simpa using hps x hx), vr _, hb.frame _, fun _ => ?_⟩
  refine ⟨ok_one hres rfl (okWide_bool_mk hub _), _, _, ([] ++ p) ++ [], ⟨[] ++ p, [], trodAll_append (arg _ (fun _ _ => rfl)) (res _ _ _), vr _, rfl, ?_, ?_⟩, ?_⟩
  · intro b off hp
    have hp' : MemPlace.cell b off ∈ p := by simpa using hp
    rw [hb.frozen (p := ⟨b, off, none⟩) (hps _ hp')]
    exact hfz b off hp'
  · intro ha
    simpa using hnd ha
  · intro x hp _
    simpa using hp
end
end Go.Aw
namespace Go.Aw
section
variable {P : Program} {k : Nat} {t : TypeId} {xs : List AV}
theorem sh_int {q : IntKind} (hu : P.underlying t = some (.int q)) (h : Sh P (k + 1) t xs) : ∃ n, xs = [.int q n] ∧ (Lit.int q n).wf = true := by simpa only [Sh, hu] using h
theorem sh_bool (hu : P.underlying t = some .bool) (h : Sh P (k + 1) t xs) : ∃ b, xs = [.bool b] := by simpa only [Sh, hu] using h
theorem sh_string (hu : P.underlying t = some .string) (h : Sh P (k + 1) t xs) : ∃ l, xs = [.str l] ∧ l.length ≤ maxLen := by simpa only [Sh, hu] using h
theorem sh_slice {e : TypeId} (hu : P.underlying t = some (.slice e)) (h : Sh P (k + 1) t xs) : ∃ ys : List (List AV), xs = [.sl (ys.map (argAV P e))] ∧ ys.length ≤ maxLen ∧ ∀ y, y ∈ ys → Sh P k e y := by simpa only [Sh, hu] using h
theorem sh_struct {fs : Array Field} (hu : P.underlying t = some (.struct fs)) (h : Sh P (k + 1) t xs) : ∃ ys : List (List AV), xs = ys.flatten ∧ ys.length = fs.size ∧ ∀ (i : Nat) (f : Field) (y : List AV), fs[i]? = some f → ys[i]? = some y → Sh P k f.type y := by simpa only [Sh, hu] using h
theorem sh_array {m : Nat} {e : TypeId} (hu : P.underlying t = some (.array m e)) (h : Sh P (k + 1) t xs) : ∃ ys : List (List AV), xs = ys.flatten ∧ ys.length = m ∧ ∀ y, y ∈ ys → Sh P k e y := by simpa only [Sh, hu] using h
theorem sh_struct2 {f0 f1 : Field} (hu : P.underlying t = some (.struct #[f0, f1])) (h : Sh P (k + 1) t xs) : ∃ y0 y1, xs = y0 ++ y1 ∧ Sh P k f0.type y0 ∧ Sh P k f1.type y1 := by
  obtain ⟨ys, rfl, hl, hy⟩ := sh_struct hu h
  match ys, hl with
  | [y0, y1], _ => exact ⟨y0, y1, by simp, hy 0 f0 y0 rfl rfl, hy 1 f1 y1 rfl rfl⟩
theorem arg_one (hu : ∀ fs, P.underlying t ≠ some (.struct fs)) (hu' : ∀ n e, P.underlying t ≠ some (.array n e)) {x : AV} : argAV P t [x] = x := by
  unfold argAV
  split
  · rename_i h; exact absurd h (hu _)
  · rename_i h; exact absurd h (hu' _ _)
  · rfl
theorem arg_int {q : IntKind} (hu : P.underlying t = some (.int q)) {x : AV} : argAV P t [x] = x := by simp [argAV, hu]
theorem arg_bool (hu : P.underlying t = some .bool) {x : AV} : argAV P t [x] = x := by simp [argAV, hu]
theorem arg_string (hu : P.underlying t = some .string) {x : AV} : argAV P t [x] = x := by simp [argAV, hu]
theorem arg_slice {e : TypeId} (hu : P.underlying t = some (.slice e)) {x : AV} : argAV P t [x] = x := by simp [argAV, hu]
theorem arg_struct {fs : Array Field} (hu : P.underlying t = some (.struct fs)) : argAV P t xs = .agg xs := by simp [argAV, hu]
theorem args_nil {ar : List AV} (h : Args P [] ar) : ar = [] := by cases h; rfl
theorem args_cons {ts : List TypeId} {ar : List AV} (h : Args P (t :: ts) ar) : ∃ xs ar' n, ar = argAV P t xs :: ar' ∧ Sh P n t xs ∧ Args P ts ar' := by
  cases h with
  | cons _ _ xs ar' n h hr => exact ⟨xs, ar', n, rfl, h, hr⟩
theorem all_of {α : Type} {β : Type} (f : α → β) : ∀ (l : List β), (∀ y, y ∈ l → ∃ c, y = f c) → ∃ cs : List α, l = cs.map f
  | [], _ => ⟨[], rfl⟩
  | y :: l, h => by
    obtain ⟨c, hc⟩ := h y (List.mem_cons_self ..)
    obtain ⟨cs, hcs⟩ := all_of f l (fun z hz => h z (List.mem_cons_of_mem _ hz))
    exact ⟨c :: cs, by rw [hc, hcs]; rfl⟩
theorem sh_zero (h : Sh P 0 t xs) : False := h
theorem rdl {α : Type} {f : α → List AV} {g : α → AV} {ok : α → Prop} {e : TypeId} {n : Nat} (hu : P.underlying t = some (.slice e)) (hg : ∀ a, argAV P e (f a) = g a)
    (H : ∀ m, m < n + 1 → ∀ y, Sh P m e y → ∃ a, y = f a ∧ ok a) (h : Sh P (n + 1) t xs) : ∃ l : List α, xs = [.sl (l.map g)] ∧ ∀ a, a ∈ l → ok a := by
  obtain ⟨ys, rfl, hlen, hy⟩ := sh_slice hu h
  have : ∃ l : List α, ys = l.map f ∧ ∀ a, a ∈ l → ok a := by
    clear h hlen
    induction ys with
    | nil => exact ⟨[], rfl, fun a ha => by simp at ha⟩
    | cons y ys ih =>
      obtain ⟨a, rfl, oa⟩ := H n (by omega) y (hy y (List.mem_cons_self ..))
      obtain ⟨l, rfl, ol⟩ := ih (fun z hz => hy z (List.mem_cons_of_mem _ hz))
      exact ⟨a :: l, rfl, fun b hb => by rcases List.mem_cons.1 hb with rfl | hb; exact oa; exact ol b hb⟩
  obtain ⟨l, rfl, ol⟩ := this
  refine ⟨l, ?_, ol⟩
  rw [List.map_map]
  congr 2
  exact List.map_congr_left fun a _ => hg a
theorem rdl0 {α : Type} {f : α → List AV} {g : α → AV} {ok : α → Prop} {e : TypeId} {n : Nat} (hu : P.underlying t = some (.slice e)) (hg : ∀ a, argAV P e (f a) = g a)
    (H : ∀ m, m < n + 1 → ∀ y, Sh P m e y → ∃ a, y = f a ∧ ok a) (h : Sh P n t xs) : ∃ l : List α, xs = [.sl (l.map g)] ∧ ∀ a, a ∈ l → ok a := by
  cases n with
  | zero => exact h.elim
  | succ n => exact rdl hu hg (fun m hm => H m (by omega)) h
theorem arg_array {m : Nat} {e : TypeId} (hu : P.underlying t = some (.array m e)) : argAV P t xs = .agg xs := by simp [argAV, hu]
theorem rng_i8 {n : Int} (h : (Lit.int .i8 n).wf = true) : -128 ≤ n ∧ n ≤ 127 := by simpa [Lit.wf, IntKind.min, IntKind.max, IntKind.signed, IntKind.bits] using h
theorem rng_i16 {n : Int} (h : (Lit.int .i16 n).wf = true) : -32768 ≤ n ∧ n ≤ 32767 := by simpa [Lit.wf, IntKind.min, IntKind.max, IntKind.signed, IntKind.bits] using h
theorem rng_i32 {n : Int} (h : (Lit.int .i32 n).wf = true) : -2147483648 ≤ n ∧ n ≤ 2147483647 := by simpa [Lit.wf, IntKind.min, IntKind.max, IntKind.signed, IntKind.bits] using h
theorem rng_i64 {n : Int} (h : (Lit.int .i64 n).wf = true) : -9223372036854775808 ≤ n ∧ n ≤ 9223372036854775807 := by simpa [Lit.wf, IntKind.min, IntKind.max, IntKind.signed, IntKind.bits] using h
theorem rng_u8 {n : Int} (h : (Lit.int .u8 n).wf = true) : 0 ≤ n ∧ n ≤ 255 := by simpa [Lit.wf, IntKind.min, IntKind.max, IntKind.signed, IntKind.bits] using h
theorem rng_u16 {n : Int} (h : (Lit.int .u16 n).wf = true) : 0 ≤ n ∧ n ≤ 65535 := by simpa [Lit.wf, IntKind.min, IntKind.max, IntKind.signed, IntKind.bits] using h
theorem rng_u32 {n : Int} (h : (Lit.int .u32 n).wf = true) : 0 ≤ n ∧ n ≤ 4294967295 := by simpa [Lit.wf, IntKind.min, IntKind.max, IntKind.signed, IntKind.bits] using h
theorem rng_u64 {n : Int} (h : (Lit.int .u64 n).wf = true) : 0 ≤ n ∧ n ≤ 18446744073709551615 := by simpa [Lit.wf, IntKind.min, IntKind.max, IntKind.signed, IntKind.bits] using h
theorem bulkL_mem {α : Type} {g : α → AV} {a : α} : ∀ {l : List α}, a ∈ l → (g a).bulk ≤ bulkL (l.map g)
  | b :: l, h => by
    rw [List.map_cons, bulkL]
    rcases List.mem_cons.1 h with rfl | h
    · omega
    · have := bulkL_mem (g := g) h; omega
theorem bulk_pos (x : AV) : 1 ≤ x.bulk := by cases x <;> simp [AV.bulk]
theorem bulkL_len {α : Type} {g : α → AV} : ∀ (l : List α), l.length ≤ bulkL (l.map g)
  | [] => by simp
  | b :: l => by
    rw [List.map_cons, bulkL, List.length_cons]
    have := bulkL_len (g := g) l
    have := bulk_pos (g b)
    omega
end
end Go.Aw
set_option maxRecDepth 100000
namespace Go.Proofs.Inc
open Go.Aw
structure Civil.ok (x : Civil) : Prop where
  Year : -9223372036854775808 ≤ x.Year ∧ x.Year ≤ 9223372036854775807
  Month : -9223372036854775808 ≤ x.Month ∧ x.Month ≤ 9223372036854775807
  Day : -9223372036854775808 ≤ x.Day ∧ x.Day ≤ 9223372036854775807
structure Span.ok (x : Span) : Prop where
  Days : -9223372036854775808 ≤ x.Days ∧ x.Days ≤ 9223372036854775807
  Name : List.length x.Name ≤ 9223372036854775807
structure Named.ok (x : Named) : Prop where
  Name : List.length x.Name ≤ 9223372036854775807
  Is : -9223372036854775808 ≤ x.Is ∧ x.Is ≤ 9223372036854775807
structure Ratio.ok (x : Ratio) : Prop where
  Num : -9223372036854775808 ≤ x.Num ∧ x.Num ≤ 9223372036854775807
  Den : -9223372036854775808 ≤ x.Den ∧ x.Den ≤ 9223372036854775807
structure Arr7B.ok (x : Arr7B) : Prop where
inductive Item.ok : Item → Prop
  | mk (x : Item) (hKind : -9223372036854775808 ≤ x.Kind ∧ x.Kind ≤ 9223372036854775807) (hName : List.length x.Name ≤ 9223372036854775807) (hAt : -9223372036854775808 ≤ x.At ∧ x.At ≤ 9223372036854775807) (hOf : List.length x.Of ≤ 9223372036854775807) (hAct : List.length x.Act ≤ 9223372036854775807) (hWord : -9223372036854775808 ≤ x.Word ∧ x.Word ≤ 9223372036854775807) (hTimes : -9223372036854775808 ≤ x.Times ∧ x.Times ≤ 9223372036854775807) (hWithin : Span.ok x.Within) (hGrace : Span.ok x.Grace) (hConds : ∀ a7, a7 ∈ x.Conds → Named.ok a7) (hBy : List.length x.By ≤ 9223372036854775807) (hUntil : List.length x.Until ≤ 9223372036854775807) (hNum : Ratio.ok x.Num) (hUnit : List.length x.Unit ≤ 9223372036854775807) (hSum : List.length x.Sum ≤ 9223372036854775807) (hGive : List.length x.Give ≤ 9223372036854775807) (hTo : List.length x.To ≤ 9223372036854775807) (hDays : Arr7B.ok x.Days) (hDates : ∀ a7, a7 ∈ x.Dates → Civil.ok a7) (hNames : ∀ a7, a7 ∈ x.Names → List.length a7 ≤ 9223372036854775807) (hItems : ∀ a7, a7 ∈ x.Items → Item.ok a7) : Item.ok x
theorem Item.ok.Kind {x : Item} (h : Item.ok x) : -9223372036854775808 ≤ x.Kind ∧ x.Kind ≤ 9223372036854775807 := by cases h; assumption
theorem Item.ok.Name {x : Item} (h : Item.ok x) : List.length x.Name ≤ 9223372036854775807 := by cases h; assumption
theorem Item.ok.At {x : Item} (h : Item.ok x) : -9223372036854775808 ≤ x.At ∧ x.At ≤ 9223372036854775807 := by cases h; assumption
theorem Item.ok.Of {x : Item} (h : Item.ok x) : List.length x.Of ≤ 9223372036854775807 := by cases h; assumption
theorem Item.ok.Act {x : Item} (h : Item.ok x) : List.length x.Act ≤ 9223372036854775807 := by cases h; assumption
theorem Item.ok.Word {x : Item} (h : Item.ok x) : -9223372036854775808 ≤ x.Word ∧ x.Word ≤ 9223372036854775807 := by cases h; assumption
theorem Item.ok.Times {x : Item} (h : Item.ok x) : -9223372036854775808 ≤ x.Times ∧ x.Times ≤ 9223372036854775807 := by cases h; assumption
theorem Item.ok.Within {x : Item} (h : Item.ok x) : Span.ok x.Within := by cases h; assumption
theorem Item.ok.Grace {x : Item} (h : Item.ok x) : Span.ok x.Grace := by cases h; assumption
theorem Item.ok.Conds {x : Item} (h : Item.ok x) : ∀ a7, a7 ∈ x.Conds → Named.ok a7 := by cases h; assumption
theorem Item.ok.By {x : Item} (h : Item.ok x) : List.length x.By ≤ 9223372036854775807 := by cases h; assumption
theorem Item.ok.Until {x : Item} (h : Item.ok x) : List.length x.Until ≤ 9223372036854775807 := by cases h; assumption
theorem Item.ok.Num {x : Item} (h : Item.ok x) : Ratio.ok x.Num := by cases h; assumption
theorem Item.ok.Unit {x : Item} (h : Item.ok x) : List.length x.Unit ≤ 9223372036854775807 := by cases h; assumption
theorem Item.ok.Sum {x : Item} (h : Item.ok x) : List.length x.Sum ≤ 9223372036854775807 := by cases h; assumption
theorem Item.ok.Give {x : Item} (h : Item.ok x) : List.length x.Give ≤ 9223372036854775807 := by cases h; assumption
theorem Item.ok.To {x : Item} (h : Item.ok x) : List.length x.To ≤ 9223372036854775807 := by cases h; assumption
theorem Item.ok.Days {x : Item} (h : Item.ok x) : Arr7B.ok x.Days := by cases h; assumption
theorem Item.ok.Dates {x : Item} (h : Item.ok x) : ∀ a7, a7 ∈ x.Dates → Civil.ok a7 := by cases h; assumption
theorem Item.ok.Names {x : Item} (h : Item.ok x) : ∀ a7, a7 ∈ x.Names → List.length a7 ≤ 9223372036854775807 := by cases h; assumption
theorem Item.ok.Items {x : Item} (h : Item.ok x) : ∀ a7, a7 ∈ x.Items → Item.ok a7 := by cases h; assumption
structure Source.ok (x : Source) : Prop where
  Name : List.length x.Name ≤ 9223372036854775807
  From : Civil.ok x.From
  Days : -9223372036854775808 ≤ x.Days ∧ x.Days ≤ 9223372036854775807
  Items : ∀ a7, a7 ∈ x.Items → Item.ok a7
theorem rd9 : ∀ (n : Nat) (xs : List AV), Sh Try.prog n 9 xs → ∃ a : List UInt8, xs = [.str a] ∧ (List.length a ≤ 9223372036854775807) := by
  intro n xs h
  cases n with
  | zero => exact (sh_zero h).elim
  | succ n =>
    obtain ⟨a, rfl, w⟩ := sh_string Try.underlying9 h
    exact ⟨a, rfl, w⟩
theorem rd3 : ∀ (n : Nat) (xs : List AV), Sh Try.prog n 3 xs → ∃ a : Int, xs = [.int .i64 a] ∧ (-9223372036854775808 ≤ a ∧ a ≤ 9223372036854775807) := by
  intro n xs h
  cases n with
  | zero => exact (sh_zero h).elim
  | succ n =>
    obtain ⟨a, rfl, w⟩ := sh_int Try.underlying3 h
    exact ⟨a, rfl, rng_i64 w⟩
theorem rd23 : ∀ (n : Nat) (xs : List AV), Sh Try.prog n 23 xs → ∃ a : Civil, xs = Civil.cs a ∧ (Civil.ok a) := by
  intro n xs h
  cases n with
  | zero => exact (sh_zero h).elim
  | succ n =>
    obtain ⟨ys, rfl, hl, hy⟩ := sh_struct Try.underlying23 h
    match ys, hl with
    | [y0, y1, y2], _ =>
      obtain ⟨a0, e0, o0⟩ := rd3 n y0 (hy 0 _ y0 rfl rfl)
      obtain ⟨a1, e1, o1⟩ := rd3 n y1 (hy 1 _ y1 rfl rfl)
      obtain ⟨a2, e2, o2⟩ := rd3 n y2 (hy 2 _ y2 rfl rfl)
      subst e0 e1 e2
      refine ⟨⟨a0, a1, a2⟩, ?_, ⟨o0, o1, o2⟩⟩
      simp only [Civil.cs_eq, List.flatten_cons, List.flatten_nil, List.append_nil, List.cons_append, List.nil_append]
theorem rd4 : ∀ (n : Nat) (xs : List AV), Sh Try.prog n 4 xs → ∃ a : Bool, xs = [.bool a] ∧ True := by
  intro n xs h
  cases n with
  | zero => exact (sh_zero h).elim
  | succ n =>
    obtain ⟨a, rfl⟩ := sh_bool Try.underlying4 h
    exact ⟨a, rfl, trivial⟩
theorem rd33 : ∀ (n : Nat) (xs : List AV), Sh Try.prog n 33 xs → ∃ a : Span, xs = Span.cs a ∧ (Span.ok a) := by
  intro n xs h
  cases n with
  | zero => exact (sh_zero h).elim
  | succ n =>
    obtain ⟨ys, rfl, hl, hy⟩ := sh_struct Try.underlying33 h
    match ys, hl with
    | [y0, y1, y2], _ =>
      obtain ⟨a0, e0, o0⟩ := rd3 n y0 (hy 0 _ y0 rfl rfl)
      obtain ⟨a1, e1, o1⟩ := rd4 n y1 (hy 1 _ y1 rfl rfl)
      obtain ⟨a2, e2, o2⟩ := rd9 n y2 (hy 2 _ y2 rfl rfl)
      subst e0 e1 e2
      refine ⟨⟨a0, a1, a2⟩, ?_, ⟨o0, o2⟩⟩
      simp only [Span.cs_eq, List.flatten_cons, List.flatten_nil, List.append_nil, List.cons_append, List.nil_append]
theorem rd57 : ∀ (n : Nat) (xs : List AV), Sh Try.prog n 57 xs → ∃ a : Named, xs = Named.cs a ∧ (Named.ok a) := by
  intro n xs h
  cases n with
  | zero => exact (sh_zero h).elim
  | succ n =>
    obtain ⟨ys, rfl, hl, hy⟩ := sh_struct Try.underlying57 h
    match ys, hl with
    | [y0, y1], _ =>
      obtain ⟨a0, e0, o0⟩ := rd9 n y0 (hy 0 _ y0 rfl rfl)
      obtain ⟨a1, e1, o1⟩ := rd3 n y1 (hy 1 _ y1 rfl rfl)
      subst e0 e1
      refine ⟨⟨a0, a1⟩, ?_, ⟨o0, o1⟩⟩
      simp only [Named.cs_eq, List.flatten_cons, List.flatten_nil, List.append_nil, List.cons_append, List.nil_append]
theorem rd34 : ∀ (n : Nat) (xs : List AV), Sh Try.prog n 34 xs → ∃ a : List Named, xs = [.sl (List.map Named.av a)] ∧ (∀ a1, a1 ∈ a → Named.ok a1) := by
  intro n xs h
  cases n with
  | zero => exact (sh_zero h).elim
  | succ n => exact rdl (f := fun a => Named.cs a) (g := fun a => Named.av a) (ok := fun a => Named.ok a) Try.underlying34 (fun a => arg_struct Try.underlying57) (fun m hm y hy => rd57 m y hy) h
theorem rd36 : ∀ (n : Nat) (xs : List AV), Sh Try.prog n 36 xs → ∃ a : Ratio, xs = Ratio.cs a ∧ (Ratio.ok a) := by
  intro n xs h
  cases n with
  | zero => exact (sh_zero h).elim
  | succ n =>
    obtain ⟨ys, rfl, hl, hy⟩ := sh_struct Try.underlying36 h
    match ys, hl with
    | [y0, y1], _ =>
      obtain ⟨a0, e0, o0⟩ := rd3 n y0 (hy 0 _ y0 rfl rfl)
      obtain ⟨a1, e1, o1⟩ := rd3 n y1 (hy 1 _ y1 rfl rfl)
      subst e0 e1
      refine ⟨⟨a0, a1⟩, ?_, ⟨o0, o1⟩⟩
      simp only [Ratio.cs_eq, List.flatten_cons, List.flatten_nil, List.append_nil, List.cons_append, List.nil_append]
theorem rd37 : ∀ (n : Nat) (xs : List AV), Sh Try.prog n 37 xs → ∃ a : Arr7B, xs = Arr7B.cs a ∧ (Arr7B.ok a) := by
  intro n xs h
  cases n with
  | zero => exact (sh_zero h).elim
  | succ n =>
    obtain ⟨ys, rfl, hl, hy⟩ := sh_array Try.underlying37 h
    match ys, hl with
    | [y0, y1, y2, y3, y4, y5, y6], _ =>
      obtain ⟨a0, e0, o0⟩ := rd4 n y0 (hy y0 (by simp))
      obtain ⟨a1, e1, o1⟩ := rd4 n y1 (hy y1 (by simp))
      obtain ⟨a2, e2, o2⟩ := rd4 n y2 (hy y2 (by simp))
      obtain ⟨a3, e3, o3⟩ := rd4 n y3 (hy y3 (by simp))
      obtain ⟨a4, e4, o4⟩ := rd4 n y4 (hy y4 (by simp))
      obtain ⟨a5, e5, o5⟩ := rd4 n y5 (hy y5 (by simp))
      obtain ⟨a6, e6, o6⟩ := rd4 n y6 (hy y6 (by simp))
      subst e0 e1 e2 e3 e4 e5 e6
      refine ⟨⟨a0, a1, a2, a3, a4, a5, a6⟩, ?_, ⟨⟩⟩
      simp only [Arr7B.cs_eq, List.flatten_cons, List.flatten_nil, List.append_nil, List.cons_append, List.nil_append]
theorem rd38 : ∀ (n : Nat) (xs : List AV), Sh Try.prog n 38 xs → ∃ a : List Civil, xs = [.sl (List.map Civil.av a)] ∧ (∀ a1, a1 ∈ a → Civil.ok a1) := by
  intro n xs h
  cases n with
  | zero => exact (sh_zero h).elim
  | succ n => exact rdl (f := fun a => Civil.cs a) (g := fun a => Civil.av a) (ok := fun a => Civil.ok a) Try.underlying38 (fun a => arg_struct Try.underlying23) (fun m hm y hy => rd23 m y hy) h
theorem rd39 : ∀ (n : Nat) (xs : List AV), Sh Try.prog n 39 xs → ∃ a : List (List UInt8), xs = [.sl (List.map AV.str a)] ∧ (∀ a1, a1 ∈ a → List.length a1 ≤ 9223372036854775807) := by
  intro n xs h
  cases n with
  | zero => exact (sh_zero h).elim
  | succ n => exact rdl (f := fun a => [.str a]) (g := fun a => .str a) (ok := fun a => List.length a ≤ 9223372036854775807) Try.underlying39 (fun a => arg_string Try.underlying9) (fun m hm y hy => rd9 m y hy) h
theorem rd41 : ∀ (n : Nat) (xs : List AV), Sh Try.prog n 41 xs → ∃ a : Item, xs = Item.cs a ∧ (Item.ok a) := by
  intro n
  induction n using Nat.strongRecOn with
  | _ n ih =>
  intro xs h
  cases n with
  | zero => exact (sh_zero h).elim
  | succ n =>
    obtain ⟨ys, rfl, hl, hy⟩ := sh_struct Try.underlying41 h
    match ys, hl with
    | [y0, y1, y2, y3, y4, y5, y6, y7, y8, y9, y10, y11, y12, y13, y14, y15, y16, y17, y18, y19, y20, y21], _ =>
      obtain ⟨a0, e0, o0⟩ := rd3 n y0 (hy 0 _ y0 rfl rfl)
      obtain ⟨a1, e1, o1⟩ := rd9 n y1 (hy 1 _ y1 rfl rfl)
      obtain ⟨a2, e2, o2⟩ := rd3 n y2 (hy 2 _ y2 rfl rfl)
      obtain ⟨a3, e3, o3⟩ := rd9 n y3 (hy 3 _ y3 rfl rfl)
      obtain ⟨a4, e4, o4⟩ := rd9 n y4 (hy 4 _ y4 rfl rfl)
      obtain ⟨a5, e5, o5⟩ := rd3 n y5 (hy 5 _ y5 rfl rfl)
      obtain ⟨a6, e6, o6⟩ := rd3 n y6 (hy 6 _ y6 rfl rfl)
      obtain ⟨a7, e7, o7⟩ := rd33 n y7 (hy 7 _ y7 rfl rfl)
      obtain ⟨a8, e8, o8⟩ := rd33 n y8 (hy 8 _ y8 rfl rfl)
      obtain ⟨a9, e9, o9⟩ := rd34 n y9 (hy 9 _ y9 rfl rfl)
      obtain ⟨a10, e10, o10⟩ := rd9 n y10 (hy 10 _ y10 rfl rfl)
      obtain ⟨a11, e11, o11⟩ := rd9 n y11 (hy 11 _ y11 rfl rfl)
      obtain ⟨a12, e12, o12⟩ := rd36 n y12 (hy 12 _ y12 rfl rfl)
      obtain ⟨a13, e13, o13⟩ := rd9 n y13 (hy 13 _ y13 rfl rfl)
      obtain ⟨a14, e14, o14⟩ := rd9 n y14 (hy 14 _ y14 rfl rfl)
      obtain ⟨a15, e15, o15⟩ := rd4 n y15 (hy 15 _ y15 rfl rfl)
      obtain ⟨a16, e16, o16⟩ := rd9 n y16 (hy 16 _ y16 rfl rfl)
      obtain ⟨a17, e17, o17⟩ := rd9 n y17 (hy 17 _ y17 rfl rfl)
      obtain ⟨a18, e18, o18⟩ := rd37 n y18 (hy 18 _ y18 rfl rfl)
      obtain ⟨a19, e19, o19⟩ := rd38 n y19 (hy 19 _ y19 rfl rfl)
      obtain ⟨a20, e20, o20⟩ := rd39 n y20 (hy 20 _ y20 rfl rfl)
      obtain ⟨a21, e21, o21⟩ : ∃ a : List Item, y21 = [.sl (List.map Item.av a)] ∧ (∀ a1, a1 ∈ a → Item.ok a1) := rdl0 (f := fun a => Item.cs a) (g := fun a => Item.av a) (ok := fun a => Item.ok a) Try.underlying24 (fun a => arg_struct Try.underlying41) (fun m hm y hy => ih m hm y hy) (hy 21 _ y21 rfl rfl)
      subst e0 e1 e2 e3 e4 e5 e6 e7 e8 e9 e10 e11 e12 e13 e14 e15 e16 e17 e18 e19 e20 e21
      refine ⟨⟨a0, a1, a2, a3, a4, a5, a6, a7, a8, a9, a10, a11, a12, a13, a14, a15, a16, a17, a18, a19, a20, a21⟩, ?_, .mk _ o0 o1 o2 o3 o4 o5 o6 o7 o8 o9 o10 o11 o12 o13 o14 o16 o17 o18 o19 o20 o21⟩
      simp only [Item.cs_eq, List.flatten_cons, List.flatten_nil, List.append_nil, List.cons_append, List.nil_append, Arr7B.cs_eq, Ratio.cs_eq, Span.cs_eq]
theorem rd24 : ∀ (n : Nat) (xs : List AV), Sh Try.prog n 24 xs → ∃ a : List Item, xs = [.sl (List.map Item.av a)] ∧ (∀ a1, a1 ∈ a → Item.ok a1) := by
  intro n xs h
  cases n with
  | zero => exact (sh_zero h).elim
  | succ n => exact rdl (f := fun a => Item.cs a) (g := fun a => Item.av a) (ok := fun a => Item.ok a) Try.underlying24 (fun a => arg_struct Try.underlying41) (fun m hm y hy => rd41 m y hy) h
theorem rd26 : ∀ (n : Nat) (xs : List AV), Sh Try.prog n 26 xs → ∃ a : Source, xs = Source.cs a ∧ (Source.ok a) := by
  intro n xs h
  cases n with
  | zero => exact (sh_zero h).elim
  | succ n =>
    obtain ⟨ys, rfl, hl, hy⟩ := sh_struct Try.underlying26 h
    match ys, hl with
    | [y0, y1, y2, y3], _ =>
      obtain ⟨a0, e0, o0⟩ := rd9 n y0 (hy 0 _ y0 rfl rfl)
      obtain ⟨a1, e1, o1⟩ := rd23 n y1 (hy 1 _ y1 rfl rfl)
      obtain ⟨a2, e2, o2⟩ := rd3 n y2 (hy 2 _ y2 rfl rfl)
      obtain ⟨a3, e3, o3⟩ := rd24 n y3 (hy 3 _ y3 rfl rfl)
      subst e0 e1 e2 e3
      refine ⟨⟨a0, a1, a2, a3⟩, ?_, ⟨o0, o1, o2, o3⟩⟩
      simp only [Source.cs_eq, List.flatten_cons, List.flatten_nil, List.append_nil, List.cons_append, List.nil_append, Civil.cs_eq]
end Go.Proofs.Inc
namespace Go.Proofs.Inc
open Go.Aw
inductive Dp (B : Nat) : Item → Prop
  | mk (x : Item) (name : x.Name.length ≤ B) (conds : x.Conds.length ≤ NB) (cname : ∀ c, c ∈ x.Conds → c.Name.length ≤ B) (names : x.Names.length ≤ NB) (dates : x.Dates.length ≤ NB) (items : x.Items.length ≤ NB) (rec : ∀ y, y ∈ x.Items → Dp B y) : Dp B x
theorem Dp.name {B : Nat} {x : Item} (h : Dp B x) : x.Name.length ≤ B := by cases h; assumption
theorem Dp.conds {B : Nat} {x : Item} (h : Dp B x) : x.Conds.length ≤ NB := by cases h; assumption
theorem Dp.cname {B : Nat} {x : Item} (h : Dp B x) : ∀ c, c ∈ x.Conds → c.Name.length ≤ B := by cases h; assumption
theorem Dp.names {B : Nat} {x : Item} (h : Dp B x) : x.Names.length ≤ NB := by cases h; assumption
theorem Dp.dates {B : Nat} {x : Item} (h : Dp B x) : x.Dates.length ≤ NB := by cases h; assumption
theorem Dp.items {B : Nat} {x : Item} (h : Dp B x) : x.Items.length ≤ NB := by cases h; assumption
theorem Dp.sub {B : Nat} {x : Item} (h : Dp B x) : ∀ y, y ∈ x.Items → Dp B y := by cases h; assumption
theorem Dp.mono {B C : Nat} (hBC : B ≤ C) {x : Item} (h : Dp B x) : Dp C x := by
  induction h with
  | mk x h1 h2 h3 h4 h5 h6 h7 ih => exact .mk x (by omega) h2 (fun c hc => by have := h3 c hc; omega) h4 h5 h6 ih
theorem Dp.bd {B : Nat} (hB : B ≤ 1099511627776) {x : Item} (h : Dp B x) : Bd x := ⟨by have := h.name; omega, h.conds, fun c hc => by have := h.cname c hc; omega, h.names⟩
theorem Dp.bdT {B : Nat} (hB : B ≤ 1099511627776) {x : Item} (h : Dp B x) : BdT x := ⟨h.names, h.items, fun y hy => (h.sub y hy).bd hB⟩
inductive Dq : Item → Prop
  | mk (x : Item) (conds : x.Conds.length ≤ NB) (names : x.Names.length ≤ NB) (dates : x.Dates.length ≤ NB) (items : x.Items.length ≤ NB) (rec : ∀ y, y ∈ x.Items → Dq y) : Dq x
theorem Dq.conds {x : Item} (h : Dq x) : x.Conds.length ≤ NB := by cases h; assumption
theorem Dq.names {x : Item} (h : Dq x) : x.Names.length ≤ NB := by cases h; assumption
theorem Dq.dates {x : Item} (h : Dq x) : x.Dates.length ≤ NB := by cases h; assumption
theorem Dq.items {x : Item} (h : Dq x) : x.Items.length ≤ NB := by cases h; assumption
theorem Dq.sub {x : Item} (h : Dq x) : ∀ y, y ∈ x.Items → Dq y := by cases h; assumption
theorem Dp.dq {B : Nat} {x : Item} (h : Dp B x) : Dq x := by
  induction h with
  | mk x h1 h2 h3 h4 h5 h6 h7 ih => exact .mk x h2 h4 h5 h6 ih
theorem item_bulk {x : Item} {K : Nat} (h : bulkL (Item.cs x) ≤ K) : x.Name.length ≤ K ∧ bulkL (x.Conds.map Named.av) ≤ K ∧ bulkL (x.Names.map AV.str) ≤ K ∧ bulkL (x.Dates.map Civil.av) ≤ K ∧ bulkL (x.Items.map Item.av) + 1 ≤ K := by
  rw [Item.cs_eq] at h
  simp only [bulkL, bulk_str, bulk_sl, bulk_int, bulk_bool] at h
  omega
theorem named_bulk {c : Named} : c.Name.length ≤ (Named.av c).bulk := by
  rw [Named.av, bulk_agg, Named.cs_eq]
  simp only [bulkL, bulk_str, bulk_int]
  omega
theorem iszl_bulk : ∀ (n : Nat) (l : List Item), iszl l ≤ n → iszl l ≤ bulkL (l.map Item.av)
  | _, [], _ => by simp [iszl_nil]
  | 0, x :: l, h => by rw [iszl_cons] at h; omega
  | n + 1, x :: l, h => by
    rw [iszl_cons] at h
    rw [iszl_cons, List.map_cons, bulkL]
    have h1 := iszl_bulk n l (by omega)
    have h2 := iszl_bulk n x.Items (by omega)
    have h3 := item_bulk (Nat.le_refl (bulkL (Item.cs x)))
    rw [Item.av, bulk_agg]
    omega
theorem dp_of : ∀ (n : Nat) (x : Item), iszl x.Items ≤ n → bulkL (Item.cs x) ≤ 1048576 → Dp 1048576 x := by
  intro n
  induction n with
  | zero =>
    intro x hn h
    obtain ⟨h1, h2, h3, h4, h5⟩ := item_bulk h
    have hnil : x.Items = [] := by
      cases hx : x.Items with
      | nil => rfl
      | cons y l => rw [hx, iszl_cons] at hn; omega
    refine .mk x h1 (by have := bulkL_len (g := Named.av) x.Conds; unfold NB; omega) (fun c hc => by have := bulkL_mem (g := Named.av) hc; have := named_bulk (c := c); omega) (by have := bulkL_len (g := AV.str) x.Names; unfold NB; omega) (by have := bulkL_len (g := Civil.av) x.Dates; unfold NB; omega) (by simp [hnil]) (by simp [hnil])
  | succ n ih =>
    intro x hn h
    obtain ⟨h1, h2, h3, h4, h5⟩ := item_bulk h
    refine .mk x h1 (by have := bulkL_len (g := Named.av) x.Conds; unfold NB; omega) (fun c hc => by have := bulkL_mem (g := Named.av) hc; have := named_bulk (c := c); omega) (by have := bulkL_len (g := AV.str) x.Names; unfold NB; omega) (by have := bulkL_len (g := Civil.av) x.Dates; unfold NB; omega) (by have := bulkL_len (g := Item.av) x.Items; unfold NB; omega) (fun y hy => ?_)
    have := iszl_mem hy
    have hb := bulkL_mem (g := Item.av) hy
    rw [Item.av, bulk_agg] at hb
    exact ih y (by omega) (by omega)
theorem source_bulk {p : Source} (h : bulkL [.agg (Source.cs p)] ≤ 1048576) : bulkL (p.Items.map Item.av) ≤ 1048576 := by
  simp only [bulkL, bulk_agg] at h
  rw [Source.cs_eq] at h
  simp only [bulkL, bulk_str, bulk_sl, bulk_int, bulk_bool] at h
  omega
theorem items_dp {l : List Item} (h : bulkL (l.map Item.av) ≤ 1048576) : iszl l ≤ 1048576 ∧ ∀ x, x ∈ l → Dp 1048576 x := by
  refine ⟨Nat.le_trans (iszl_bulk _ l (Nat.le_refl _)) h, fun x hx => ?_⟩
  have hb := bulkL_mem (g := Item.av) hx
  rw [Item.av, bulk_agg] at hb
  exact dp_of _ x (Nat.le_refl _) (by omega)
theorem bdS_of {p : Source} {B : Nat} (hB : B ≤ 1099511627776) (h1 : iszl p.Items ≤ 1099511627776) (h2 : ∀ x, x ∈ p.Items → Dp B x) : BdS p := ⟨h1, fun t ht => (h2 t ht).bdT hB⟩
set_option maxRecDepth 100000 in
theorem s9_true : s9 8388608 = some true := by kernel_rfl
end Go.Proofs.Inc
namespace Go.Proofs.Inc
open Go.Aw
theorem incl_stop (M : Maps) : ∀ (k : Nat) (c : Int) (o : List Item) (q : List Str) (u : Item), (incl M k c o q u).2.1 = true → (incl M k c o q u).1 ≠ 0
  | 0, c, o, q, u, _ => by simp [incl]
  | k + 1, c, o, q, u, h => by
    revert h
    unfold incl
    by_cases hc : 600 < c + 1
    · rw [if_pos hc]; simp
    rw [if_neg hc]
    cases ht : mlook u.Of M.t with
    | none => simp
    | some t =>
      simp only
      by_cases hn : t.Names.length ≠ u.Names.length
      · rw [if_pos hn]; simp
      rw [if_neg hn]
      by_cases hq : (find q u.Of).isSome = true
      · rw [if_pos hq]; simp
      rw [if_neg hq]
      by_cases hm : 24 < u.Name.length
      · rw [if_pos hm]; simp
      rw [if_neg hm]
      refine runL_inv (Inv := fun (s : Int × List Item × List Str) => True) (Q := fun (r : R) => r.2.1 = true → r.1 ≠ 0) t.Items (fun i s a ha hs => ?_) (fun s hs => by simp) 0 _ trivial
      unfold stepI
      by_cases hk : (inst t u a).Kind = 14
      · rw [if_pos hk]
        by_cases hr : (incl M k s.1 s.2.1 s.2.2 (inst t u a)).1 = 0
        · rw [if_pos hr]; trivial
        · rw [if_neg hr]; exact fun _ => hr
      · rw [if_neg hk]
        by_cases hcl : clause (inst t u a).Kind = true
        · rw [if_pos hcl]
          by_cases hr : (add M s.1 s.2.1 s.2.2 (inst t u a) 24).1 = 0
          · rw [if_pos hr]; trivial
          · rw [if_neg hr]; exact fun _ => hr
        · rw [if_neg hcl]; simp
theorem add_stop {M : Maps} {c : Int} {o : List Item} {q : List Str} {y : Item} {most : Int} : (add M c o q y most).2.1 = true → (add M c o q y most).1 ≠ 0 := by
  unfold add
  by_cases hc : 600 < c + 1
  · rw [if_pos hc]; simp
  rw [if_neg hc]
  by_cases hm : most < (y.Name.length : Int)
  · rw [if_pos hm]; simp
  rw [if_neg hm]
  by_cases hk : clause y.Kind = true
  · rw [if_pos hk]; cases dfn M y <;> simp
  · rw [if_neg hk]; simp
def one (M : Maps) (c : Int) (o : List Item) (y : Item) : R := if y.Kind = 14 then incl M 600 c o [] y else add M c o [] y y.Name.length
theorem one_stop {M : Maps} {c : Int} {o : List Item} {y : Item} : (one M c o y).2.1 = true → (one M c o y).1 ≠ 0 := by
  unfold one
  split
  · exact incl_stop M 600 c o [] y
  · exact add_stop
def gd (M : Maps) : Int → List Item → List (Int × Item) → Option (List Item)
  | _, o, [] => some o
  | c, o, p :: l => if defines p.2.Kind then (if p.1 = 0 then gd M c o l else none) else (if (one M c o p.2).1 = 0 then gd M (one M c o p.2).2.2.1 (one M c o p.2).2.2.2.1 l else none)
theorem top_grow (M : Maps) : ∀ (l : List (Int × Item)) (c : Int) (o : List Item) (F : List Fault), F ≠ [] → (top M c o F l).2 ≠ []
  | [], c, o, F, h => h
  | p :: l, c, o, F, h => by
    have hF : ∀ e : Int, (if e = 0 then F else F ++ [(⟨e, p.2.At⟩ : Fault)]) ≠ [] := fun e => by
      by_cases he : e = 0
      · simpa [he] using h
      · rw [if_neg he]; simp
    unfold top
    by_cases hd : defines p.2.Kind = true
    · rw [if_pos hd]; exact top_grow M l c o _ (hF _)
    rw [if_neg hd]
    have step : ∀ r : R, (if r.2.1 = true then (r.2.2.2.1, (if r.1 = 0 then F else F ++ [(⟨r.1, p.2.At⟩ : Fault)])) else top M r.2.2.1 r.2.2.2.1 (if r.1 = 0 then F else F ++ [(⟨r.1, p.2.At⟩ : Fault)]) l).2 ≠ [] := fun r => by
      split
      · exact hF _
      · exact top_grow M l _ _ _ (hF _)
    exact step (one M c o p.2)
theorem top_gd (M : Maps) : ∀ (l : List (Int × Item)) (c : Int) (o : List Item), match gd M c o l with
    | some o' => top M c o [] l = (o', [])
    | none => (top M c o [] l).2 ≠ []
  | [], c, o => rfl
  | p :: l, c, o => by
    unfold gd top
    by_cases hd : defines p.2.Kind = true
    · rw [if_pos hd, if_pos hd]
      by_cases h0 : p.1 = 0
      · rw [if_pos h0, if_pos h0]; exact top_gd M l c o
      · rw [if_neg h0, if_neg h0]; exact top_grow M l c o _ (by simp)
    · rw [if_neg hd, if_neg hd]
      show match (if (one M c o p.2).1 = 0 then gd M (one M c o p.2).2.2.1 (one M c o p.2).2.2.2.1 l else none) with
        | some o' => (let r := one M c o p.2; let F' := if r.1 = 0 then [] else [] ++ [(⟨r.1, p.2.At⟩ : Fault)]; if r.2.1 = true then (r.2.2.2.1, F') else top M r.2.2.1 r.2.2.2.1 F' l) = (o', [])
        | none => (let r := one M c o p.2; let F' := if r.1 = 0 then [] else [] ++ [(⟨r.1, p.2.At⟩ : Fault)]; if r.2.1 = true then (r.2.2.2.1, F') else top M r.2.2.1 r.2.2.2.1 F' l).2 ≠ []
      simp only
      by_cases h0 : (one M c o p.2).1 = 0
      · rw [if_pos h0, if_pos h0]
        have hs : (one M c o p.2).2.1 = false := by
          cases h : (one M c o p.2).2.1 with
          | false => rfl
          | true => exact absurd h0 (one_stop h)
        rw [hs]
        simp only [Bool.false_eq_true, if_false]
        exact top_gd M l _ _
      · rw [if_neg h0, if_neg h0]
        simp only
        split
        · simp
        · exact top_grow M l _ _ _ (by simp)
def exg (p : Source) : Option (List Item) := if 600 < iszl p.Items then none else gd (dcls M0 p.Items).2 0 [] ((dcls M0 p.Items).1.zip p.Items)
theorem expand_exg (p : Source) : match exg p with
    | some o => expand p = ({ p with Items := o }, [])
    | none => (expand p).2 ≠ [] ∧ (expand p).1 = noSource := by
  unfold exg expand
  by_cases hs : 600 < iszl p.Items
  · rw [if_pos hs, if_pos hs]; simp
  rw [if_neg hs, if_neg hs]
  have := top_gd (dcls M0 p.Items).2 ((dcls M0 p.Items).1.zip p.Items) 0 []
  cases hg : gd (dcls M0 p.Items).2 0 [] ((dcls M0 p.Items).1.zip p.Items) with
  | some o =>
    rw [hg] at this
    simp only at this ⊢
    rw [this]
    simp
  | none =>
    rw [hg] at this
    simp only at this ⊢
    rw [if_neg this]
    exact ⟨this, rfl⟩
def isD (x : Item) : Bool := defines x.Kind
theorem dcl_nd {M : Maps} {y : Item} (h : isD y = false) : dcl M y = (0, M) := by
  simp only [isD, defines, decide_eq_false_iff_not] at h
  unfold dcl
  rw [if_neg (by omega), if_neg (by omega), if_neg (by omega)]
theorem dcls_filter : ∀ (l : List Item) (M : Maps), (dcls M l).2 = (dcls M (l.filter isD)).2 ∧ (((dcls M l).1.zip l).filter fun p => isD p.2) = (dcls M (l.filter isD)).1.zip (l.filter isD) ∧ (((dcls M l).1.zip l).filter fun p => !isD p.2) = (l.filter fun x => !isD x).map fun x => (0, x)
  | [], M => ⟨rfl, rfl, rfl⟩
  | y :: l, M => by
    cases hd : isD y with
    | true =>
      obtain ⟨h1, h2, h3⟩ := dcls_filter l (dcl M y).2
      simp [dcls, hd, h1, h2, h3]
    | false =>
      obtain ⟨h1, h2, h3⟩ := dcls_filter l M
      simp [dcls, hd, h1, h2, h3, dcl_nd hd]
theorem gd_split (M : Maps) : ∀ (l : List (Int × Item)) (c : Int) (o : List Item), gd M c o l = if (l.filter fun p => isD p.2).all (fun p => p.1 = 0) then gd M c o (l.filter fun p => !isD p.2) else none
  | [], c, o => rfl
  | p :: l, c, o => by
    have ih := gd_split M l
    cases hd : isD p.2 with
    | true =>
      have hd' : defines p.2.Kind = true := hd
      simp only [gd, hd', if_true, List.filter_cons, hd, Bool.not_true, Bool.false_eq_true, if_false, List.all_cons]
      by_cases h0 : p.1 = 0
      · simp only [h0, if_true, decide_true, Bool.true_and]; exact ih c o
      · simp [h0]
    | false =>
      have hd' : defines p.2.Kind = false := hd
      simp only [gd, hd', Bool.false_eq_true, if_false, List.filter_cons, hd, Bool.not_false, if_true]
      by_cases h0 : (one M c o p.2).1 = 0
      · simp only [h0, if_true]; exact ih _ _
      · simp [h0]
theorem iszl_filter (f : Item → Bool) : ∀ l : List Item, iszl (l.filter (fun x => !f x)) + iszl (l.filter f) = iszl l
  | [] => by simp [iszl_nil]
  | x :: l => by
    have ih := iszl_filter f l
    rw [List.filter_cons, List.filter_cons, iszl_cons]
    cases hf : f x with
    | true => simp only [Bool.not_true, Bool.false_eq_true, if_false, if_true, iszl_cons]; omega
    | false => simp only [Bool.not_false, if_true, Bool.false_eq_true, if_false, iszl_cons]; omega
theorem exg_split (p : Source) : exg p = if 600 < iszl p.Items then none else if ((dcls M0 (p.Items.filter isD)).1.zip (p.Items.filter isD)).all (fun p => p.1 = 0) then gd (dcls M0 (p.Items.filter isD)).2 0 [] ((p.Items.filter fun x => !isD x).map fun x => (0, x)) else none := by
  unfold exg
  obtain ⟨h1, h2, h3⟩ := dcls_filter p.Items M0
  split
  · rfl
  · rw [gd_split, h2, h3, h1]
end Go.Proofs.Inc
namespace Go.Proofs.Inc
open Go.Aw
def Pl (x : Item) : Prop := defines x.Kind = false ∧ x.Kind ≠ 14 ∧ (clause x.Kind = true → x.Within.Name = [] ∧ x.Grace.Name = [] ∧ x.Sum = [])
theorem clause_nd {k : Int} (h : clause k = true) : defines k = false ∧ k ≠ 14 := by
  simp only [clause, decide_eq_true_eq] at h
  simp only [defines, decide_eq_false_iff_not]
  omega
def NoN (M : Maps) : Prop := ∀ n d, mlook n M.s = some d → d.Name = []
theorem dcl_s {M : Maps} {y : Item} (h : NoN M) : NoN (dcl M y).2 := by
  unfold dcl
  by_cases h13 : y.Kind = 13
  · rw [if_pos h13]; cases mlook y.Name M.t <;> exact h
  rw [if_neg h13]
  by_cases h6 : y.Kind = 6
  · rw [if_pos h6]
    cases hm : mlook y.Name M.s with
    | none =>
      intro n d hd
      simp only [mlook_mset] at hd
      split at hd
      · cases hd; rfl
      · exact h n d hd
    | some _ => exact h
  rw [if_neg h6]
  by_cases h7 : y.Kind = 7
  · rw [if_pos h7]; cases mlook y.Name M.m <;> exact h
  rw [if_neg h7]; exact h
theorem dcls_s : ∀ (l : List Item) {M : Maps}, NoN M → NoN (dcls M l).2
  | [], M, h => h
  | y :: l, M, h => dcls_s l (dcl_s h)
structure Kept (y z : Item) : Prop where
  kind : z.Kind = y.Kind
  name : z.Name = y.Name
  at_ : z.At = y.At
  conds : z.Conds = y.Conds
  names : z.Names = y.Names
  dates : z.Dates = y.Dates
  items : z.Items = y.Items
theorem Kept.refl (y : Item) : Kept y y := ⟨rfl, rfl, rfl, rfl, rfl, rfl, rfl⟩
theorem Kept.trans {x y z : Item} (h : Kept x y) (k : Kept y z) : Kept x z := ⟨k.1.trans h.1, k.2.trans h.2, k.3.trans h.3, k.4.trans h.4, k.5.trans h.5, k.6.trans h.6, k.7.trans h.7⟩
theorem dfn1_k {M : Maps} {y z : Item} (hM : NoN M) (h : dfn1 M y = some z) : Kept y z ∧ z.Within.Name = [] := by
  unfold dfn1 at h
  split at h
  · rename_i hn; cases h; exact ⟨.refl _, hn⟩
  · obtain ⟨d, hd, rfl⟩ := Option.map_eq_some_iff.1 h
    exact ⟨⟨rfl, rfl, rfl, rfl, rfl, rfl, rfl⟩, hM _ _ hd⟩
theorem dfn2_k {M : Maps} {y z : Item} (hM : NoN M) (h : dfn2 M y = some z) : Kept y z ∧ z.Within = y.Within ∧ z.Grace.Name = [] := by
  unfold dfn2 at h
  split at h
  · rename_i hn; cases h; exact ⟨.refl _, rfl, hn⟩
  · obtain ⟨d, hd, rfl⟩ := Option.map_eq_some_iff.1 h
    exact ⟨⟨rfl, rfl, rfl, rfl, rfl, rfl, rfl⟩, rfl, hM _ _ hd⟩
theorem dfn3_k {M : Maps} {y z : Item} (h : dfn3 M y = some z) : Kept y z ∧ z.Within = y.Within ∧ z.Grace = y.Grace ∧ z.Sum = [] := by
  unfold dfn3 at h
  split at h
  · rename_i hn; cases h; exact ⟨.refl _, rfl, rfl, hn⟩
  · obtain ⟨d, hd, rfl⟩ := Option.map_eq_some_iff.1 h
    exact ⟨⟨rfl, rfl, rfl, rfl, rfl, rfl, rfl⟩, rfl, rfl, rfl⟩
theorem dfn_k {M : Maps} {y z : Item} (hM : NoN M) (h : dfn M y = some z) : Kept y z ∧ z.Within.Name = [] ∧ z.Grace.Name = [] ∧ z.Sum = [] := by
  obtain ⟨b, hb, h3⟩ := Option.bind_eq_some_iff.1 h
  obtain ⟨a, ha, h2⟩ := Option.bind_eq_some_iff.1 hb
  obtain ⟨k1, e1⟩ := dfn1_k hM ha
  obtain ⟨k2, e2, e2'⟩ := dfn2_k hM h2
  obtain ⟨k3, e3, e3', e3''⟩ := dfn3_k h3
  exact ⟨(k1.trans k2).trans k3, by rw [e3, e2, e1], by rw [e3', e2'], e3''⟩
theorem dfn_same {M : Maps} {y : Item} (h1 : y.Within.Name = []) (h2 : y.Grace.Name = []) (h3 : y.Sum = []) : dfn M y = some y := by
  simp [dfn, dfn1, dfn2, dfn3, h1, h2, h3]
theorem incl_out (M : Maps) (Q P : Item → Prop)
    (hQ : ∀ u t y, Q u → mlook u.Of M.t = some t → y ∈ t.Items → u.Name.length ≤ 24 → (inst t u y).Kind = 14 → Q (inst t u y))
    (hP : ∀ u t y z, Q u → mlook u.Of M.t = some t → y ∈ t.Items → u.Name.length ≤ 24 → (inst t u y).Name.length ≤ 24 → clause (inst t u y).Kind = true → dfn M (inst t u y) = some z → P z) :
    ∀ (k : Nat) (c : Int) (o : List Item) (q : List Str) (u : Item), Q u → ∃ o2, (incl M k c o q u).2.2.2.1 = o ++ o2 ∧ ∀ z, z ∈ o2 → P z
  | 0, c, o, q, u, _ => ⟨[], by simp [incl], by simp⟩
  | k + 1, c, o, q, u, hu => by
    unfold incl
    have base : ∃ o2, o = o ++ o2 ∧ ∀ z, z ∈ o2 → P z := ⟨[], by simp, by simp⟩
    by_cases hc : 600 < c + 1
    · rw [if_pos hc]; exact base
    rw [if_neg hc]
    cases ht : mlook u.Of M.t with
    | none => exact base
    | some t =>
      simp only
      by_cases hn : t.Names.length ≠ u.Names.length
      · rw [if_pos hn]; exact base
      rw [if_neg hn]
      by_cases hq : (find q u.Of).isSome = true
      · rw [if_pos hq]; exact base
      rw [if_neg hq]
      by_cases hm : 24 < u.Name.length
      · rw [if_pos hm]; exact base
      rw [if_neg hm]
      refine runL_inv (Inv := fun (s : Int × List Item × List Str) => ∃ o2, s.2.1 = o ++ o2 ∧ ∀ z, z ∈ o2 → P z) (Q := fun (r : R) => ∃ o2, r.2.2.2.1 = o ++ o2 ∧ ∀ z, z ∈ o2 → P z) t.Items (fun i s a ha hs => ?_) (fun s hs => hs) 0 _ base
      obtain ⟨o1, e1, p1⟩ := hs
      have grow : ∀ r : R, (∃ o2, r.2.2.2.1 = s.2.1 ++ o2 ∧ ∀ z, z ∈ o2 → P z) → ∃ o2, r.2.2.2.1 = o ++ o2 ∧ ∀ z, z ∈ o2 → P z := fun r ⟨o2, e2, p2⟩ => ⟨o1 ++ o2, by rw [e2, e1, List.append_assoc], fun z hz => by
        rcases List.mem_append.1 hz with h | h
        · exact p1 z h
        · exact p2 z h⟩
      unfold stepI
      by_cases hk : (inst t u a).Kind = 14
      · rw [if_pos hk]
        have := grow _ (incl_out M Q P hQ hP k s.1 s.2.1 s.2.2 (inst t u a) (hQ u t a hu ht ha (by omega) hk))
        by_cases hr : (incl M k s.1 s.2.1 s.2.2 (inst t u a)).1 = 0
        · rw [if_pos hr]; exact this
        · rw [if_neg hr]; exact this
      · rw [if_neg hk]
        by_cases hcl : clause (inst t u a).Kind = true
        · rw [if_pos hcl]
          have : ∃ o2, (add M s.1 s.2.1 s.2.2 (inst t u a) 24).2.2.2.1 = s.2.1 ++ o2 ∧ ∀ z, z ∈ o2 → P z := by
            unfold add
            have base' : ∃ o2, s.2.1 = s.2.1 ++ o2 ∧ ∀ z, z ∈ o2 → P z := ⟨[], by simp, by simp⟩
            by_cases hc : 600 < s.1 + 1
            · rw [if_pos hc]; exact base'
            rw [if_neg hc]
            by_cases hm2 : (24 : Int) < ((inst t u a).Name.length : Int)
            · rw [if_pos hm2]; exact base'
            rw [if_neg hm2, if_pos hcl]
            cases hd : dfn M (inst t u a) with
            | none => exact base'
            | some z => exact ⟨[z], rfl, fun x hx => by rw [List.mem_singleton.1 hx]; exact hP u t a z hu ht ha (by omega) (by omega) hcl hd⟩
          have := grow _ this
          by_cases hr : (add M s.1 s.2.1 s.2.2 (inst t u a) 24).1 = 0
          · rw [if_pos hr]; exact this
          · rw [if_neg hr]; exact this
        · rw [if_neg hcl]
          exact ⟨o1, e1, p1⟩
theorem top_out (M : Maps) (P : Item → Prop) (hI : ∀ c o u, (u.Kind = 14) → (∃ e, (e, u) ∈ ([] : List (Int × Item)) ∨ True) → ∃ o2, (incl M 600 c o [] u).2.2.2.1 = o ++ o2 ∧ ∀ z, z ∈ o2 → P z)
    : ∀ (l : List (Int × Item)) (c : Int) (o : List Item) (F : List Fault), (∀ p, p ∈ l → defines p.2.Kind = false → p.2.Kind ≠ 14 → (clause p.2.Kind = true → ∀ z, dfn M p.2 = some z → P z) ∧ (clause p.2.Kind = false → P p.2)) → (∀ z, z ∈ o → P z) → ∀ z, z ∈ (top M c o F l).1 → P z
  | [], c, o, F, _, ho => ho
  | p :: l, c, o, F, hl, ho => by
    have hl' := fun p' hp' => hl p' (List.mem_cons_of_mem _ hp')
    unfold top
    by_cases hd : defines p.2.Kind = true
    · rw [if_pos hd]; exact top_out M P hI l c o _ hl' ho
    rw [if_neg hd]
    have step : ∀ r : R, (∃ o2, r.2.2.2.1 = o ++ o2 ∧ ∀ z, z ∈ o2 → P z) → ∀ F', ∀ z, z ∈ (if r.2.1 = true then (r.2.2.2.1, F') else top M r.2.2.1 r.2.2.2.1 F' l).1 → P z := by
      intro r ⟨o2, e2, p2⟩ F'
      have hall : ∀ z, z ∈ r.2.2.2.1 → P z := fun z hz => by
        rw [e2] at hz
        rcases List.mem_append.1 hz with h | h
        · exact ho z h
        · exact p2 z h
      by_cases hs : r.2.1 = true
      · rw [if_pos hs]; exact hall
      · rw [if_neg hs]; exact top_out M P hI l _ _ _ hl' hall
    by_cases h14 : p.2.Kind = 14
    · simp only [if_pos h14]
      exact step _ (hI c o p.2 h14 ⟨0, .inr trivial⟩) _
    · simp only [if_neg h14]
      refine step _ ?_ _
      obtain ⟨h1, h2⟩ := hl p (List.mem_cons_self ..) (by simpa using hd) h14
      have base : ∃ o2, o = o ++ o2 ∧ ∀ z, z ∈ o2 → P z := ⟨[], by simp, by simp⟩
      unfold add
      by_cases hc : 600 < c + 1
      · rw [if_pos hc]; exact base
      rw [if_neg hc, if_neg (by omega)]
      by_cases hcl : clause p.2.Kind = true
      · rw [if_pos hcl]
        cases hz : dfn M p.2 with
        | none => exact base
        | some z => exact ⟨[z], rfl, fun x hx => by rw [List.mem_singleton.1 hx]; exact h1 hcl z hz⟩
      · rw [if_neg hcl]
        exact ⟨[p.2], rfl, fun x hx => by rw [List.mem_singleton.1 hx]; exact h2 (by simpa using hcl)⟩
theorem inst_len (t u y : Item) : (inst t u y).Conds.length = y.Conds.length ∧ (inst t u y).Names.length = y.Names.length ∧ (inst t u y).Dates = y.Dates ∧ (inst t u y).Items = y.Items := by
  unfold inst
  by_cases hc : clause y.Kind = true
  · rw [if_pos hc]; simp
  rw [if_neg hc]
  by_cases h14 : y.Kind = 14
  · rw [if_pos h14]; simp
  · rw [if_neg h14]; simp
theorem Kept.dq {y z : Item} (h : Kept y z) (hy : Dq y) : Dq z := .mk z (by rw [h.conds]; exact hy.conds) (by rw [h.names]; exact hy.names) (by rw [h.dates]; exact hy.dates) (by rw [h.items]; exact hy.items) (by rw [h.items]; exact hy.sub)
theorem inst_dq {t u y : Item} (hy : Dq y) : Dq (inst t u y) := by
  obtain ⟨h1, h2, h3, h4⟩ := inst_len t u y
  exact .mk _ (by rw [h1]; exact hy.conds) (by rw [h2]; exact hy.names) (by rw [h3]; exact hy.dates) (by rw [h4]; exact hy.items) (by rw [h4]; exact hy.sub)
def Pz (K : Nat) (z : Item) : Prop := Pl z ∧ Dq z ∧ z.Names.length ≤ NB ∧ z.Items.length ≤ NB ∧ iszl z.Items ≤ K ∧ ∀ y, y ∈ z.Items → Dp 1048576 y
theorem pz_of {M : Maps} {y z : Item} {K : Nat} (hK : iszl y.Items ≤ K) (hM : NoN M) (hc : clause y.Kind = true) (h : dfn M y = some z) (hq : Dq y) (hs : ∀ x, x ∈ y.Items → Dp 1048576 x) : Pz K z := by
  obtain ⟨k, e1, e2, e3⟩ := dfn_k hM h
  obtain ⟨c1, c2⟩ := clause_nd hc
  have hz := k.dq hq
  exact ⟨⟨by rw [k.kind]; exact c1, by rw [k.kind]; exact c2, fun _ => ⟨e1, e2, e3⟩⟩, hz, hz.names, hz.items, by rw [k.items]; exact hK, by rw [k.items]; exact hs⟩
theorem expand_pz {p : Source} (hdp : ∀ x, x ∈ p.Items → Dp 1048576 x) : ∀ z, z ∈ (expand p).1.Items → Pz (iszl p.Items) z := by
  unfold expand
  by_cases hs : 600 < iszl p.Items
  · rw [if_pos hs]; simp [noSource]
  rw [if_neg hs]
  simp only
  split
  · have hno : NoN (dcls M0 p.Items).2 := dcls_s p.Items (fun n d h => by simp [M0, mlook] at h)
    refine top_out _ (Pz (iszl p.Items)) (fun c o u hu _ => ?_) _ _ _ _ (fun q hq hd h14 => ?_) (by simp)
    · refine incl_out _ (fun _ => True) (Pz (iszl p.Items)) (fun _ _ _ _ _ _ _ _ => trivial) (fun u t y z _ ht hy _ _ hc hz => ?_) 600 c o [] u trivial
      have htm : t ∈ p.Items := by
        rcases dcls_t ht with h | h
        · simp [M0, mlook] at h
        · exact h
      have hy' := (hdp t htm).sub y hy
      have k1 := iszl_mem htm
      have k2 := iszl_mem hy
      exact pz_of (by rw [(inst_len t u y).2.2.2]; omega) hno hc hz (inst_dq hy'.dq) (by rw [(inst_len t u y).2.2.2]; exact hy'.sub)
    · have hm : q.2 ∈ p.Items := (List.of_mem_zip hq).2
      have hy' := hdp _ hm
      have k1 := iszl_mem hm
      exact ⟨fun hc z hz => pz_of (by omega) hno hc hz hy'.dq hy'.sub, fun hc => ⟨⟨hd, h14, fun h => by rw [h] at hc; cases hc⟩, hy'.dq, hy'.names, hy'.items, by omega, hy'.sub⟩⟩
  · simp [noSource]
theorem top_len (M : Maps) : ∀ (l : List (Int × Item)) (c : Int) (o : List Item) (F : List Fault), 0 ≤ c → c ≤ 600 → (o.length : Int) ≤ c → (top M c o F l).2 = [] → F = [] ∧ (top M c o F l).1.length ≤ 600
  | [], c, o, F, h0, hc, ho, h => ⟨h, by simp only [top]; omega⟩
  | p :: l, c, o, F, h0, hc, ho, h => by
    revert h
    unfold top
    have fnil : ∀ (e : Int), (if e = 0 then F else F ++ [(⟨e, p.2.At⟩ : Fault)]) = [] → F = [] ∧ e = 0 := fun e => by
      by_cases he : e = 0
      · simp [he]
      · rw [if_neg he]; simp
    by_cases hd : defines p.2.Kind = true
    · rw [if_pos hd]
      intro h
      obtain ⟨h1, h2⟩ := top_len M l c o _ h0 hc ho h
      exact ⟨(fnil _ h1).1, h2⟩
    rw [if_neg hd]
    have step : ∀ r : R, Fine c r → (r.2.1 = true → r.1 ≠ 0) → (if r.2.1 = true then (r.2.2.2.1, (if r.1 = 0 then F else F ++ [(⟨r.1, p.2.At⟩ : Fault)])) else top M r.2.2.1 r.2.2.2.1 (if r.1 = 0 then F else F ++ [(⟨r.1, p.2.At⟩ : Fault)]) l).2 = [] →
        F = [] ∧ (if r.2.1 = true then (r.2.2.2.1, (if r.1 = 0 then F else F ++ [(⟨r.1, p.2.At⟩ : Fault)])) else top M r.2.2.1 r.2.2.2.1 (if r.1 = 0 then F else F ++ [(⟨r.1, p.2.At⟩ : Fault)]) l).1.length ≤ 600 := by
      intro r hf hst
      by_cases hs : r.2.1 = true
      · rw [if_pos hs]
        intro h
        exact absurd (fnil _ h).2 (hst hs)
      · rw [if_neg hs]
        intro h
        obtain ⟨f1, f2, f3⟩ := hf (by simpa using hs)
        obtain ⟨h1, h2⟩ := top_len M l _ _ _ (by omega) f2 f3 h
        exact ⟨(fnil _ h1).1, h2⟩
    by_cases h14 : p.2.Kind = 14
    · simp only [if_pos h14]
      exact step _ (incl_fine M 600 c o [] p.2 ⟨h0, ho, by simpa using h0⟩) (incl_stop M 600 c o [] p.2)
    · simp only [if_neg h14]
      exact step _ (add_fine ho) add_stop
theorem expand_len {p : Source} (h : (expand p).2 = []) : (expand p).1.Items.length ≤ 600 ∧ (expand p).1.Name = p.Name ∧ (expand p).1.From = p.From ∧ (expand p).1.Days = p.Days := by
  unfold expand at h ⊢
  by_cases hs : 600 < iszl p.Items
  · rw [if_pos hs] at h; simp at h
  rw [if_neg hs] at h ⊢
  simp only at h ⊢
  split at h
  · rename_i hr
    rw [if_pos hr]
    exact ⟨(top_len _ _ 0 [] [] (by omega) (by omega) (by simp) hr).2, rfl, rfl, rfl⟩
  · rename_i hr; exact absurd h hr
theorem expand_faults {p : Source} (h : (expand p).2 ≠ []) : (expand p).1 = noSource := by
  unfold expand at h ⊢
  by_cases hs : 600 < iszl p.Items
  · rw [if_pos hs]
  rw [if_neg hs] at h ⊢
  simp only at h ⊢
  split
  · rename_i hr; rw [if_pos hr] at h; simp at h
  · rfl
theorem iszl_all {K : Nat} : ∀ (l : List Item), (∀ x, x ∈ l → iszl x.Items ≤ K) → iszl l ≤ l.length * (1 + K)
  | [], _ => by simp [iszl_nil]
  | x :: l, h => by
    have h1 := h x (List.mem_cons_self ..)
    have h2 := iszl_all l (fun y hy => h y (List.mem_cons_of_mem _ hy))
    rw [iszl_cons, List.length_cons, Nat.succ_mul]
    omega
end Go.Proofs.Inc
namespace Go.Proofs.Inc
open Go.Aw
theorem s12_eq {N : Nat} {k : Int} : s12 N k = some (defines k) := by
  simp only [s12, defines]
  by_cases h1 : k = 13
  · simp [h1]
  by_cases h2 : k = 6
  · simp [h2]
  simp [h1, h2]
end Go.Proofs.Inc
namespace Go.Proofs.Inc
open Go.Aw
theorem s37_refl {N : Nat} {l : List Str} (hN : l.length < N) (hl : l.length ≤ NB) : s37 N l l = some true := by
  have hb : iter (fun p => s37_b1 N l l p) N 0 = some _ := iter_list (fun (_ : Unit) i => i) () l (fun i _ a => .inl ()) (fun _ => .brk ()) (fun _ _ => True) (fun i s a hi _ => by
    obtain ⟨ha, hlt⟩ := getI hi
    refine ⟨?_, fun _ _ => trivial⟩
    simp only [s37_b1]
    rw [if_pos (by omega), grd_pos (by omega), grd_pos (by omega), if_pos trivial, wr_succ (by unfold NB at hl; omega)]) (fun s _ => by
    simp only [s37_b1]
    rw [if_neg (by omega)]) hN trivial
  simp only [s37]
  rw [if_pos trivial, hb, runL_fold]
  rfl
theorem same_refl : ∀ (N : Nat), (∀ x, Dq x → NB + 1 + 2 * isz x < N → s31 N x x = some true) ∧ ∀ l : List Item, (∀ x, x ∈ l → Dq x) → l.length ≤ NB → NB + 2 + 2 * iszl l < N → s20 N l l = some true
  | 0 => ⟨fun x _ h => by omega, fun l _ _ h => by omega⟩
  | N + 1 => by
    obtain ⟨ih1, ih2⟩ := same_refl N
    constructor
    · intro x hx hN
      have hsz := isz_eq x
      have hc := hx.conds
      have hd := hx.dates
      have hb3 : iter (fun p => s31_b3 N x x p) N 0 = some _ := iter_list (fun (_ : Unit) i => i) () x.Conds (fun i _ a => .inl ()) (fun _ => .brk ()) (fun _ _ => True) (fun i s a hi _ => by
        obtain ⟨ha, hlt⟩ := getI hi
        refine ⟨?_, fun _ _ => trivial⟩
        simp only [s31_b3]
        rw [if_pos (by omega), grd_pos (by omega), grd_pos (by omega), if_pos trivial, wr_succ (by unfold NB at hc; omega)]) (fun s _ => by
        simp only [s31_b3]
        rw [if_neg (by omega)]) (by omega) trivial
      have hb1 : iter (fun p => s31_b1 N x x p) N 0 = some _ := iter_list (fun (_ : Unit) i => i) () x.Dates (fun i _ a => .inl ()) (fun _ => .brk ()) (fun _ _ => True) (fun i s a hi _ => by
        obtain ⟨ha, hlt⟩ := getI hi
        refine ⟨?_, fun _ _ => trivial⟩
        simp only [s31_b1]
        rw [if_pos (by omega), grd_pos (by omega), grd_pos (by omega), if_pos trivial, wr_succ (by unfold NB at hd; omega)]) (fun s _ => by
        simp only [s31_b1]
        rw [if_neg (by omega)]) (by omega) trivial
      rw [runL_fold] at hb3 hb1
      have hn := s37_refl (N := N) (l := x.Names) (by have := hx.names; omega) hx.names
      have hr := ih2 x.Items hx.sub hx.items (by omega)
      simp only [s31, s31_body, s31_k2, if_true, hb3, hb1, hn, hr, Option.bind_some, Ou.on, beq_self_eq_true, cond_true]
    · intro l hl hlen hN
      have hb : iter (fun p => s20_b1 N l l (s31 N) p) N 0 = some _ := iter_list (fun (_ : Unit) i => i) () l (fun i _ a => .inl ()) (fun _ => .brk ()) (fun _ _ => True) (fun i s a hi _ => by
        obtain ⟨ha, hlt⟩ := getI hi
        refine ⟨?_, fun _ _ => trivial⟩
        have hm := List.mem_of_getElem? hi
        have := iszl_mem hm
        have he := isz_eq a
        simp only [s20_b1]
        rw [if_pos (by omega), grd_pos (by omega), grd_pos (by omega), toNat_nat, ha, ih1 a (hl a hm) (by omega), wr_succ (by unfold NB at hlen; omega)]
        rfl) (fun s _ => by
        simp only [s20_b1]
        rw [if_neg (by omega)]) (by omega) trivial
      simp only [s20, s20_body]
      rw [if_pos trivial, hb, runL_fold]
      rfl
end Go.Proofs.Inc
namespace Go.Proofs.Inc
open Go.Aw
theorem add_shift {M : Maps} {c : Int} {o : List Item} {q : List Str} {y : Item} {most : Int} (h : (add M c o q y most).1 = 0) : ∃ d, add M c o q y most = (0, false, c + 1, o ++ d, q) ∧ ∀ c2 o2, c2 ≤ c → add M c2 o2 q y most = (0, false, c2 + 1, o2 ++ d, q) := by
  unfold add at h ⊢
  by_cases hc : 600 < c + 1
  · rw [if_pos hc] at h; simp at h
  rw [if_neg hc] at h ⊢
  have h2 : ∀ c2 : Int, c2 ≤ c → ¬ 600 < c2 + 1 := fun c2 hc2 => by omega
  by_cases hm : most < (y.Name.length : Int)
  · rw [if_pos hm] at h; simp at h
  rw [if_neg hm] at h ⊢
  by_cases hk : clause y.Kind = true
  · rw [if_pos hk] at h ⊢
    cases hd : dfn M y with
    | none => rw [hd] at h; simp at h
    | some z => exact ⟨[z], rfl, fun c2 o2 hc2 => by rw [if_neg (h2 c2 hc2), if_neg hm, if_pos hk]⟩
  · rw [if_neg hk] at h ⊢
    exact ⟨[y], rfl, fun c2 o2 hc2 => by rw [if_neg (h2 c2 hc2), if_neg hm, if_neg hk]⟩
theorem incl_shift (M : Maps) : ∀ (k : Nat) (c : Int) (o : List Item) (q : List Str) (u : Item), (incl M k c o q u).1 = 0 → ∃ (n : Int) (d : List Item), 0 ≤ n ∧ incl M k c o q u = (0, false, c + n, o ++ d, q) ∧ ∀ c2 o2, c2 ≤ c → incl M k c2 o2 q u = (0, false, c2 + n, o2 ++ d, q)
  | 0, c, o, q, u, h => by simp [incl] at h
  | k + 1, c, o, q, u, h => by
    unfold incl at h ⊢
    by_cases hc : 600 < c + 1
    · rw [if_pos hc] at h; simp at h
    rw [if_neg hc] at h ⊢
    have h2 : ∀ c2 : Int, c2 ≤ c → ¬ 600 < c2 + 1 := fun c2 hc2 => by omega
    cases ht : mlook u.Of M.t with
    | none => rw [ht] at h; simp at h
    | some t =>
      rw [ht] at h
      simp only at h ⊢
      by_cases hn : t.Names.length ≠ u.Names.length
      · rw [if_pos hn] at h; simp at h
      rw [if_neg hn] at h ⊢
      by_cases hq : (find q u.Of).isSome = true
      · rw [if_pos hq] at h; simp at h
      rw [if_neg hq] at h ⊢
      by_cases hm : 24 < u.Name.length
      · rw [if_pos hm] at h; simp at h
      rw [if_neg hm] at h ⊢
      have walk : ∀ (l : List Item) (i : Nat) (c : Int) (o : List Item), (runL (fun _ s a => stepI (incl M k) M t u s a) (fun s => ((0 : Int), false, s.1, s.2.1, s.2.2.take (s.2.2.length - 1))) i (c, o, q ++ [u.Of]) l).1 = 0 →
          ∃ (n : Int) (d : List Item), 0 ≤ n ∧ runL (fun _ s a => stepI (incl M k) M t u s a) (fun s => ((0 : Int), false, s.1, s.2.1, s.2.2.take (s.2.2.length - 1))) i (c, o, q ++ [u.Of]) l = (0, false, c + n, o ++ d, q) ∧
            ∀ c2 o2, c2 ≤ c → runL (fun _ s a => stepI (incl M k) M t u s a) (fun s => ((0 : Int), false, s.1, s.2.1, s.2.2.take (s.2.2.length - 1))) i (c2, o2, q ++ [u.Of]) l = (0, false, c2 + n, o2 ++ d, q) := by
        intro l
        induction l with
        | nil => intro i c o _; exact ⟨0, [], Int.le_refl _, by simp [runL], fun c2 o2 _ => by simp [runL]⟩
        | cons a l ih =>
          intro i c o h
          have next : ∀ (n : Int) (d : List Item), 0 ≤ n → stepI (incl M k) M t u (c, o, q ++ [u.Of]) a = .inl (c + n, o ++ d, q ++ [u.Of]) → (∀ c2 o2, c2 ≤ c → stepI (incl M k) M t u (c2, o2, q ++ [u.Of]) a = .inl (c2 + n, o2 ++ d, q ++ [u.Of])) →
              ∃ (n : Int) (d : List Item), 0 ≤ n ∧ runL (fun _ s a => stepI (incl M k) M t u s a) (fun s => ((0 : Int), false, s.1, s.2.1, s.2.2.take (s.2.2.length - 1))) i (c, o, q ++ [u.Of]) (a :: l) = (0, false, c + n, o ++ d, q) ∧
                ∀ c2 o2, c2 ≤ c → runL (fun _ s a => stepI (incl M k) M t u s a) (fun s => ((0 : Int), false, s.1, s.2.1, s.2.2.take (s.2.2.length - 1))) i (c2, o2, q ++ [u.Of]) (a :: l) = (0, false, c2 + n, o2 ++ d, q) := by
            intro n d hn0 e1 e2
            rw [runL, e1] at h
            obtain ⟨n', d', hn', r1, r2⟩ := ih (i + 1) (c + n) (o ++ d) h
            refine ⟨n + n', d ++ d', by omega, ?_, fun c2 o2 hc2 => ?_⟩
            · rw [runL, e1]
              simp only
              rw [r1, List.append_assoc, Int.add_assoc]
            · rw [runL, e2 c2 o2 hc2]
              simp only
              rw [r2 (c2 + n) (o2 ++ d) (by omega), List.append_assoc, Int.add_assoc]
          by_cases hk : (inst t u a).Kind = 14
          · by_cases hr : (incl M k c o (q ++ [u.Of]) (inst t u a)).1 = 0
            · obtain ⟨n, d, hn0, r1, r2⟩ := incl_shift M k c o (q ++ [u.Of]) (inst t u a) hr
              refine next n d hn0 ?_ (fun c2 o2 hc2 => ?_)
              · unfold stepI
                rw [if_pos hk]
                simp only [r1, if_true]
              · unfold stepI
                rw [if_pos hk]
                simp only [r2 c2 o2 hc2, if_true]
            · rw [runL] at h
              unfold stepI at h
              rw [if_pos hk] at h
              simp only at h
              rw [if_neg hr] at h
              exact absurd h hr
          · by_cases hcl : clause (inst t u a).Kind = true
            · by_cases hr : (add M c o (q ++ [u.Of]) (inst t u a) 24).1 = 0
              · obtain ⟨d, r1, r2⟩ := add_shift hr
                refine next 1 d (by omega) ?_ (fun c2 o2 hc2 => ?_)
                · unfold stepI
                  rw [if_neg hk, if_pos hcl]
                  simp only [r1, if_true]
                · unfold stepI
                  rw [if_neg hk, if_pos hcl]
                  simp only [r2 c2 o2 hc2, if_true]
              · rw [runL] at h
                unfold stepI at h
                rw [if_neg hk, if_pos hcl] at h
                simp only at h
                rw [if_neg hr] at h
                exact absurd h hr
            · rw [runL] at h
              unfold stepI at h
              rw [if_neg hk, if_neg hcl] at h
              simp at h
      obtain ⟨n, d, hn0, r1, r2⟩ := walk t.Items 0 (c + 1) o h
      refine ⟨1 + n, d, by omega, by rw [r1, Int.add_assoc], fun c2 o2 hc2 => ?_⟩
      rw [if_neg (h2 c2 hc2), if_neg hn, if_neg hq, if_neg hm, r2 (c2 + 1) o2 (by omega), Int.add_assoc]
theorem one_shift {M : Maps} {c : Int} {o : List Item} {y : Item} (h0 : 0 ≤ c) (h : (one M c o y).1 = 0) : ∃ (n : Int) (d : List Item), (one M c o y).2.2.2.1 = o ++ d ∧ one M 0 [] y = (0, false, n, d, []) := by
  unfold one at h ⊢
  by_cases h14 : y.Kind = 14
  · rw [if_pos h14] at h ⊢
    rw [if_pos h14]
    obtain ⟨n, d, _, r1, r2⟩ := incl_shift M 600 c o [] y h
    exact ⟨0 + n, d, by rw [r1], by simpa using r2 0 [] h0⟩
  · rw [if_neg h14] at h ⊢
    rw [if_neg h14]
    obtain ⟨d, r1, r2⟩ := add_shift h
    exact ⟨0 + 1, d, by rw [r1], by simpa using r2 0 [] h0⟩
theorem one_far {M : Maps} {c : Int} {o : List Item} {y : Item} (hc : 0 ≤ c) (ho : (o.length : Int) ≤ c) : (one M c o y).1 = 0 → 0 ≤ (one M c o y).2.2.1 ∧ ((one M c o y).2.2.2.1.length : Int) ≤ (one M c o y).2.2.1 := by
  intro h
  have hs : (one M c o y).2.1 = false := by
    cases h' : (one M c o y).2.1 with
    | false => rfl
    | true => exact absurd h (one_stop h')
  have hf : Fine c (one M c o y) := by
    unfold one
    split
    · exact incl_fine M 600 c o [] y ⟨hc, ho, by simpa using hc⟩
    · exact add_fine ho
  obtain ⟨f1, f2, f3⟩ := hf hs
  exact ⟨by omega, f3⟩
theorem gd_cons_nd {M : Maps} {p : Int × Item} {l : List (Int × Item)} {c : Int} {o : List Item} (h : isD p.2 = false) : gd M c o (p :: l) = if (one M c o p.2).1 = 0 then gd M (one M c o p.2).2.2.1 (one M c o p.2).2.2.2.1 l else none := by
  have hd : defines p.2.Kind = false := h
  simp only [gd, hd, Bool.false_eq_true, if_false]
theorem gd_app (M : Maps) (y : Item) (hy : isD y = false) : ∀ (l : List (Int × Item)) (c : Int) (o : List Item), 0 ≤ c → (o.length : Int) ≤ c → (∀ p, p ∈ l → isD p.2 = false) →
    match gd M c o l with
    | none => gd M c o (l ++ [(0, y)]) = none
    | some a => match gd M c o (l ++ [(0, y)]) with
      | none => True
      | some b => ∃ d, b = a ++ d ∧ gd M 0 [] [(0, y)] = some d
  | [], c, o, hc, ho, _ => by
    have hd : defines y.Kind = false := hy
    simp only [gd, List.nil_append, hd, Bool.false_eq_true, if_false]
    by_cases h : (one M c o y).1 = 0
    · rw [if_pos h]
      obtain ⟨n, d, e1, e2⟩ := one_shift hc h
      simp only [e1, e2, if_true]
      exact ⟨d, rfl, rfl⟩
    · rw [if_neg h]; trivial
  | p :: l, c, o, hc, ho, hl => by
    have hd := hl p (List.mem_cons_self ..)
    rw [List.cons_append, gd_cons_nd hd, gd_cons_nd hd]
    by_cases h : (one M c o p.2).1 = 0
    · rw [if_pos h, if_pos h]
      obtain ⟨f1, f2⟩ := one_far hc ho h
      exact gd_app M y hy l _ _ f1 f2 (fun q hq => hl q (List.mem_cons_of_mem _ hq))
    · rw [if_neg h, if_neg h]
theorem exg_parts {p : Source} {y : Item} (hy : isD y = false) (hyi : y.Items = []) (hs : iszl p.Items ≤ 200) :
    match exg p with
    | none => exg { p with Items := p.Items ++ [y] } = none
    | some a => match exg { p with Items := p.Items ++ [y] } with
      | none => True
      | some b => ∃ d, b = a ++ d ∧ exg { p with Items := p.Items.filter isD ++ [y] } = some d := by
  have hf := iszl_filter isD p.Items
  have hy1 : iszl [y] = 1 := by rw [iszl_cons, iszl_nil, hyi, iszl_nil]
  obtain ⟨D, hD⟩ : ∃ D, D = p.Items.filter isD := ⟨_, rfl⟩
  obtain ⟨E, hE⟩ : ∃ E, E = p.Items.filter (fun x => !isD x) := ⟨_, rfl⟩
  rw [← hD, ← hE] at hf
  have f1 : (p.Items ++ [y]).filter isD = D := by rw [List.filter_append, ← hD]; simp [hy]
  have f2 : ((p.Items ++ [y]).filter fun x => !isD x) = E ++ [y] := by rw [List.filter_append, ← hE]; simp [hy]
  have f3 : (D ++ [y]).filter isD = D := by rw [List.filter_append, hD, List.filter_filter]; simp [hy]
  have f4 : ((D ++ [y]).filter fun x => !isD x) = [y] := by rw [List.filter_append, hD, List.filter_filter]; simp [hy]
  have e1 : exg p = if ((dcls M0 D).1.zip D).all (fun p => p.1 = 0) then gd (dcls M0 D).2 0 [] (E.map fun x => (0, x)) else none := by rw [exg_split, if_neg (by omega), ← hD, ← hE]
  have e2 : exg { p with Items := p.Items ++ [y] } = if ((dcls M0 D).1.zip D).all (fun p => p.1 = 0) then gd (dcls M0 D).2 0 [] ((E.map fun x => (0, x)) ++ [(0, y)]) else none := by
    rw [exg_split]
    simp only [f1, f2]
    rw [if_neg (by rw [iszl_app]; omega)]
    simp
  have e3 : exg { p with Items := D ++ [y] } = if ((dcls M0 D).1.zip D).all (fun p => p.1 = 0) then gd (dcls M0 D).2 0 [] [(0, y)] else none := by
    rw [exg_split]
    simp only [f3, f4]
    rw [if_neg (by rw [iszl_app]; omega)]
    simp
  rw [← hD, e1, e2, e3]
  by_cases hall : (((dcls M0 D).1.zip D).all fun p => decide (p.1 = 0)) = true
  · simp only [if_pos hall]
    exact gd_app _ y hy _ 0 [] (by omega) (by simp) (fun q hq => by
      obtain ⟨x, hx, rfl⟩ := List.mem_map.1 hq
      rw [hE] at hx
      simpa using (List.mem_filter.1 hx).2)
  · simp only [if_neg hall]
theorem two_bulk' {p : Source} {x : Item} (h : bulkL [.agg (Source.cs p), .agg (Item.cs x)] ≤ 1048576) : bulkL [.agg (Source.cs p)] ≤ 1048576 ∧ bulkL (Item.cs x) ≤ 1048576 := by
  simp only [bulkL, bulk_agg] at h ⊢
  omega
theorem s7_true {p : Source} {x : Item} (hb : bulkL [.agg (Source.cs p), .agg (Item.cs x)] ≤ 1048576) : s7 8388608 p x = some true := by
  obtain ⟨hb1, hb2⟩ := two_bulk' hb
  obtain ⟨hsz, hdp⟩ := items_dp (source_bulk hb1)
  obtain ⟨b, e10, hb10⟩ := s10_def (N := 8388608) (s := p) (lim := 200) (by omega) (by omega) (by omega)
  simp only [s7, s9_true, Option.bind_some]
  rw [show ((200 : Nat) : Int) = 200 by rfl] at e10
  rw [e10]
  simp only [Option.bind_some]
  cases b with
  | false => rfl
  | true =>
    simp only [cond_true]
    have hs200 := hb10 rfl
    obtain ⟨x', hx'⟩ : ∃ z : Item, z = { x with Items := [] } := ⟨_, rfl⟩
    have xk : x.Kind = x'.Kind := by rw [hx']
    simp only [s7_k4, s7_k2]
    rw [← hx']
    have xi : x'.Items = [] := by rw [hx']
    have hxd : Dp 1048576 x' := by
      have h := dp_of _ x (Nat.le_refl _) hb2
      rw [hx']
      exact .mk _ h.name h.conds h.cname h.names h.dates (by simp) (by simp)
    have hone : iszl [x'] = 1 := by rw [iszl_cons, iszl_nil, xi, iszl_nil]
    obtain ⟨b2, f10, _⟩ := s10_def (N := 8388608) (s := (⟨[], ⟨0, 0, 0⟩, 0, [x']⟩ : Source)) (lim := 1) (by show iszl [x'] + 1 < _; omega) (by omega) (by show iszl [x'] ≤ _; omega)
    rw [show ((1 : Nat) : Int) = 1 by rfl] at f10
    rw [f10]
    simp only [Option.bind_some]
    cases b2 with
    | false => rfl
    | true =>
      simp only [cond_true]
      rw [s12_eq, xk]
      simp only [Option.bind_some]
      cases hd : defines x'.Kind with
      | true => rfl
      | false =>
        simp only [cond_false]
        have hlen := iszl_len p.Items
        rw [grd_pos (by omega), grd_pos (by omega)]
        have hloop : iter (fun q => s7_b3 8388608 p q.1 q.2) 8388608 ([], 0) = some _ := iter_list (fun (s : List Item) i => (s, i)) [] p.Items (fun _ s a => .inl (if isD a then s ++ [a] else s)) (fun s => s) (fun i s => s.length ≤ i) (fun i s a hi hs => by
          obtain ⟨ha, hlt⟩ := getI hi
          constructor
          · simp only [s7_b3]
            rw [if_pos (by omega), grd_pos (by omega), toNat_nat, ha, s12_eq, wr_succ (by omega), grd_pos (by omega)]
            simp only [Option.bind_some, isD]
            by_cases hd : defines a.Kind = true <;> simp [hd]
          · intro s' e
            cases e
            cases hd : isD a <;> simp <;> omega) (fun s _ => by
          simp only [s7_b3]
          rw [if_neg (by omega)]) (by omega) (by simp)
        rw [hloop, runL_filter]
        simp only [Option.bind_some, List.nil_append]
        have hfl := List.length_filter_le isD p.Items
        rw [grd_pos (by omega)]
        have hfs := iszl_filter isD p.Items
        have hmd : ∀ y, y ∈ p.Items ++ [x'] → Dp 1048576 y := fun y hy => by
          rcases List.mem_append.1 hy with h | h
          · exact hdp y h
          · rw [List.mem_singleton.1 h]; exact hxd
        have had : ∀ y, y ∈ p.Items.filter isD ++ [x'] → Dp 1048576 y := fun y hy => by
          rcases List.mem_append.1 hy with h | h
          · exact hdp y (List.mem_filter.1 h).1
          · rw [List.mem_singleton.1 h]; exact hxd
        have hms : iszl (p.Items ++ [x']) ≤ 201 := by rw [iszl_app, hone]; omega
        have has : iszl (p.Items.filter isD ++ [x']) ≤ 201 := by rw [iszl_app, hone]; omega
        rw [s11_eq (bdS_of (B := 1048576) (by omega) (by omega) hdp) (by unfold NB; omega) (by omega)]
        simp only [Option.bind_some]
        rw [s11_eq (bdS_of (p := { p with Items := p.Items ++ [x'] }) (B := 1048576) (by omega) (by show iszl (p.Items ++ [x']) ≤ _; omega) hmd) (by unfold NB; omega) (by show iszl (p.Items ++ [x']) + 1 < _; omega)]
        simp only [Option.bind_some]
        rw [s11_eq (bdS_of (p := { p with Items := p.Items.filter isD ++ [x'] }) (B := 1048576) (by omega) (by show iszl (p.Items.filter isD ++ [x']) ≤ _; omega) had) (by unfold NB; omega) (by show iszl (p.Items.filter isD ++ [x']) + 1 < _; omega)]
        simp only [Option.bind_some]
        have hparts := exg_parts (p := p) (y := x') hd xi hs200
        have e1 := expand_exg p
        have e2 := expand_exg { p with Items := p.Items ++ [x'] }
        have e3 := expand_exg { p with Items := p.Items.filter isD ++ [x'] }
        cases hg : exg p with
        | none =>
          rw [hg] at e1 hparts
          simp only at hparts
          rw [hparts] at e2
          have n1 : (expand p).2.length ≠ 0 := fun h => e1.1 (List.length_eq_zero_iff.1 h)
          have n2 : (expand { p with Items := p.Items ++ [x'] }).2.length ≠ 0 := fun h => e2.1 (List.length_eq_zero_iff.1 h)
          rw [if_pos (by omega)]
          simp only [s7_k1, cond_true]
          rw [if_neg (by omega), decide_eq_true (by omega)]
        | some a =>
          rw [hg] at e1 hparts
          simp only at hparts
          have hpa := expand_pz hdp
          have hla := expand_len (p := p) (by rw [e1])
          rw [e1] at hpa hla ⊢
          rw [if_neg (by simp)]
          cases hgb : exg { p with Items := p.Items ++ [x'] } with
          | none =>
            rw [hgb] at e2
            have n2 : (expand { p with Items := p.Items ++ [x'] }).2.length ≠ 0 := fun h => e2.1 (List.length_eq_zero_iff.1 h)
            rw [decide_eq_true (by omega)]
            simp only [s7_k1, cond_true, List.length_nil]
            rfl
          | some b =>
            rw [hgb] at e2 hparts
            simp only at hparts
            obtain ⟨d, rfl, hgd⟩ := hparts
            rw [hgd] at e3
            have hpd := expand_pz (p := { p with Items := p.Items.filter isD ++ [x'] }) had
            have hld := expand_len (p := { p with Items := p.Items.filter isD ++ [x'] }) (by rw [e3])
            rw [e3] at hpd hld
            rw [e2, e3]
            simp only at hla hld hpa hpd ⊢
            rw [decide_eq_false (by simp)]
            have hia : iszl a ≤ 600 * 201 := Nat.le_trans (iszl_all (K := iszl p.Items) a (fun x hx => (hpa x hx).2.2.2.2.1)) (Nat.mul_le_mul hla.1 (by omega))
            have hid : iszl d ≤ 600 * 202 := Nat.le_trans (iszl_all (K := iszl (p.Items.filter isD ++ [x'])) d (fun x hx => (hpd x hx).2.2.2.2.1)) (Nat.mul_le_mul hld.1 (by omega))
            simp only [s7_k1, cond_false, cond_true]
            have la := hla.1
            have ld := hld.1
            rw [if_neg (by simp), if_pos (by rw [wr (by omega) (by omega)]; simp), grd_pos (by simp; omega), List.take_left, List.drop_left,
              (same_refl 8388608).2 a (fun x hx => (hpa x hx).2.1) (by unfold NB; omega) (by unfold NB; omega), (same_refl 8388608).2 d (fun x hx => (hpd x hx).2.1) (by unfold NB; omega) (by unfold NB; omega)]
            rfl
theorem law7 (a0 : Source) (o0 : Source.ok a0) (a1 : Item) (o1 : Item.ok a1) (hb : bulkL [.agg (Source.cs a0), .agg (Item.cs a1)] ≤ 1048576) : PureC Try.prog 7 [.agg (Source.cs a0), .agg (Item.cs a1)] (.bool true) := c7 8388608 a0 a1 true (s7_true hb)
end Go.Proofs.Inc
