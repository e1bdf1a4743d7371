/- Regions run over abstract states; calls by contract. -/
import Derived.Test.YtkmnhomehejppaaAwApp
import Derived.RangeFuncLeaves
set_option linter.unusedSimpArgs false
set_option linter.unusedVariables false
set_option linter.deprecated false
namespace Go.Aw

inductive Res where
  | val (x : AV)
  | pan (c : List PanicEntry)

def okF (P : Program) (f : FuncId) : Bool := (P.funcs[f]?).any (fun fn => fn.body.isSome && fn.name != "runtime.NumGoroutine")

/-- how a call ends, as 'R' says -/
def EndsA (fr : Nat → Prop) (own : Own) (R : Res → Own → Prop) (w : World) (e : Ending) (w' : World) : Prop :=
  ∃ r own', R r own' ∧ (match r with | .val x => ∃ v, e = .returned v ∧ Rel (Fo fr own') w' v x | .pan c => e = .panicked c) ∧ OwnOk fr w' own' ∧ Grow own.has w w' ∧
      (∀ b, own'.has b → own.has b ∨ w.heap.size ≤ b)

theorem EndsA.mono {fr : Nat → Prop} {own : Own} {R R' : Res → Own → Prop} {w w' : World} {e : Ending} (h : EndsA fr own R w e w') (hr : ∀ r o, R r o → R' r o) : EndsA fr own R' w e w' :=
  let ⟨r, o, h4, h5⟩ := h; ⟨r, o, hr _ _ h4, h5⟩

/-- A call, however it is made, with arguments that read as 'args', where 'own' is owned (and 'fr' is others'), ends as 'R' says. -/
def CallG (C : Array Value → World → (Ending → World → Prop) → Prop) (fr : Nat → Prop) (args : List AV) (own : Own) (R : Res → Own → Prop) : Prop :=
  ∀ (vs : Array Value) (w : World), vs.size = args.length → (∀ (j : Nat) (v : Value) (y : AV), vs[j]? = some v → args[j]? = some y → Rel (Fo fr own) w v y) → OwnOk fr w own → C vs w (EndsA fr own R w)

/-- A call of function 'f'. -/
abbrev CallA (P : Program) (fr : Nat → Prop) (f : FuncId) (args : List AV) (own : Own) (R : Res → Own → Prop) : Prop := CallG (Calls P f) fr args own R

theorem CallA.mono {P : Program} {fr : Nat → Prop} {f : FuncId} {args : List AV} {own : Own} {R R' : Res → Own → Prop} (h : CallA P fr f args own R) (hr : ∀ r o, R r o → R' r o) : CallA P fr f args own R' :=
  fun vs w h1 h2 h3 => (h vs w h1 h2 h3).mono fun _ _ h => h.mono hr

/-- A call of the 'yield' of the loop whose record is 'l'. -/
def yieldsC (P : Program) (l : Nat) (vs : Array Value) (w : World) (R : Ending → World → Prop) : Prop :=
  ∃ f tmps assign body, (Instr.yield l vs).run P w = .ok (.round l f tmps assign body) w ∧ RoundIn Fence.wide 0 P l f tmps assign body w R

theorem yieldsC.mono {P : Program} {l : Nat} {vs : Array Value} {w : World} {R R' : Ending → World → Prop} (h : yieldsC P l vs w R) (hr : ∀ e w, R e w → R' e w) : yieldsC P l vs w R' := by
  obtain ⟨f, tmps, as, bd, h1, h2, h3⟩ := h
  refine ⟨f, tmps, as, bd, h1, h2, fun c cs hr' => ?_⟩
  obtain ⟨e, w', h4, h5⟩ := h3 c cs hr'
  exact ⟨e, w', hr _ _ h4, h5⟩

/-- A call of a function's value. -/
def ValA (P : Program) (fr : Nat → Prop) (v : AV) (args : List AV) (own : Own) (R : Res → Own → Prop) : Prop :=
  match v with
  | .fn (.func f) first cap => okF P f = true ∧ CallA P fr f (first ++ args ++ cap) own R
  | .fn (.yield l) [] [] => CallG (yieldsC P l) fr args own R
  | _ => False

/-- The contract of a function's value, whoever calls. -/
def ValC (P : Program) (v : AV) (args : List AV) (own : Own) (R : Res → Own → Prop) : Prop := ∀ fr : Nat → Prop, ValA P fr v args own R

/-- The function's contract, whoever calls. -/
def FnC (P : Program) (f : FuncId) (args : List AV) (own : Own) (R : Res → Own → Prop) : Prop := ∀ fr : Nat → Prop, CallA P fr f args own R

def guardP (g : Option (Nat × Bool)) (s : Slots) (yes no : Prop) : Prop :=
  match g with
  | none => yes
  | some (t, b) => match s.get t with
    | .bool b' => if b' = b then yes else no
    | .tup [] => no
    | _ => False

def callK (K : Slots → Own → Prop) (Q : Exit → Slots → Own → Prop) (d : Option Nat) (s : Slots) : Res → Own → Prop
  | .val x, own => K (putS d x s) own
  | .pan c, own => Q (.panic c) s own

/-- One operation. -/
def opA (X : Cx) (Q : Exit → Slots → Own → Prop) (d : Option Nat) (op : AOp) (s : Slots) (own : Own) (K : Slots → Own → Prop) : Prop :=
  match op with
  | .alloc zs => ∀ b, K (putS d (.ptr (d.getD 0) b 0) s) ((d.getD 0, b, .cells zs) :: own)
  | .box x => (x.ev s).stor = true ∧ ∀ b, K (putS d (.ptr (d.getD 0) b 0) s) ((d.getD 0, b, .cells (x.ev s).cells) :: own)
  | .mkrow sz n zs ps => match fillA (List.replicate n zs).flatten (ps.map fun p => (p.1, p.2.1, p.2.2.ev s)) with
    | some cs => ∀ b, K (putS d (.row (d.getD 0) b 0 n sz) s) ((d.getD 0, b, .cells cs) :: own)
    | _ => False
  | .store sz p x => match p.ev s with
    | .ptr k b o => match own.find k b with
      | some (.cells cs) => (x.ev s).stor = true ∧ (x.ev s).cells.length = sz ∧ o + sz ≤ cs.length ∧ K (putS d (.tup []) s) (own.put k (.cells (cs.take o ++ (x.ev s).cells ++ cs.drop (o + sz))))
      | _ => False
    | _ => False
  | .app sz bytes x y => 0 < sz ∧ appA own d sz bytes (x.ev s) (y.ev s) s K
  | .callF f args => CallA X.P X.fr f (args.map (·.ev s)) own (callK K Q d s)
  | .callV v args => ValA X.P X.fr (v.ev s) (args.map (·.ev s)) own (callK K Q d s)
  | op => op.step s own fun x => K (putS d x s) own

def runA (X : Cx) (Q : Exit → Slots → Own → Prop) (K : Slots → Own → Prop) : List AO → Slots → Own → Prop
  | [], s, own => K s own
  | o :: r, s, own => guardP o.g s (opA X Q o.d o.op s own (runA X Q K r)) (runA X Q K r (putS o.d (.tup []) s) own)

def liftQ (X : Cx) (Q : Exit → Slots → Own → Prop) : Exit → Act → World → Prop := fun e a w => ∃ s own, Q e s own ∧ Rep X s own a w

section
variable {X : Cx} {s : Slots} {own : Own} {a : Act} {w : World}

theorem rel_undef (F : Nat → Prop) (w : World) : Rel F w undef (.tup []) := .tup _ _ rfl (by simp)

theorem guard_sound (R : Rep X s own a w) (ops : Array Oper) (o : Oper) (n : Nat) (ao : AO) (hc : compO X.P n ops o = some ao) {yes no : Prop} (h : guardP ao.g s yes no) :
    (Region.wanted o (yielded ops a.tmps) = true ∧ yes) ∨ (Region.wanted o (yielded ops a.tmps) = false ∧ no) := by
  unfold compO at hc
  split at hc
  · cases hg : o.guard with
    | none =>
      simp only [hg] at hc
      cases hcp : comp X.P o with
      | none => simp [hcp] at hc
      | some op =>
        simp only [hcp, Option.map_some, Option.some.injEq] at hc
        subst hc
        exact .inl ⟨by simp [Region.wanted, hg], h⟩
    | some jb =>
      obtain ⟨j, want⟩ := jb
      simp only [hg] at hc
      cases hd : (ops[j]?).bind (·.dst) with
      | none => simp [hd] at hc
      | some t =>
        cases hcp : comp X.P o with
        | none => simp [hd, hcp] at hc
        | some op =>
          simp only [hd, hcp, Option.map_some, Option.bind_some, Option.some.injEq] at hc
          subst hc
          simp only [guardP] at h
          have ht := R.tm t
          have hy : yielded ops a.tmps j = match a.tmps[t]? with | some (.bool b) => some b | _ => none := by
            unfold yielded
            rw [hd]
            rfl
          cases hs : s.get t with
          | bool b' =>
            rw [hs] at ht
            simp only [hs] at h
            have hb : a.tmps[t]? = some (.bool b') := by
              cases hv : a.tmps[t]? with
              | none =>
                rw [Array.getD_eq_getD_getElem?, hv] at ht
                cases ht
              | some v =>
                rw [Array.getD_eq_getD_getElem?, hv] at ht
                simp at ht
                cases ht
                rfl
            rw [hb] at hy
            simp only [Region.wanted, hg, hy]
            by_cases hbb : b' = want
            · rw [if_pos hbb] at h
              exact .inl ⟨by simp [hbb], h⟩
            · rw [if_neg hbb] at h
              exact .inr ⟨by simp [hbb], h⟩
          | tup vs =>
            cases vs with
            | cons _ _ => simp [hs] at h
            | nil =>
              rw [hs] at ht
              simp only [hs] at h
              have : yielded ops a.tmps j = none := by
                rw [hy]
                cases hv : a.tmps[t]? with
                | none => rfl
                | some v =>
                  rw [Array.getD_eq_getD_getElem?, hv] at ht
                  simp at ht
                  cases ht
                  rfl
              exact .inr ⟨by simp [Region.wanted, hg, this], h⟩
          | _ => simp [hs] at h
  · cases hc

theorem compO_op {P : Program} {n : Nat} {ops : Array Oper} {o : Oper} {ao : AO} (hc : compO P n ops o = some ao) : comp P o = some ao.op ∧ ao.d = o.dst ∧ o.dst.all (· < n) = true := by
  unfold compO at hc
  split at hc
  · rename_i hall
    cases hg : o.guard with
    | none =>
      simp only [hg] at hc
      cases hcp : comp P o with
      | none => simp [hcp] at hc
      | some op =>
        simp only [hcp, Option.map_some, Option.some.injEq] at hc
        subst hc
        exact ⟨rfl, rfl, hall⟩
    | some jb =>
      obtain ⟨j, want⟩ := jb
      simp only [hg] at hc
      cases hd : (ops[j]?).bind (·.dst) with
      | none => simp [hd] at hc
      | some t =>
        cases hcp : comp P o with
        | none => simp [hd, hcp] at hc
        | some op =>
          simp only [hd, hcp, Option.map_some, Option.bind_some, Option.some.injEq] at hc
          subst hc
          exact ⟨rfl, rfl, hall⟩
  · cases hc

theorem zeroRow (z : Array Value) (n : Nat) (hz : 0 < z.size) : ((Array.range (n * z.size)).map (z[· % z.size]!)).toList = (List.replicate n z.toList).flatten := by
  apply List.ext_getElem?
  intro i
  rw [Array.toList_map, List.getElem?_map]
  have hlen : (List.replicate n z.toList).flatten.length = n * z.size := by simp
  by_cases hi : i < n * z.size
  · have h1 : (List.replicate n z.toList).flatten[i]? = some (z[i % z.size]'(Nat.mod_lt _ hz)) := by
      clear hlen
      induction n generalizing i with
      | zero => simp at hi
      | succ n ih =>
        rw [List.replicate_succ, List.flatten_cons]
        by_cases hlt : i < z.size
        · rw [List.getElem?_append_left (by simpa using hlt)]
          simp [Nat.mod_eq_of_lt hlt, hlt]
        · rw [List.getElem?_append_right (by simpa using Nat.le_of_not_lt hlt)]
          have := ih (i - z.size) (by rw [Nat.add_mul] at hi; omega)
          simp only [Array.length_toList]
          rw [this]
          congr 2
          exact (Nat.mod_eq_sub_mod (Nat.le_of_not_lt hlt)).symm
    rw [h1]
    simp only [Array.toList_range, List.getElem?_range hi, Option.map_some]
    congr 1
    rw [getElem!_pos z (i % z.size) (Nat.mod_lt _ hz)]
  · rw [List.getElem?_eq_none (by simp; omega), List.getElem?_eq_none (by rw [hlen]; omega)]
    rfl


/-- every function may be called, however deep; in a round of the loop 'r' -/
def wideR (r : Option Nat) : Fence := { Fence.wide with round := r }
theorem wideR_fn (r : Option Nat) (f : FuncId) : (wideR r).fn f := trivial
theorem callsIn_wideR {r : Option Nat} {n : Nat} {P : Program} {f : FuncId} {args : Array Value} {w : World} {R : Ending → World → Prop} : CallsIn (wideR r) n P f args w R ↔ Calls P f args w R := callsIn_wide

/-- what an operation must come to -/
def OpOut (X : Cx) (Q : Exit → Slots → Own → Prop) (K : Slots → Own → Prop) (o : Oper) (a : Act) (w : World) : Prop :=
  ∀ (next : Act → World → Prop) (Q' : Exit → Act → World → Prop), (∀ s' own' a' w', K s' own' → Rep X s' own' a' w' → next a' w') → (∀ c a' w', liftQ X Q (.panic c) a' w' → Q' (.panic c) a' w') → o.wpIn (wideR X.rd) 0 X.P a w next Q'

theorem OpOut.of_run {o' : Oper} (hnd : ∀ c, o'.op ≠ .defer c) {Q : Exit → Slots → Own → Prop} {K : Slots → Own → Prop} {v : Value} {w' : World} (hrun : (execOp a.eval o').run X.P w = .ok (.value v) w') {s' : Slots} {own' : Own} (hK : K s' own') (hR : Rep X s' own' (a.put o'.dst v) w') : OpOut X Q K o' a w := by
  intro next Q' hn _
  refine ⟨fun _ _ => trivial, ?_⟩
  rw [Oper.semAt_eq _ _ _ hnd, hrun]
  exact hn _ _ _ _ hK hR

theorem o_alloc (R : Rep X s own a w) (o : Oper) (hd : o.dst.all (· < X.n) = true) (t : TypeId) (ho : o.op = .alloc t) (op : AOp) (hc : comp X.P o = some op) {Q : Exit → Slots → Own → Prop} {K : Slots → Own → Prop} (h : opA X Q o.dst op s own K) : OpOut X Q K o a w := by
  simp only [comp, ho] at hc
  obtain ⟨j, z, hi, hz, hall, hf⟩ := zeros_some hc
  simp only [Option.some.injEq] at hf
  subst hf
  have hrun : (execOp a.eval o).run X.P w = .ok (.value (.pointer (some ⟨w.heap.size, 0, none⟩))) (w.alloc (.cells z.cells t)) := by
    simp [execOp, ho, Instr.alloc, zeroValue, run_tinfo hi, hz, newVar, newRow]
  have hrc := relC_zeros (Fo X.fr own) w z hall
  refine .of_run (by simp [ho]) hrun (h w.heap.size) ((R.alloc (o.dst.getD 0) z.cells t _ (by simp) (fun i x hx => ?_)).put o.dst hd (.ptr _ _ _))
  have hlt : i < z.cells.size := by have := (List.getElem?_eq_some_iff.1 hx).1; simpa using this
  exact ⟨_, Array.getElem?_eq_getElem hlt, hrc.one i _ (Array.getElem?_eq_getElem hlt), hrc.rel i _ _ (Array.getElem?_eq_getElem hlt) hx⟩

theorem o_box (R : Rep X s own a w) (o : Oper) (hd : o.dst.all (· < X.n) = true) (t : TypeId) (p : Operand) (ho : o.op = .box t p) {Q : Exit → Slots → Own → Prop} {K : Slots → Own → Prop} (h : opA X Q o.dst (.box (od p)) s own K) : OpOut X Q K o a w := by
  obtain ⟨hs, h⟩ := h
  have hrun : (execOp a.eval o).run X.P w = .ok (.value (.pointer (some ⟨w.heap.size, 0, none⟩))) (w.alloc (.cells (a.eval p).cells t)) := by
    simp [execOp, ho, Instr.box, newVar, newRow]
  have hrc := (R.od p).relC hs
  have hl := hrc.len
  refine .of_run (by simp [ho]) hrun (h w.heap.size) ((R.alloc (o.dst.getD 0) _ t _ (by omega) (fun i x hx => ?_)).put o.dst hd (.ptr _ _ _))
  have hlt : i < (a.eval p).cells.size := by have := (List.getElem?_eq_some_iff.1 hx).1; omega
  exact ⟨_, Array.getElem?_eq_getElem hlt, hrc.one i _ (Array.getElem?_eq_getElem hlt), hrc.rel i _ _ (Array.getElem?_eq_getElem hlt) hx⟩

theorem o_store (R : Rep X s own a w) (o : Oper) (hd : o.dst.all (· < X.n) = true) (t : TypeId) (p q : Operand) (ho : o.op = .store t p q) (op : AOp) (hc : comp X.P o = some op) {Q : Exit → Slots → Own → Prop} {K : Slots → Own → Prop} (h : opA X Q o.dst op s own K) : OpOut X Q K o a w := by
  simp only [comp, ho] at hc
  cases hi : X.P.info? t with
  | none => simp [hi] at hc
  | some i =>
    simp only [hi, Option.map_some, Option.some.injEq] at hc
    subst hc
    simp only [opA] at h
    have hp := R.od p
    cases hv : (od p).ev s with
    | ptr k b o' =>
      rw [hv] at hp
      simp only [hv] at h
      cases hf : own.find k b with
      | none => simp [hf] at h
      | some ob =>
        obtain ⟨cs⟩ | ⟨_, _⟩ := ob
        rotate_left
        · simp [hf] at h
        simp only [hf] at h
        obtain ⟨hs, hl, hle, h⟩ := h
        have hrc := (R.od q).relC hs
        have hrl := hrc.len
        generalize hep : a.eval p = v at hp
        cases hp
        obtain ⟨h1, h2, hR⟩ := R.store (o := o') hf hrc (by omega) (fun T sz _ hh => by omega)
        have hst := run_storeCells_cells (P := X.P) b o' (a.eval q).cells.toList 0 w (by simpa using h1) (by simpa using h2) (fun v hv => by
          obtain ⟨j, hj⟩ := List.getElem?_of_mem hv
          exact hrc.one j v (by simpa using hj))
        simp only [Nat.add_zero] at hst
        have hrun : (execOp a.eval o).run X.P w = .ok .skip (w.setCells b o' (a.eval q).cells.toList) := by
          have hsz : (a.eval q).cells.size = i.size := by omega
          simp [execOp, ho, hep, Instr.storeAt, Instr.sureAddr, storeVar, run_size hi, hsz, hst]
        intro next Q' hn _
        refine ⟨fun _ _ => trivial, ?_⟩
        rw [Oper.semAt_eq _ _ _ (by simp [ho]), hrun]
        rw [hl] at hR
        exact hn _ _ _ _ h (hR.put o.dst hd (rel_undef _ _))
    | _ => simp [hv] at h

theorem fillA_len : ∀ (qs : List (Nat × Nat × AV)) (zs cs : List AV), fillA zs qs = some cs → cs.length = zs.length
  | [], zs, cs, h => by simp only [fillA, Option.some.injEq] at h; rw [h]
  | (off, sz, x) :: r, zs, cs, h => by
    simp only [fillA] at h
    split at h
    · rename_i hc
      rw [fillA_len r _ _ h]
      simp [hc.1]
      omega
    · cases h

theorem fill_flat_parts (R : Rep X s own a w) (l : List (Nat × Operand)) (sz : Nat) (zs cs : List AV) (cells : Array Value) (hz : RelC (Fo X.fr own) w cells zs)
    (h : fillA zs ((l.map fun x => (x.1 * sz, sz, od x.2)).map fun p => (p.1, p.2.1, p.2.2.ev s)) = some cs) :
    ∃ cv, Instr.fill (fun i => some (i * sz, sz)) cells (l.map fun x => (x.1, a.eval x.2)) = some cv ∧ RelC (Fo X.fr own) w cv cs := by
  refine RelC.fill _ _ _ _ _ _ hz (by simp) (fun j p q hp hq => ?_) h
  simp only [List.getElem?_map] at hp hq
  cases hl : l[j]? with
  | none => simp [hl] at hp
  | some x =>
    simp only [hl, Option.map_some, Option.some.injEq] at hp hq
    subst hp hq
    exact ⟨rfl, R.od x.2⟩

theorem o_mkrow (R : Rep X s own a w) (o : Oper) (hd : o.dst.all (· < X.n) = true) (t : TypeId) (n : Nat) (ps : Array (Nat × Operand)) (ho : o.op = .buildSlice t n ps) (op : AOp) (hc : comp X.P o = some op) {Q : Exit → Slots → Own → Prop} {K : Slots → Own → Prop} (h : opA X Q o.dst op s own K) : OpOut X Q K o a w := by
  simp only [comp, ho] at hc
  cases hu : X.P.underlying t with
  | none => simp [hu] at hc
  | some d =>
    cases d <;> try (simp [hu] at hc; done)
    rename_i e
    cases hj : X.P.info? e with
    | none => simp [hu, hj] at hc
    | some j =>
      simp only [hu, hj, Option.bind_some] at hc
      obtain ⟨j', z, hj', hz, hall, hf⟩ := zeros_some hc
      rw [hj] at hj'
      cases hj'
      split at hf
      · rename_i hsz
        obtain ⟨h1, h2, h3⟩ := hsz
        simp only [Option.some.injEq] at hf
        subst hf
        simp only [opA] at h
        cases hfa : fillA (List.replicate n (z.cells.toList.map avOf)).flatten ((ps.toList.map fun x => (x.1 * j.size, j.size, od x.2)).map fun p => (p.1, p.2.1, p.2.2.ev s)) with
        | none => exact (by rw [hfa] at h; exact h.elim)
        | some cs =>
          rw [hfa] at h
          have hzc : z.cells.size = j.size := by simpa using h1
          have hrz := relC_zeros (Fo X.fr own) w z hall
          have hz0 : RelC (Fo X.fr own) w ((Array.range (n * j.size)).map (z.cells[· % z.cells.size]!)) (List.replicate n (z.cells.toList.map avOf)).flatten := by
            have hzr := zeroRow z.cells n (by omega)
            rw [hzc] at hzr
            have hav : (List.replicate n (z.cells.toList.map avOf)).flatten = ((List.replicate n z.cells.toList).flatten).map avOf := by
              rw [List.map_flatten, List.map_replicate]
            rw [hzc, hav, ← hzr]
            have hone : ∀ (i : Nat) (v : Value), ((Array.range (n * j.size)).map (z.cells[· % j.size]!))[i]? = some v → v.oneCell' = true := by
              intro i v hv
              have hm : v ∈ (List.replicate n z.cells.toList).flatten := by
                rw [← hzr]
                exact List.mem_of_getElem? (i := i) (by rw [Array.getElem?_toList]; exact hv)
              obtain ⟨l, hl, hvl⟩ := List.mem_flatten.1 hm
              rw [(List.mem_replicate.1 hl).2] at hvl
              exact List.all_eq_true.1 hall v hvl
            refine ⟨by simp, hone, fun i v y hv hy => ?_⟩
            rw [List.getElem?_map] at hy
            rw [← Array.getElem?_toList] at hv
            rw [hv] at hy
            simp at hy
            subst hy
            exact rel_avOf _ _ _
          obtain ⟨cv, hcv, hrc⟩ := fill_flat_parts R ps.toList j.size _ cs _ hz0 hfa
          have hrl := hrc.len
          have hrun : (execOp a.eval o).run X.P w = .ok (.value (.slice (some ⟨w.heap.size, 0, none⟩) n n)) (w.alloc (.cells cv e)) := by
            have hbig : ¬ (16777216 < n * j.size) := by omega
            by_cases h0 : n * j.size = 0
            · have e1 : ∀ f : Nat → Value, Array.map f (Array.range 0) = #[] := fun f => Array.eq_empty_of_size_eq_zero (by simp)
              have hn : n = 0 := by
                rcases Nat.mul_eq_zero.1 h0 with h | h
                · exact h
                · omega
              subst hn
              have e0 : (Array.range (0 * j.size)).map (z.cells[· % z.cells.size]!) = #[] := by rw [Nat.zero_mul]; exact e1 _
              rw [e0] at hcv
              simp [execOp, ho, Instr.buildSlice, run_underlying hu, run_size hj, newRow, hcv, e1]
            · simp [execOp, ho, Instr.buildSlice, run_underlying hu, run_size hj, zeroValue, run_tinfo hj, hz, hbig, h0, newRow, hcv]
          refine .of_run (by simp [ho]) hrun (h w.heap.size) ((R.alloc (o.dst.getD 0) cv e cs (by omega) (fun i x hx => ?_)).put o.dst hd (.row _ _ _ _ _ n cv.size e (Nat.le_refl _) ?_ ?_))
          · have hlt : i < cv.size := by have := (List.getElem?_eq_some_iff.1 hx).1; omega
            exact ⟨_, Array.getElem?_eq_getElem hlt, hrc.one i _ (Array.getElem?_eq_getElem hlt), hrc.rel i _ _ (Array.getElem?_eq_getElem hlt) hx⟩
          · have : (w.alloc (.cells cv e)).heap[w.heap.size]? = some (.cells cv e) := by
              show (w.heap.push _)[w.heap.size]? = _
              simp
            simp only [World.shape?, this]
          · have hfl := fillA_len _ _ _ hfa
            simp only [List.length_flatten, List.map_replicate, List.sum_replicate_nat, List.length_map, Array.length_toList, hzc] at hfl
            omega
      · cases hf
end
end Go.Aw
