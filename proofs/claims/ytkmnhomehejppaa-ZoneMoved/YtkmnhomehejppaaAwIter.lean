/- Words for ranges over functions and functions' values. -/
import Derived.Test.YtkmnhomehejppaaAwSimp
import Derived.Test.YtkmnhomehejppaaAwFrz
set_option linter.unusedSimpArgs false
set_option linter.unusedVariables false
set_option linter.deprecated false
namespace Go.Aw

theorem valC_fn {P : Program} {f : FuncId} {first cap args : List AV} {own : Own} {R : Res → Own → Prop} (hok : okF P f = true) (h : FnC P f (first ++ args ++ cap) own R) : ValC P (.fn (.func f) first cap) args own R := fun fr => ⟨hok, h fr⟩

/-- a function's value that gives 'x' and leaves no trace -/
def PureV (P : Program) (v : AV) (args : List AV) (x : AV) : Prop := ValC P v args [] fun r o => r = .val x ∧ o = []
theorem val_pure {X : Cx} {Q : Post} {K : Slots → Own → Prop} {d : Option Nat} {r : List AO} {s : Slots} {own : Own} {P : Program} {v : AV} {args : List AV} {x : AV} (hP : X.P = P) (h : PureV P v args x) (hk : goA X Q K d r s own x) : CalV X Q K d r s own v args :=
  val_at (hand := []) (rest := own) hP h (List.Perm.refl _) (by rintro _ _ ⟨rfl, rfl⟩; exact hk)

theorem awp_perm {X : Cx} {s : Slots} {own : Own} (own' : Own) {Q : Post} {x : AC} (hp : own.Perm own') (hk : AWP X x s own' Q) : AWP X x s own Q :=
  awp_ent (fun _ _ R => R.reown own' (fun e he => ⟨e, hp.mem_iff.2 he, rfl, ObLe.refl _⟩) ((hp.map _).nodup_iff.1 R.ok.nodup)) hk

theorem Frz.fn1 {fz : Own} {f : Fn} {x y : AV} (h : Frz fz x y) : Frz fz (.fn f [] [x]) (.fn f [] [y]) :=
  .fn f [] [x] [] [y] rfl rfl (by simp) (fun j c z hc hz => by
    cases j with
    | zero =>
      simp only [List.getElem?_cons_zero, Option.some.injEq] at hc hz
      rw [← hc, ← hz]
      exact h
    | succ j => simp at hc)
theorem Frz.fn2 {fz : Own} {f : Fn} {x y x' y' : AV} (h : Frz fz x y) (h' : Frz fz x' y') : Frz fz (.fn f [] [x, x']) (.fn f [] [y, y']) :=
  .fn f [] [x, x'] [] [y, y'] rfl rfl (by simp) (fun j c z hc hz => by
    match j with
    | 0 =>
      simp only [List.getElem?_cons_zero, Option.some.injEq] at hc hz
      rw [← hc, ← hz]
      exact h
    | 1 =>
      simp only [List.getElem?_cons_succ, List.getElem?_cons_zero, Option.some.injEq] at hc hz
      rw [← hc, ← hz]
      exact h'
    | j + 2 => simp at hc)

section
variable {P : Program} {n k l : Nat} {ps : List Nat} {x y : AC} {st : LoopState} {s s' : Slots} {Q : Post} {own : Own} {v : AV}
theorem rangeK_none (hf : own.find k l = some (.loop s' (LP P n ps x y st none))) (hs : st ≠ .busy) (hq : Q .normal s (own.drop k)) : rangeK k l s Q (.val v) own :=
  ⟨s', _, hf, none, fun r ⟨h1, h2, _⟩ => ⟨h1 ▸ hs, h2⟩, hq⟩
theorem rangeK_ret (hf : own.find k l = some (.loop s' (LP P n ps x y st (some .ret)))) (hs : st ≠ .busy) (hq : Q .ret s (own.drop k)) : rangeK k l s Q (.val v) own :=
  ⟨s', _, hf, some .ret, fun r ⟨h1, h2, _⟩ => ⟨h1 ▸ hs, h2⟩, hq⟩
theorem rangeK_exit {id : Nat} (hf : own.find k l = some (.loop s' (LP P n ps x y st (some (.exit id))))) (hs : st ≠ .busy) (hq : Q (.exit id) s (own.drop k)) : rangeK k l s Q (.val v) own :=
  ⟨s', _, hf, some (.exit id), fun r ⟨h1, h2, _⟩ => ⟨h1 ▸ hs, h2⟩, hq⟩
theorem putAll_cons {t : Nat} {r : List Nat} {a : AV} {xs : List AV} : putAll (t :: r) (a :: xs) s = putAll r xs ((t, a) :: s) := by rfl
theorem putAll_nil : putAll [] [] s = s := by rfl
theorem leaves_app {o rest : Own} {G : Own → Prop} (h : G o) : Leaves (o ++ rest) G := ⟨o, by rw [List.map_append]; exact List.sublist_append_left _ _, h⟩
end
section
variable {X : Cx} {Q : Post} {K : Slots → Own → Prop} {r : List AO} {s : Slots} {own : Own} {t : Nat}
theorem boxA_int {k : IntKind} {n : Int} : boxA X Q K t r s own (.int k n) = ∀ b, runA X Q K r ((t, .ptr t b 0) :: s) ((t, b, .cells [.int k n]) :: own) := boxA_one rfl rfl
theorem boxA_bool {c : Bool} : boxA X Q K t r s own (.bool c) = ∀ b, runA X Q K r ((t, .ptr t b 0) :: s) ((t, b, .cells [.bool c]) :: own) := boxA_one rfl rfl
theorem boxA_str {l : List UInt8} : boxA X Q K t r s own (.str l) = ∀ b, runA X Q K r ((t, .ptr t b 0) :: s) ((t, b, .cells [.str l]) :: own) := boxA_one rfl rfl
theorem boxA_fn {f : Go.Fn} {p q : List AV} : boxA X Q K t r s own (.fn f p q) = ∀ b, runA X Q K r ((t, .ptr t b 0) :: s) ((t, b, .cells [.fn f p q]) :: own) := boxA_one rfl rfl
theorem boxA_sl {l : List AV} : boxA X Q K t r s own (.sl l) = ∀ b, runA X Q K r ((t, .ptr t b 0) :: s) ((t, b, .cells [.sl l]) :: own) := boxA_one rfl rfl
theorem boxA_nil : boxA X Q K t r s own .nil = ∀ b, runA X Q K r ((t, .ptr t b 0) :: s) ((t, b, .cells [.nil]) :: own) := boxA_one rfl rfl
theorem boxA_row {k' b' o' n z : Nat} : boxA X Q K t r s own (.row k' b' o' n z) = ∀ b, runA X Q K r ((t, .ptr t b 0) :: s) ((t, b, .cells [.row k' b' o' n z]) :: own) := boxA_one rfl rfl
theorem boxA_ptr {k' b' o' : Nat} : boxA X Q K t r s own (.ptr k' b' o') = ∀ b, runA X Q K r ((t, .ptr t b 0) :: s) ((t, b, .cells [.ptr k' b' o']) :: own) := boxA_one rfl rfl
theorem boxA_ref {l : List AV} : boxA X Q K t r s own (.ref l) = ∀ b, runA X Q K r ((t, .ptr t b 0) :: s) ((t, b, .cells [.ref l]) :: own) := boxA_one rfl rfl
end
attribute [go_sem] boxA_int boxA_bool boxA_str boxA_fn boxA_sl boxA_nil boxA_row boxA_ptr boxA_ref
/-- list by list -/
inductive FrzL (fz : Own) : List AV → List AV → Prop where
  | nil : FrzL fz [] []
  | cons {x y : AV} {l m : List AV} (h : Frz fz x y) (hs : FrzL fz l m) : FrzL fz (x :: l) (y :: m)
theorem FrzL.get {fz : Own} {l m : List AV} (h : FrzL fz l m) : l.length = m.length ∧ ∀ (j : Nat) (x y : AV), l[j]? = some x → m[j]? = some y → Frz fz x y := by
  induction h with
  | nil => exact ⟨rfl, fun j x y h => by simp at h⟩
  | cons h hs ih =>
    refine ⟨by simp [ih.1], fun j x y hx hy => ?_⟩
    cases j with
    | zero =>
      simp only [List.getElem?_cons_zero, Option.some.injEq] at hx hy
      rw [← hx, ← hy]
      exact h
    | succ j => exact ih.2 j x y (by simpa using hx) (by simpa using hy)

theorem OwnOk.less {fr : Nat → Prop} {w : World} {own own' : Own} (h : OwnOk fr w own) (hs : ∀ e, e ∈ own' → e ∈ own) (hn : (own'.map fun e => e.2.1).Nodup) : OwnOk fr w own' := by
  have hh : ∀ b, own'.has b → own.has b := fun b hb => by
    obtain ⟨e, he, rfl⟩ := List.mem_map.1 hb
    exact List.mem_map.2 ⟨e, hs e he, rfl⟩
  exact ⟨fun e he => (h.holds e (hs e he)).mono (Grow.refl (fun _ => False) w) (fun _ f => f.elim) (fun f => f) (fun b _ hb => hb.imp id (hh b)), hn, fun b hb => h.apart b (hh b hb), h.fr⟩

/-- A contract at a call: 'fz' is given up. -/
theorem callA_frz {P : Program} {fr : Nat → Prop} {f : FuncId} {args args' : List AV} {own : Own} (fz rest : Own) {R : Res → Own → Prop} (hp : own.Perm (fz ++ rest)) (hz : FrzL fz args' args) (h : CallA P fr f args rest R) : CallA P fr f args' own R := by
  intro vs w hl hr hok
  obtain ⟨hzl, hz⟩ := hz.get
  have h1 : OwnOk fr w (fz ++ rest) := hok.less (fun e he => hp.mem_iff.2 he) ((hp.map _).nodup_iff.1 hok.nodup)
  have hnd := h1.nodup
  rw [List.map_append] at hnd
  have h2 : OwnOk fr w rest := h1.less (fun e he => List.mem_append_right _ he) (List.nodup_append.1 hnd).2.1
  have hhas : ∀ b, rest.has b → own.has b := fun b hb => by
    obtain ⟨e, he, rfl⟩ := List.mem_map.1 hb
    exact List.mem_map.2 ⟨e, hp.mem_iff.2 (List.mem_append_right _ he), rfl⟩
  have hF : ∀ b, Fo fr (fz ++ rest) b → Fo fr own b := fun b hb => hb.imp id (fun hb => by
    obtain ⟨e, he, rfl⟩ := List.mem_map.1 hb
    exact List.mem_map.2 ⟨e, hp.mem_iff.2 he, rfl⟩)
  refine (h vs w (by omega) (fun j v y hv hy => ?_) h2).mono ?_
  · have hlt : j < args'.length := by rw [hzl]; exact (List.getElem?_eq_some_iff.1 hy).1
    have hx := List.getElem?_eq_getElem hlt
    exact frz_rel h1 (hz j _ y hx hy) ((hr j v _ hv hx).mono (Grow.refl _ _) (fun b _ hb => hF b hb))
  · rintro e w' ⟨r, own', hR, he, hok', hg, hnew⟩
    exact ⟨r, own', hR, he, hok', hg.mono (fun b _ hb => hhas b hb), fun b hb => (hnew b hb).imp (hhas b) id⟩

theorem call_pureF {X : Cx} {Q : Post} {K : Slots → Own → Prop} {d : Option Nat} {r : List AO} {s : Slots} {own : Own} {P : Program} {f : FuncId} {args args' : List AV} {x : AV} (hP : X.P = P) (fz rest : Own) (hp : own.Perm (fz ++ rest)) (hz : FrzL fz args' args)
    (h : PureC P f args x) (hk : goA X Q K d r s rest x) : CallS X Q K d r s own f args' := by
  subst hP
  exact callA_frz fz rest hp hz (call_of (hand := []) (rest := rest) h (List.Perm.refl _) (by rintro _ _ ⟨rfl, rfl⟩; exact hk))
attribute [go_sem] putAll_cons putAll_nil
end Go.Aw
