/- For every argument of bulk at most 1048576, estoppellaw09.IncludeParameter returns true and leaves its arguments as they were. (Part 7 of what its proof rests on.) -/
import Derived.ChangeShapes
import Derived.ChangeReads
import Derived.ChangeOld
import Derived.ChangeArms
import Derived.OpenShut
import Derived.ChangeSame
import Derived.RowKit
import Derived.Test.YtpbhebjfblidlaaPf
set_option linter.unusedSimpArgs false
set_option linter.unusedVariables false
set_option linter.deprecated false
namespace Go.Proofs.Inc
open Go.Aw
theorem indexByte_lt (c : UInt8) : ∀ (l : List UInt8), -1 ≤ Lib.indexByte l c ∧ Lib.indexByte l c < (l.length : Int)
  | [] => by simp [Lib.indexByte]
  | b :: l => by
    have := indexByte_lt c l
    simp only [Lib.indexByte, List.length_cons]
    split
    · omega
    · split
      · omega
      · rename_i h; simp at h; omega
def cutd (n : Str) : Str × Str × Bool := if 0 ≤ Lib.indexByte n 46 then (n.take (Lib.indexByte n 46).toNat, n.drop (Lib.indexByte n 46 + 1).toNat, true) else (n, [], false)
theorem s43_eq {N : Nat} {n : Str} (h : n.length ≤ 1099511627776) : s43 N n = some (cutd n) := by
  have := indexByte_lt 46 n
  simp only [s43, s46, Option.bind_some, cutd]
  by_cases h0 : 0 ≤ Lib.indexByte n 46
  · rw [if_pos h0, grd_pos (by omega), grd_pos ⟨by rw [wr (by omega) (by omega)]; omega, by rw [wr (by omega) (by omega)]; omega⟩, wr (by omega) (by omega), if_pos h0]
    rfl
  · rw [if_neg h0, if_neg h0]
    rfl
def means (n : Str) (y : Item) : Bool := (clause y.Kind && decide (y.Name = n)) || (decide (y.Kind = 14) && (cutd n).2.2 && decide (y.Name = (cutd n).1))
def loc (t : Item) (n : Str) : Bool := t.Items.any (means n)
theorem s45_eq {N : Nat} {y : Item} {n : Str} : s45 N y n (cutd n).2.2 (cutd n).1 = some (means n y) := by
  simp only [s45, s35_eq, Option.bind_some, means]
  cases clause y.Kind <;> cases (cutd n).2.2 <;> by_cases h1 : y.Name = n <;> by_cases h2 : y.Kind = 14 <;> simp [h1, h2]
theorem s41_eq {N : Nat} {t : Item} {n : Str} (hn : n.length ≤ 1099511627776) (hN : t.Items.length < N) (hl : t.Items.length ≤ NB) : s41 N t n = some (loc t n) := by
  have hb : iter (fun p => s47_b1 N t.Items n (cutd n).2.2 (cutd n).1 p) N 0 = some _ := iter_list (fun (_ : Unit) i => i) () t.Items (fun i _ a => if means n a then .inr (.ret (i : Int)) else .inl ()) (fun _ => .brk ()) (fun _ _ => True) (fun i s a hi _ => by
    obtain ⟨ha, hlt⟩ := getI hi
    refine ⟨?_, fun _ _ => trivial⟩
    simp only [s47_b1, NB] at *
    rw [if_pos (by omega), grd_pos (by omega), toNat_nat, ha, wr_succ (by omega), s45_eq]
    cases means n a <;> simp) (fun s _ => by
    simp only [s47_b1]
    rw [if_neg (by omega)]) hN trivial
  simp only [s41, s43_eq hn, Option.bind_some, s44, s47]
  rw [hb, runL_find]
  simp only [Option.bind_some, loc]
  have hany : t.Items.any (means n) = (t.Items.findIdx? (means n)).isSome := by rw [List.findIdx?_isSome]
  rw [hany]
  cases t.Items.findIdx? (means n) with
  | none => rfl
  | some j => simp [Ou.on]
theorem runL_set {α ρ : Type} {g : α → α} {fin : List α → ρ} : ∀ (l pre : List α), runL (fun i s (a : α) => .inl (s.set i (g a))) fin pre.length (pre ++ l) l = fin (pre ++ l.map g)
  | [], pre => by simp [runL]
  | a :: l, pre => by
    rw [runL]
    simp only [List.set_append_right pre.length (g a) (Nat.le_refl _), Nat.sub_self, List.set_cons_zero]
    have := runL_set (g := g) (fin := fin) l (pre ++ [g a])
    simpa using this
def MapInv {α : Type} (g : α → α) (l : List α) (i : Nat) (s : List α) : Prop := s = (l.take i).map g ++ l.drop i
theorem mapInv_get {α : Type} [Inhabited α] {g : α → α} {l s : List α} {i : Nat} {a : α} (h : l[i]? = some a) (hs : MapInv g l i s) : s[i]! = a ∧ s.length = l.length ∧ MapInv g l (i + 1) (s.set i (g a)) := by
  obtain ⟨h1, h2⟩ := List.getElem?_eq_some_iff.1 h
  unfold MapInv at hs ⊢
  subst hs
  have hlen : ((l.take i).map g).length = i := by simp; omega
  refine ⟨?_, by simp; omega, ?_⟩
  · rw [getElem!_pos _ i (by simp; omega), List.getElem_append_right (by omega)]
    simp only [hlen, List.getElem_drop]
    simp only [Nat.sub_self, Nat.add_zero]
    exact h2
  · rw [List.set_append_right _ _ (by omega), hlen, Nat.sub_self, List.drop_eq_getElem_cons h1, List.set_cons_zero, List.take_succ_eq_append_getElem h1, List.map_append]
    simp [h2]
def cnd (t u : Item) (c : Named) : Named := if hit t.Names c.Name then { c with Name := rep t.Names u.Names c.Name } else if loc t c.Name then { c with Name := (u.Name ++ [46]) ++ c.Name } else c
def inst (t u y : Item) : Item :=
  if clause y.Kind then { y with Of := rep t.Names u.Names y.Of, Act := rep t.Names u.Names y.Act, By := rep t.Names u.Names y.By, Until := rep t.Names u.Names y.Until, Unit := rep t.Names u.Names y.Unit, Sum := rep t.Names u.Names y.Sum, To := rep t.Names u.Names y.To, Within := { y.Within with Name := rep t.Names u.Names y.Within.Name }, Grace := { y.Grace with Name := rep t.Names u.Names y.Grace.Name }, Conds := y.Conds.map (cnd t u), Name := (u.Name ++ [46]) ++ y.Name, At := u.At }
  else if y.Kind = 14 then { y with Names := y.Names.map (rep t.Names u.Names), Name := (u.Name ++ [46]) ++ y.Name, At := u.At }
  else { y with Name := (u.Name ++ [46]) ++ y.Name, At := u.At }
structure Bd (y : Item) : Prop where
  name : y.Name.length ≤ 1099511627776
  conds : y.Conds.length ≤ NB
  cname : ∀ c, c ∈ y.Conds → c.Name.length ≤ 1099511627776
  names : y.Names.length ≤ NB
theorem s34_eq {N : Nat} {t u y : Item} (hN : NB < N) (hl : t.Names.length ≤ NB) (hti : t.Items.length ≤ NB) (ha : t.Names.length = u.Names.length) (hu : u.Name.length ≤ 1099511627776) (hy : Bd y) : s34 N t u y = some (inst t u y) := by
  have hN' : t.Names.length < N := by omega
  have hadd : ∀ (n : Str), n.length ≤ 1099511627776 → List.length (u.Name ++ [46]) + List.length n ≤ 9223372036854775807 := fun n hn => by simp; omega
  simp only [s34, s35_eq, Option.bind_some]
  cases hc : clause y.Kind with
  | true =>
    simp only [cond_true]
    obtain ⟨y1, e1⟩ : ∃ z : Item, z = { y with Of := rep t.Names u.Names y.Of } := ⟨_, rfl⟩
    rw [s39_1e hN' hl ha, ← e1]
    simp only [Option.bind_some]
    obtain ⟨y2, e2⟩ : ∃ z : Item, z = { y1 with Act := rep t.Names u.Names y1.Act } := ⟨_, rfl⟩
    rw [s39_2e hN' hl ha, ← e2]
    simp only [Option.bind_some]
    obtain ⟨y3, e3⟩ : ∃ z : Item, z = { y2 with By := rep t.Names u.Names y2.By } := ⟨_, rfl⟩
    rw [s39_3e hN' hl ha, ← e3]
    simp only [Option.bind_some]
    obtain ⟨y4, e4⟩ : ∃ z : Item, z = { y3 with Until := rep t.Names u.Names y3.Until } := ⟨_, rfl⟩
    rw [s39_4e hN' hl ha, ← e4]
    simp only [Option.bind_some]
    obtain ⟨y5, e5⟩ : ∃ z : Item, z = { y4 with Unit := rep t.Names u.Names y4.Unit } := ⟨_, rfl⟩
    rw [s39_5e hN' hl ha, ← e5]
    simp only [Option.bind_some]
    obtain ⟨y6, e6⟩ : ∃ z : Item, z = { y5 with Sum := rep t.Names u.Names y5.Sum } := ⟨_, rfl⟩
    rw [s39_6e hN' hl ha, ← e6]
    simp only [Option.bind_some]
    obtain ⟨y7, e7⟩ : ∃ z : Item, z = { y6 with To := rep t.Names u.Names y6.To } := ⟨_, rfl⟩
    rw [s39_7e hN' hl ha, ← e7]
    simp only [Option.bind_some]
    obtain ⟨y8, e8⟩ : ∃ z : Item, z = { y7 with Within := { y7.Within with Name := rep t.Names u.Names y7.Within.Name } } := ⟨_, rfl⟩
    rw [s39_8e hN' hl ha, ← e8]
    simp only [Option.bind_some]
    obtain ⟨y9, e9⟩ : ∃ z : Item, z = { y8 with Grace := { y8.Grace with Name := rep t.Names u.Names y8.Grace.Name } } := ⟨_, rfl⟩
    rw [s39_9e hN' hl ha, ← e9]
    simp only [Option.bind_some]
    have eC : y9.Conds = y.Conds := by rw [e9, e8, e7, e6, e5, e4, e3, e2, e1]
    simp only [s34_k2, s40, eC]
    have hcl := hy.conds
    rw [grd_pos (by unfold NB at hcl; omega)]
    simp only [Option.bind_some]
    have hb : iter (fun p => s34_b1 N t u y.Conds p.1 p.2) N (y.Conds, 0) = some _ := iter_list (fun (s : List Named) i => (s, i)) y.Conds y.Conds (fun i s a => .inl (s.set i (cnd t u a))) (fun s => s) (MapInv (cnd t u) y.Conds) (fun i s a hi hs => by
      obtain ⟨ha', hlt⟩ := getI hi
      obtain ⟨h1, h2, h3⟩ := mapInv_get hi hs
      refine ⟨?_, fun s' e => by cases e; exact h3⟩
      have hlen : i < s.length := by omega
      simp only [s34_b1, NB] at *
      rw [if_pos (by omega), grd_pos (by omega), toNat_nat, s39_10e (by omega) (by unfold NB; omega) ha hlen, h1, wr_succ (by omega)]
      simp only [Option.bind_some, cnd]
      have hname := hy.cname a (List.mem_of_getElem? hi)
      cases hh : hit t.Names a.Name with
      | true => simp
      | false =>
        have hset : (s.set i { a with Name := rep t.Names u.Names a.Name }) = s := by
          rw [rep_miss hh]
          have : s[i]! = a := h1
          rw [getElem!_pos s i hlen] at this
          rw [← this, List.set_getElem_self]
        have hset2 : s.set i a = s := by
          have : s[i]! = a := h1
          rw [getElem!_pos s i hlen] at this
          rw [← this, List.set_getElem_self]
        simp only [cond_false, hset, h1]
        rw [s41_eq (by omega) (by omega) (by unfold NB; omega)]
        simp only [Option.bind_some]
        cases hlo : loc t a.Name with
        | true =>
          simp only [cond_true]
          rw [grd_pos (by omega), grd_pos (hadd _ (by omega))]
          simp
        | false => simp [hset2]) (fun s hs => by
      simp only [s34_b1]
      rw [if_neg (by omega)]) (by omega) (by simp [MapInv])
    rw [hb]
    simp only [Option.bind_some]
    have eN : y9.Name = y.Name := by rw [e9, e8, e7, e6, e5, e4, e3, e2, e1]
    rw [grd_pos (by omega), eN, grd_pos (hadd _ hy.name)]
    have hrun := runL_set (g := cnd t u) (fin := fun s => s) y.Conds []
    simp only [List.nil_append, List.length_nil] at hrun
    rw [hrun]
    unfold inst
    rw [if_pos hc]
    subst e9 e8 e7 e6 e5 e4 e3 e2 e1
    rfl
  | false =>
    simp only [cond_false]
    by_cases h14 : y.Kind = 14
    · rw [if_pos h14]
      have hnl := hy.names
      simp only [s42]
      rw [grd_pos (by unfold NB at hnl; omega)]
      simp only [Option.bind_some]
      have hb : iter (fun p => s34_b3 N t u y.Names p.1 p.2) N (y.Names, 0) = some _ := iter_list (fun (s : List Str) i => (s, i)) y.Names y.Names (fun i s a => .inl (s.set i (rep t.Names u.Names a))) (fun s => s) (MapInv (rep t.Names u.Names) y.Names) (fun i s a hi hs => by
        obtain ⟨ha', hlt⟩ := getI hi
        obtain ⟨h1, h2, h3⟩ := mapInv_get hi hs
        refine ⟨?_, fun s' e => by cases e; exact h3⟩
        have hlen : i < s.length := by omega
        simp only [s34_b3, NB] at *
        rw [if_pos (by omega), grd_pos (by omega), toNat_nat, s39_11e (by omega) (by unfold NB; omega) ha hlen, h1, wr_succ (by omega)]
        simp) (fun s hs => by
        simp only [s34_b3]
        rw [if_neg (by omega)]) (by omega) (by simp [MapInv])
      rw [hb]
      simp only [Option.bind_some]
      rw [grd_pos (by omega), grd_pos (hadd _ hy.name)]
      have hrun := runL_set (g := rep t.Names u.Names) (fin := fun s => s) y.Names []
      simp only [List.nil_append, List.length_nil] at hrun
      rw [hrun]
      unfold inst
      rw [if_neg (by simp [hc]), if_pos h14]
    · rw [if_neg h14, grd_pos (by omega), grd_pos (hadd _ hy.name)]
      unfold inst
      rw [if_neg (by simp [hc]), if_neg h14]
end Go.Proofs.Inc
namespace Go.Proofs.Inc
open Go.Aw
structure Maps where
  t : List (Str × Item)
  s : List (Str × Span)
  m : List (Str × Item)
def dfn1 (M : Maps) (y : Item) : Option Item := if y.Within.Name = [] then some y else (mlook y.Within.Name M.s).map fun d => { y with Within := d }
def dfn2 (M : Maps) (y : Item) : Option Item := if y.Grace.Name = [] then some y else (mlook y.Grace.Name M.s).map fun d => { y with Grace := d }
def dfn3 (M : Maps) (y : Item) : Option Item := if y.Sum = [] then some y else (mlook y.Sum M.m).map fun d => { y with Num := d.Num, Unit := d.Unit, Sum := [] }
def dfn (M : Maps) (y : Item) : Option Item := ((dfn1 M y).bind (dfn2 M)).bind (dfn3 M)
theorem s36_eq {N : Nat} {M : Maps} {c : Int} {o : List Item} {q : List Str} {y : Item} : match dfn M y with
    | some z => s36 N M.t M.s M.m c o q y = some (true, z)
    | none => ∃ z, s36 N M.t M.s M.m c o q y = some (false, z) := by
  have h1 : ∀ x, match dfn3 M x with | some z => s36_k1 N M.m x = some (true, z) | none => ∃ z, s36_k1 N M.m x = some (false, z) := fun x => by
    simp only [dfn3, s36_k1]
    by_cases h : x.Sum = []
    · simp [h]
    · rw [if_neg h, if_neg h]
      cases mlook x.Sum M.m with
      | none => exact ⟨_, rfl⟩
      | some d => rfl
  have h2 : ∀ x, match (dfn2 M x).bind (dfn3 M) with | some z => s36_k3 N M.s M.m x = some (true, z) | none => ∃ z, s36_k3 N M.s M.m x = some (false, z) := fun x => by
    simp only [dfn2, s36_k3, s36_k2]
    by_cases h : x.Grace.Name = []
    · rw [if_pos h, if_pos h]; exact h1 x
    · rw [if_neg h, if_neg h]
      cases mlook x.Grace.Name M.s with
      | none => exact ⟨_, rfl⟩
      | some d => exact h1 _
  simp only [dfn, s36]
  unfold dfn1
  by_cases h : y.Within.Name = []
  · rw [if_pos h, if_pos h]; exact h2 y
  · rw [if_neg h, if_neg h]
    cases mlook y.Within.Name M.s with
    | none => exact ⟨_, rfl⟩
    | some d => exact h2 _
abbrev R := Int × Bool × Int × List Item × List Str
def add (M : Maps) (c : Int) (o : List Item) (q : List Str) (y : Item) (most : Int) : R :=
  if 600 < c + 1 then (3, true, c + 1, o, q)
  else if most < (y.Name.length : Int) then (3, false, c + 1, o, q)
  else if clause y.Kind then match dfn M y with
    | some z => (0, false, c + 1, o ++ [z], q)
    | none => (8, false, c + 1, o, q)
  else (0, false, c + 1, o ++ [y], q)
theorem s27_eq {N : Nat} {M : Maps} {c : Int} {o : List Item} {q : List Str} {y : Item} {most : Int} (h0 : 0 ≤ c) (h1 : c ≤ 1099511627776) (ho : o.length ≤ 1073741824) : s27 N M.t M.s M.m c o q y most = some (add M c o q y most) := by
  simp only [s27, s32, Option.bind_some, add]
  rw [wr (by omega) (by omega)]
  by_cases hc : 600 < c + 1
  · simp [hc]
  simp only [hc, decide_false, cond_false]
  by_cases hm : most < (y.Name.length : Int)
  · simp [hm]
  rw [if_neg hm, if_neg (by simp), if_neg hm, s35_eq]
  simp only [Option.bind_some]
  cases hk : clause y.Kind with
  | false =>
    simp only [cond_false, s27_k2, s27_k1, cond_true]
    rw [grd_pos (by omega)]
    simp
  | true =>
    simp only [cond_true]
    have := s36_eq (N := N) (M := M) (c := c + 1) (o := o) (q := q) (y := y)
    cases hd : dfn M y with
    | none =>
      rw [hd] at this
      obtain ⟨z, hz⟩ := this
      rw [hz]
      simp [s27_k2]
    | some z =>
      rw [hd] at this
      rw [this]
      simp only [Option.bind_some, s27_k2, s27_k1, Bool.not_true, cond_false, cond_true]
      rw [grd_pos (by omega)]
      simp
def stepI (inc : Int → List Item → List Str → Item → R) (M : Maps) (t u : Item) (s : Int × List Item × List Str) (a : Item) : (Int × List Item × List Str) ⊕ R :=
  if (inst t u a).Kind = 14 then
    (if (inc s.1 s.2.1 s.2.2 (inst t u a)).1 = 0 then .inl (inc s.1 s.2.1 s.2.2 (inst t u a)).2.2 else .inr (inc s.1 s.2.1 s.2.2 (inst t u a)))
  else if clause (inst t u a).Kind then
    (if (add M s.1 s.2.1 s.2.2 (inst t u a) 24).1 = 0 then .inl (add M s.1 s.2.1 s.2.2 (inst t u a) 24).2.2 else .inr (add M s.1 s.2.1 s.2.2 (inst t u a) 24))
  else .inr (1, false, s)
def incl (M : Maps) : Nat → Int → List Item → List Str → Item → R
  | 0, c, o, q, _ => (3, true, c + 1, o, q)
  | k + 1, c, o, q, u =>
    if 600 < c + 1 then (3, true, c + 1, o, q)
    else match mlook u.Of M.t with
      | none => (8, false, c + 1, o, q)
      | some t =>
        if t.Names.length ≠ u.Names.length then (1, false, c + 1, o, q)
        else if (find q u.Of).isSome then (12, false, c + 1, o, q)
        else if 24 < u.Name.length then (3, false, c + 1, o, q)
        else runL (fun _ s a => stepI (incl M k) M t u s a) (fun s => (0, false, s.1, s.2.1, s.2.2.take (s.2.2.length - 1))) 0 (c + 1, o, q ++ [u.Of]) t.Items
structure BdT (t : Item) : Prop where
  names : t.Names.length ≤ NB
  items : t.Items.length ≤ NB
  bd : ∀ y, y ∈ t.Items → Bd y
structure Far (c : Int) (o : List Item) (q : List Str) : Prop where
  c0 : 0 ≤ c
  o : (o.length : Int) ≤ c
  q : (q.length : Int) ≤ c
theorem add_far {M : Maps} {c : Int} {o : List Item} {q : List Str} {y : Item} {most : Int} (h : Far c o q) : (add M c o q y most).1 = 0 → ∃ o', (add M c o q y most).2.2 = (c + 1, o', q) ∧ Far (c + 1) o' q ∧ c + 1 ≤ 600 := by
  have h1 := h.c0
  have h2 := h.o
  have h3 := h.q
  unfold add
  by_cases hc : 600 < c + 1
  · rw [if_pos hc]; simp
  rw [if_neg hc]
  by_cases hm : most < (y.Name.length : Int)
  · rw [if_pos hm]; simp
  rw [if_neg hm]
  by_cases hk : clause y.Kind = true
  · rw [if_pos hk]
    cases dfn M y with
    | none => simp
    | some z => exact fun _ => ⟨_, rfl, ⟨by omega, by simp; omega, by omega⟩, by omega⟩
  · rw [if_neg hk]
    exact fun _ => ⟨_, rfl, ⟨by omega, by simp; omega, by omega⟩, by omega⟩
theorem runL_inv {α σ ρ : Type} {f : Nat → σ → α → σ ⊕ ρ} {fin : σ → ρ} {Inv : σ → Prop} {Q : ρ → Prop} : ∀ (l : List α), (∀ i s a, a ∈ l → Inv s → match f i s a with | .inl s' => Inv s' | .inr r => Q r) → (∀ s, Inv s → Q (fin s)) → ∀ (i : Nat) (s : σ), Inv s → Q (runL f fin i s l)
  | [], _, hf, i, s, hs => hf s hs
  | a :: l, h, hf, i, s, hs => by
    have h1 := h i s a (List.mem_cons_self ..) hs
    rw [runL]
    cases hfa : f i s a with
    | inl s' => rw [hfa] at h1; exact runL_inv l (fun i s b hb hs => h i s b (List.mem_cons_of_mem _ hb) hs) hf (i + 1) s' h1
    | inr r => rw [hfa] at h1; exact h1
theorem incl_far (M : Maps) : ∀ (k : Nat) (c : Int) (o : List Item) (q : List Str) (u : Item), Far c o q → (incl M k c o q u).1 = 0 → ∃ c' o', (incl M k c o q u).2.2 = (c', o', q) ∧ Far c' o' q ∧ c + 1 ≤ c' ∧ c' ≤ 600
  | 0, c, o, q, u, h, h0 => by simp [incl] at h0
  | k + 1, c, o, q, u, h, h0 => by
    have g1 := h.c0
    have g2 := h.o
    have g3 := h.q
    unfold incl at h0 ⊢
    by_cases hc : 600 < c + 1
    · rw [if_pos hc] at h0; simp at h0
    rw [if_neg hc] at h0 ⊢
    cases ht : mlook u.Of M.t with
    | none => rw [ht] at h0; simp at h0
    | some t =>
      rw [ht] at h0
      simp only at h0 ⊢
      by_cases hn : t.Names.length ≠ u.Names.length
      · rw [if_pos hn] at h0; simp at h0
      rw [if_neg hn] at h0 ⊢
      by_cases hq : (find q u.Of).isSome = true
      · rw [if_pos hq] at h0; simp at h0
      rw [if_neg hq] at h0 ⊢
      by_cases hm : 24 < u.Name.length
      · rw [if_pos hm] at h0; simp at h0
      rw [if_neg hm] at h0 ⊢
      refine runL_inv (Inv := fun (s : Int × List Item × List Str) => s.2.2 = q ++ [u.Of] ∧ Far s.1 s.2.1 s.2.2 ∧ c + 1 ≤ s.1 ∧ s.1 ≤ 600) (Q := fun (r : R) => r.1 = 0 → ∃ c' o', r.2.2 = (c', o', q) ∧ Far c' o' q ∧ c + 1 ≤ c' ∧ c' ≤ 600) t.Items (fun i s a _ hs => ?_) (fun s hs _ => ?_) 0 _ ⟨rfl, ⟨by simp only; omega, by simp only; omega, by simp; omega⟩, by simp only; omega, by simp only; omega⟩ h0
      · obtain ⟨h1, h2, h3, h4⟩ := hs
        unfold stepI
        by_cases hk : (inst t u a).Kind = 14
        · rw [if_pos hk]
          by_cases hr : (incl M k s.1 s.2.1 s.2.2 (inst t u a)).1 = 0
          · rw [if_pos hr]
            obtain ⟨c', o', e1, e2, e3, e4⟩ := incl_far M k s.1 s.2.1 s.2.2 _ h2 hr
            simp only [e1]
            exact ⟨h1, e2, by omega, e4⟩
          · rw [if_neg hr]
            exact fun h => absurd h hr
        · rw [if_neg hk]
          by_cases hcl : clause (inst t u a).Kind = true
          · rw [if_pos hcl]
            by_cases hr : (add M s.1 s.2.1 s.2.2 (inst t u a) 24).1 = 0
            · rw [if_pos hr]
              obtain ⟨o', e1, e2, e3⟩ := add_far h2 hr
              simp only [e1]
              exact ⟨h1, e2, by omega, e3⟩
            · rw [if_neg hr]
              exact fun h => absurd h hr
          · rw [if_neg hcl]
            simp
      · obtain ⟨h1, h2, h3, h4⟩ := hs
        refine ⟨s.1, s.2.1, by rw [h1]; simp, ⟨h2.c0, h2.o, ?_⟩, h3, h4⟩
        have := h2.q
        rw [h1] at this
        simp at this
        omega
theorem s26_eq (M : Maps) (hM : ∀ n t, mlook n M.t = some t → BdT t) : ∀ (k : Nat) (N : Nat) (c : Int) (o : List Item) (q : List Str) (u : Item), NB + 1 + k < N → Far c o q → 600 ≤ (k : Int) + c → c ≤ 600 → s26 N M.t M.s M.m c o q u = some (incl M k c o q u)
  | k, 0, c, o, q, u, hN, _, _, _ => by omega
  | 0, N + 1, c, o, q, u, hN, h, hk, hc => by
    have g1 := h.c0
    simp only [s26, s26_body, s32, Option.bind_some, incl]
    rw [wr (by omega) (by omega)]
    simp [show 600 < c + 1 by omega]
  | k + 1, N + 1, c, o, q, u, hN, h, hk, hc => by
    have g1 := h.c0
    have g2 := h.o
    have g3 := h.q
    simp only [s26, s26_body, s32, Option.bind_some, incl]
    rw [wr (by omega) (by omega)]
    by_cases hc1 : 600 < c + 1
    · simp [hc1]
    simp only [hc1, decide_false, cond_false]
    rw [if_neg (by simp)]
    cases ht : mlook u.Of M.t with
    | none => rfl
    | some t =>
      have hb := hM _ _ ht
      simp only [Option.elim_some]
      by_cases hn : t.Names.length = u.Names.length
      · rw [if_pos (show (t.Names.length : Int) = (u.Names.length : Int) by omega), if_neg (show ¬ (t.Names.length ≠ u.Names.length) by simpa using hn), s33_eq (by unfold NB at hN; omega) (by unfold NB; omega)]
        simp only [Option.bind_some]
        by_cases hq : (find q u.Of).isSome = true
        · rw [hq]; simp
        have hq' : (find q u.Of).isSome = false := by simpa using hq
        rw [hq']
        simp only [cond_false]
        by_cases hm : 24 < u.Name.length
        · rw [if_pos (show (24 : Int) < (u.Name.length : Int) by omega), if_pos hm]
          simp
        rw [if_neg (show ¬ (24 : Int) < (u.Name.length : Int) by omega), if_neg hm, grd_pos (by omega), if_neg (by simp)]
        have hit : iter (fun p => s26_b1 N M.t M.s M.m u t (s26 N) p.1 p.2.1 p.2.2.1 p.2.2.2) N (c + 1, o, q ++ [u.Of], 0) = some _ := iter_list (fun (s : Int × List Item × List Str) i => (s.1, s.2.1, s.2.2, i)) (c + 1, o, q ++ [u.Of]) t.Items (fun _ s a => match stepI (incl M k) M t u s a with | .inl s' => .inl s' | .inr r => .inr (.ret r)) (fun s => .brk s)
          (fun _ s => s.2.2 = q ++ [u.Of] ∧ Far s.1 s.2.1 s.2.2 ∧ c + 1 ≤ s.1 ∧ s.1 ≤ 600) (fun i s a hi hs => by
          obtain ⟨ha, hlt⟩ := getI hi
          obtain ⟨h1, h2, h3, h4⟩ := hs
          have hlen := hb.items
          have hy := hb.bd a (List.mem_of_getElem? hi)
          have f1 := h2.c0
          have f2 := h2.o
          have hrec : ∀ z, s26 N M.t M.s M.m s.1 s.2.1 s.2.2 z = some (incl M k s.1 s.2.1 s.2.2 z) := fun z => s26_eq M hM k N s.1 s.2.1 s.2.2 z (by omega) h2 (by omega) (by omega)
          have hadd : ∀ z, s27 N M.t M.s M.m s.1 s.2.1 s.2.2 z 24 = some (add M s.1 s.2.1 s.2.2 z 24) := fun z => s27_eq f1 (by omega) (by omega)
          constructor
          · simp only [s26_b1]
            rw [if_pos (by omega), grd_pos (by omega), toNat_nat, ha, wr_succ (by unfold NB at hlen; omega), s34_eq (by omega) hb.names hb.items hn (by omega) hy]
            simp only [Option.bind_some, hrec, s35_eq, hadd]
            unfold stepI
            by_cases hk : (inst t u a).Kind = 14
            · rw [if_pos hk, if_pos hk]
              by_cases hr : (incl M k s.1 s.2.1 s.2.2 (inst t u a)).1 = 0
              · rw [if_pos hr, if_pos hr]
              · rw [if_neg hr, if_neg hr]
            · rw [if_neg hk, if_neg hk]
              cases hcl : clause (inst t u a).Kind with
              | true =>
                simp only [cond_true, if_true]
                by_cases hr : (add M s.1 s.2.1 s.2.2 (inst t u a) 24).1 = 0
                · rw [if_pos hr, if_pos hr]
                · rw [if_neg hr, if_neg hr]
              | false => rfl
          · intro s' he
            unfold stepI at he
            by_cases hk : (inst t u a).Kind = 14
            · rw [if_pos hk] at he
              by_cases hr : (incl M k s.1 s.2.1 s.2.2 (inst t u a)).1 = 0
              · rw [if_pos hr] at he
                obtain ⟨c', o', e1, e2, e3, e4⟩ := incl_far M k s.1 s.2.1 s.2.2 _ h2 hr
                cases he
                simp only [e1]
                exact ⟨h1, e2, by omega, e4⟩
              · rw [if_neg hr] at he; cases he
            · rw [if_neg hk] at he
              by_cases hcl : clause (inst t u a).Kind = true
              · rw [if_pos hcl] at he
                by_cases hr : (add M s.1 s.2.1 s.2.2 (inst t u a) 24).1 = 0
                · rw [if_pos hr] at he
                  obtain ⟨o', e1, e2, e3⟩ := add_far h2 hr
                  cases he
                  simp only [e1]
                  exact ⟨h1, e2, by omega, e3⟩
                · rw [if_neg hr] at he; cases he
              · rw [if_neg hcl] at he; cases he) (fun s hs => by
          simp only [s26_b1]
          rw [if_neg (by omega)]) (by have := hb.items; omega) ⟨rfl, ⟨by simp only; omega, by simp only; omega, by simp; omega⟩, by simp only; omega, by simp only; omega⟩
        rw [hit]
        simp only [Option.bind_some]
        have hout : ∀ (l : List Item) (i : Nat) (s : Int × List Item × List Str), (s.2.2 = q ++ [u.Of] ∧ Far s.1 s.2.1 s.2.2 ∧ c + 1 ≤ s.1 ∧ s.1 ≤ 600) →
            (Ou.on (runL (fun _ s a => match stepI (incl M k) M t u s a with | .inl s' => .inl s' | .inr r => .inr (Ou.ret r)) (fun s => Ou.brk s) i s l) (fun a27 =>
            grd (0 < List.length a27.2.2) <|
            grd (0 ≤ IntKind.wrap .i64 ((List.length a27.2.2 : Int) - 1) ∧ IntKind.wrap .i64 ((List.length a27.2.2 : Int) - 1) ≤ (List.length a27.2.2 : Int)) <|
            some ((0 : Int), false, a27.1, a27.2.1, List.take (IntKind.wrap .i64 ((List.length a27.2.2 : Int) - 1)).toNat a27.2.2)) (fun a27r => some a27r))
            = some (runL (fun _ s a => stepI (incl M k) M t u s a) (fun s => (0, false, s.1, s.2.1, s.2.2.take (s.2.2.length - 1))) i s l) := by
          intro l
          induction l with
          | nil =>
            intro i s hs
            obtain ⟨h1, h2, h3, h4⟩ := hs
            have := h2.q
            have hl : 0 < s.2.2.length := by rw [h1]; simp
            simp only [runL, Ou.on]
            rw [wr (by omega) (by omega), grd_pos hl, grd_pos (by omega)]
            simp only [Option.some.injEq, Prod.mk.injEq, true_and]
            congr 1
            omega
          | cons a l ih =>
            intro i s hs
            rw [runL, runL]
            cases he : stepI (incl M k) M t u s a with
            | inr r => rfl
            | inl s' =>
              refine ih (i + 1) s' ?_
              obtain ⟨h1, h2, h3, h4⟩ := hs
              unfold stepI at he
              by_cases hk : (inst t u a).Kind = 14
              · rw [if_pos hk] at he
                by_cases hr : (incl M k s.1 s.2.1 s.2.2 (inst t u a)).1 = 0
                · rw [if_pos hr] at he
                  obtain ⟨c', o', e1, e2, e3, e4⟩ := incl_far M k s.1 s.2.1 s.2.2 _ h2 hr
                  cases he
                  simp only [e1]
                  exact ⟨h1, e2, by omega, e4⟩
                · rw [if_neg hr] at he; cases he
              · rw [if_neg hk] at he
                by_cases hcl : clause (inst t u a).Kind = true
                · rw [if_pos hcl] at he
                  by_cases hr : (add M s.1 s.2.1 s.2.2 (inst t u a) 24).1 = 0
                  · rw [if_pos hr] at he
                    obtain ⟨o', e1, e2, e3⟩ := add_far h2 hr
                    cases he
                    simp only [e1]
                    exact ⟨h1, e2, by omega, e3⟩
                  · rw [if_neg hr] at he; cases he
                · rw [if_neg hcl] at he; cases he
        exact hout t.Items 0 _ ⟨rfl, ⟨by simp only; omega, by simp only; omega, by simp; omega⟩, by simp only; omega, by simp only; omega⟩
      · rw [if_neg (by omega), if_pos hn]
end Go.Proofs.Inc
namespace Go.Proofs.Inc
open Go.Aw
def dupS (s : Bool × List (Str × Bool)) (a : Str) : Bool × List (Str × Bool) := (s.1 || (mlook a s.2).getD false, mset a true s.2)
def dupB (l : List Str) : Bool := (l.foldl dupS (false, [])).1
def dcl (M : Maps) (y : Item) : Int × Maps :=
  if y.Kind = 13 then match mlook y.Name M.t with
    | none => (if dupB y.Names then 9 else 0, { M with t := mset y.Name y M.t })
    | some _ => (9, M)
  else if y.Kind = 6 then match mlook y.Name M.s with
    | none => (0, { M with s := mset y.Name { y.Within with Name := [] } M.s })
    | some _ => (9, M)
  else if y.Kind = 7 then match mlook y.Name M.m with
    | none => (0, { M with m := mset y.Name y M.m })
    | some _ => (9, M)
  else (0, M)
theorem s25_eq {N : Nat} {M : Maps} {y : Item} (hN : y.Names.length < N) (hl : y.Names.length ≤ NB) :
    s25 N M.t M.s M.m 0 [] [] y = some ((dcl M y).1, (dcl M y).2.t, (dcl M y).2.s, (dcl M y).2.m) := by
  simp only [s25, dcl]
  by_cases h13 : y.Kind = 13
  · rw [if_pos h13, if_pos h13]
    cases mlook y.Name M.t with
    | none =>
      have hit : iter (fun p => s25_b1 N y p.1 p.2.1 p.2.2) N (false, [], 0) = some _ := iter_list (fun (s : Bool × List (Str × Bool)) i => (s.1, s.2, i)) (false, []) y.Names (fun _ s a => .inl (dupS s a)) (fun s => s.1) (fun _ _ => True) (fun i s a hi _ => by
        obtain ⟨ha, hlt⟩ := getI hi
        refine ⟨?_, fun _ _ => trivial⟩
        simp only [s25_b1]
        rw [if_pos (by omega), grd_pos (by omega), toNat_nat, ha, wr_succ (by unfold NB at hl; omega)]
        obtain ⟨b, m⟩ := s
        cases b with
        | true => simp [dupS]
        | false => cases hm : mlook a m <;> simp [dupS, hm]) (fun s _ => by
        simp only [s25_b1]
        rw [if_neg (by omega)]) hN trivial
      simp only [Option.elim_none]
      rw [hit, runL_fold]
      simp only [Option.bind_some]
      show (bif dupB y.Names then _ else _) = _
      cases dupB y.Names <;> rfl
    | some v =>
      have hit : iter (fun p => s25_b2 N y p.1 p.2) N ([], 0) = some _ := iter_list (fun (s : List (Str × Bool)) i => (s, i)) [] y.Names (fun _ s a => .inl (mset a true s)) (fun s => ()) (fun _ _ => True) (fun i s a hi _ => by
        obtain ⟨ha, hlt⟩ := getI hi
        refine ⟨?_, fun _ _ => trivial⟩
        simp only [s25_b2]
        rw [if_pos (by omega), grd_pos (by omega), toNat_nat, ha, wr_succ (by unfold NB at hl; omega)]) (fun s _ => by
        simp only [s25_b2]
        rw [if_neg (by omega)]) hN trivial
      simp only [Option.elim_some]
      rw [hit]
      rfl
  rw [if_neg h13, if_neg h13]
  by_cases h6 : y.Kind = 6
  · rw [if_pos h6, if_pos h6]
    cases mlook y.Name M.s <;> rfl
  rw [if_neg h6, if_neg h6]
  by_cases h7 : y.Kind = 7
  · rw [if_pos h7, if_pos h7]
    cases mlook y.Name M.m <;> rfl
  rw [if_neg h7, if_neg h7]
def dcls (M : Maps) : List Item → List Int × Maps
  | [] => ([], M)
  | y :: l => ((dcl M y).1 :: (dcls (dcl M y).2 l).1, (dcls (dcl M y).2 l).2)
theorem dcls_len : ∀ (M : Maps) (l : List Item), (dcls M l).1.length = l.length
  | M, [] => rfl
  | M, y :: l => by simp [dcls, dcls_len]
theorem s11_b8_loop {N : Nat} {p1 : Source} (hN : NB < N) (hl : p1.Items.length ≤ NB) (hnames : ∀ y, y ∈ p1.Items → y.Names.length ≤ NB) : ∀ (l : List Item) (i : Nat) (M : Maps) (pre : List Int), p1.Items.drop i = l → pre.length = i → ∀ K, l.length < K →
    iter (fun p => s11_b8 N p1 p.1 p.2.1 p.2.2.1 p.2.2.2.1 p.2.2.2.2) K (M.t, M.s, M.m, pre ++ List.replicate l.length 0, (i : Int)) = some ((dcls M l).2.t, (dcls M l).2.s, (dcls M l).2.m, pre ++ (dcls M l).1)
  | [], i, M, pre, hd, hp, K, hK => by
    obtain ⟨K, rfl⟩ : ∃ k, K = k + 1 := ⟨K - 1, by simp at hK; omega⟩
    have hi : p1.Items.length ≤ i := List.drop_eq_nil_iff.1 hd
    refine iter_end ?_
    simp only [s11_b8]
    rw [if_neg (by omega)]
    simp [dcls]
  | y :: l, i, M, pre, hd, hp, K, hK => by
    obtain ⟨K, rfl⟩ : ∃ k, K = k + 1 := ⟨K - 1, by simp at hK; omega⟩
    have hi : p1.Items[i]? = some y := by rw [← List.head?_drop, hd]; rfl
    obtain ⟨hx, hlt⟩ := getI hi
    have hn := hnames y (List.mem_of_getElem? hi)
    have hb : s11_b8 N p1 M.t M.s M.m (pre ++ List.replicate (l.length + 1) 0) (i : Int) = some (.inl ((dcl M y).2.t, (dcl M y).2.s, (dcl M y).2.m, (pre ++ [(dcl M y).1]) ++ List.replicate l.length 0, ((i + 1 : Nat) : Int))) := by
      simp only [s11_b8]
      rw [if_pos (by omega), grd_pos (by omega), toNat_nat, hx, s25_eq (by omega) hn]
      simp only [Option.bind_some]
      rw [grd_pos (by simp; omega), wr_succ (by unfold NB at hl; omega), List.set_append_right i _ (by omega), hp, Nat.sub_self, List.replicate_succ, List.set_cons_zero]
      simp
    rw [List.length_cons, iter_step (by exact hb)]
    rw [s11_b8_loop hN hl hnames l (i + 1) (dcl M y).2 (pre ++ [(dcl M y).1]) (by rw [← List.drop_drop, hd]; rfl) (by simp [hp]) K (by simp at hK; omega)]
    simp [dcls]
def top (M : Maps) : Int → List Item → List Fault → List (Int × Item) → List Item × List Fault
  | _, o, F, [] => (o, F)
  | c, o, F, p :: l =>
    if defines p.2.Kind then top M c o (if p.1 = 0 then F else F ++ [⟨p.1, p.2.At⟩]) l
    else
      let r := if p.2.Kind = 14 then incl M 600 c o [] p.2 else add M c o [] p.2 p.2.Name.length
      let F' := if r.1 = 0 then F else F ++ [⟨r.1, p.2.At⟩]
      if r.2.1 then (r.2.2.2.1, F') else top M r.2.2.1 r.2.2.2.1 F' l
theorem add_q {M : Maps} {c : Int} {o : List Item} {q : List Str} {y : Item} {most : Int} : (add M c o q y most).1 = (add M c o [] y most).1 ∧ (add M c o q y most).2.1 = (add M c o [] y most).2.1 ∧ (add M c o q y most).2.2.1 = (add M c o [] y most).2.2.1 ∧ (add M c o q y most).2.2.2.1 = (add M c o [] y most).2.2.2.1 := by
  unfold add
  split
  · simp
  · split
    · simp
    · split
      · split <;> simp
      · simp
def Fine (c : Int) (r : R) : Prop := r.2.1 = false → c ≤ r.2.2.1 ∧ r.2.2.1 ≤ 600 ∧ (r.2.2.2.1.length : Int) ≤ r.2.2.1
theorem add_fine {M : Maps} {c : Int} {o : List Item} {q : List Str} {y : Item} {most : Int} (h : (o.length : Int) ≤ c) : Fine c (add M c o q y most) := by
  unfold Fine add
  by_cases hc : 600 < c + 1
  · rw [if_pos hc]; simp
  rw [if_neg hc]
  by_cases hm : most < (y.Name.length : Int)
  · rw [if_pos hm]; intro _; exact ⟨by simp only; omega, by simp only; omega, by simp only; omega⟩
  rw [if_neg hm]
  by_cases hk : clause y.Kind = true
  · rw [if_pos hk]
    cases dfn M y with
    | none => intro _; exact ⟨by simp only; omega, by simp only; omega, by simp only; omega⟩
    | some z => intro _; exact ⟨by simp only; omega, by simp only; omega, by simp; omega⟩
  · rw [if_neg hk]
    intro _; exact ⟨by simp only; omega, by simp only; omega, by simp; omega⟩
theorem incl_fine (M : Maps) : ∀ (k : Nat) (c : Int) (o : List Item) (q : List Str) (u : Item), Far c o q → Fine c (incl M k c o q u)
  | 0, c, o, q, u, h => by simp [Fine, incl]
  | k + 1, c, o, q, u, h => by
    have g1 := h.c0
    have g2 := h.o
    have g3 := h.q
    unfold Fine incl
    by_cases hc : 600 < c + 1
    · rw [if_pos hc]; simp
    rw [if_neg hc]
    have base : ∀ e : Int, ((e, false, c + 1, o, q) : R).2.1 = false → c ≤ ((e, false, c + 1, o, q) : R).2.2.1 ∧ ((e, false, c + 1, o, q) : R).2.2.1 ≤ 600 ∧ (((e, false, c + 1, o, q) : R).2.2.2.1.length : Int) ≤ ((e, false, c + 1, o, q) : R).2.2.1 := fun e _ => ⟨by simp only; omega, by simp only; omega, by simp only; omega⟩
    cases ht : mlook u.Of M.t with
    | none => exact base 8
    | some t =>
      simp only
      by_cases hn : t.Names.length ≠ u.Names.length
      · rw [if_pos hn]; exact base 1
      rw [if_neg hn]
      by_cases hq : (find q u.Of).isSome = true
      · rw [if_pos hq]; exact base 12
      rw [if_neg hq]
      by_cases hm : 24 < u.Name.length
      · rw [if_pos hm]; exact base 3
      rw [if_neg hm]
      refine runL_inv (Inv := fun (s : Int × List Item × List Str) => Far s.1 s.2.1 s.2.2 ∧ c + 1 ≤ s.1 ∧ s.1 ≤ 600) (Q := fun (r : R) => r.2.1 = false → c ≤ r.2.2.1 ∧ r.2.2.1 ≤ 600 ∧ (r.2.2.2.1.length : Int) ≤ r.2.2.1) t.Items (fun i s a _ hs => ?_) (fun s hs _ => ?_) 0 _ ⟨⟨by simp only; omega, by simp only; omega, by simp; omega⟩, by simp only; omega, by simp only; omega⟩
      · obtain ⟨h2, h3, h4⟩ := hs
        unfold stepI
        by_cases hk : (inst t u a).Kind = 14
        · rw [if_pos hk]
          by_cases hr : (incl M k s.1 s.2.1 s.2.2 (inst t u a)).1 = 0
          · rw [if_pos hr]
            obtain ⟨c', o', e1, e2, e3, e4⟩ := incl_far M k s.1 s.2.1 s.2.2 _ h2 hr
            simp only [e1]
            exact ⟨e2, by omega, e4⟩
          · rw [if_neg hr]
            intro h
            obtain ⟨f1, f2, f3⟩ := incl_fine M k s.1 s.2.1 s.2.2 (inst t u a) h2 h
            exact ⟨by omega, f2, f3⟩
        · rw [if_neg hk]
          by_cases hcl : clause (inst t u a).Kind = true
          · rw [if_pos hcl]
            by_cases hr : (add M s.1 s.2.1 s.2.2 (inst t u a) 24).1 = 0
            · rw [if_pos hr]
              obtain ⟨o', e1, e2, e3⟩ := add_far h2 hr
              simp only [e1]
              exact ⟨e2, by omega, e3⟩
            · rw [if_neg hr]
              intro h
              obtain ⟨f1, f2, f3⟩ := add_fine (M := M) (q := s.2.2) (y := inst t u a) (most := 24) h2.o h
              exact ⟨by omega, f2, f3⟩
          · rw [if_neg hcl]
            exact fun _ => ⟨by simp only; omega, by simp only; omega, h2.o⟩
      · obtain ⟨h2, h3, h4⟩ := hs
        exact ⟨by simp only; omega, by simp only; omega, h2.o⟩
theorem top_loop {N : Nat} {p1 : Source} {M : Maps} {errs : List Int} (hM : ∀ n t, mlook n M.t = some t → BdT t) (hN : NB + 602 < N) (hlen : p1.Items.length ≤ 600) (he : errs.length = p1.Items.length) :
    ∀ (l : List (Int × Item)) (i : Nat) (c : Int) (o : List Item) (q : List Str) (F : List Fault), (errs.zip p1.Items).drop i = l → 0 ≤ c → c ≤ 600 → (o.length : Int) ≤ c → F.length ≤ i → ∀ K, l.length < K →
      ∃ c' q', iter (fun p => s11_b6 N p1 M.t M.s M.m errs p.1 p.2.1 p.2.2.1 p.2.2.2.1 p.2.2.2.2) K (c, o, q, F, (i : Int)) = some (c', (top M c o F l).1, q', (top M c o F l).2)
  | [], i, c, o, q, F, hd, _, _, _, _, K, hK => by
    obtain ⟨K, rfl⟩ : ∃ k, K = k + 1 := ⟨K - 1, by simp at hK; omega⟩
    have hi : (errs.zip p1.Items).length ≤ i := List.drop_eq_nil_iff.1 hd
    rw [List.length_zip] at hi
    refine ⟨c, q, iter_end ?_⟩
    simp only [s11_b6]
    rw [if_neg (by omega)]
    rfl
  | p :: l, i, c, o, q, F, hd, hc0, hc, ho, hF, K, hK => by
    obtain ⟨K, rfl⟩ : ∃ k, K = k + 1 := ⟨K - 1, by simp at hK; omega⟩
    have hi : (errs.zip p1.Items)[i]? = some p := by rw [← List.head?_drop, hd]; rfl
    have hil : i < (errs.zip p1.Items).length := (List.getElem?_eq_some_iff.1 hi).1
    rw [List.length_zip] at hil
    have h1 : errs[i]? = some p.1 ∧ p1.Items[i]? = some p.2 := by
      rw [List.getElem?_zip_eq_some] at hi
      exact hi
    obtain ⟨hx1, hlt1⟩ := getI h1.1
    obtain ⟨hx2, hlt2⟩ := getI h1.2
    have hdn : (errs.zip p1.Items).drop (i + 1) = l := by rw [← List.drop_drop, hd]; rfl
    have next : ∀ c o q F, 0 ≤ c → c ≤ 600 → (o.length : Int) ≤ c → F.length ≤ i + 1 → ∃ c' q', iter (fun p => s11_b6 N p1 M.t M.s M.m errs p.1 p.2.1 p.2.2.1 p.2.2.2.1 p.2.2.2.2) K (c, o, q, F, ((i + 1 : Nat) : Int)) = some (c', (top M c o F l).1, q', (top M c o F l).2) :=
      fun c o q F h1 h2 h3 h4 => top_loop hM hN hlen he l (i + 1) c o q F hdn h1 h2 h3 h4 K (by simp at hK; omega)
    have hwr : IntKind.wrap .i64 ((i : Int) + 1) = ((i + 1 : Nat) : Int) := wr_succ (by omega)
    have hbody : s11_b6 N p1 M.t M.s M.m errs c o q F (i : Int) = s11_k5 N p1 M.t M.s M.m errs c o q F (i : Int) (defines p.2.Kind) := by
      simp only [s11_b6]
      rw [if_pos (by omega), grd_pos (by omega), grd_pos (by omega), toNat_nat, hx2]
      by_cases h13 : p.2.Kind = 13
      · simp [h13, defines]
      rw [if_neg h13]
      by_cases h6 : p.2.Kind = 6
      · simp [h6, defines]
      rw [if_neg h6]
      simp [h13, h6, defines]
    cases hdf : defines p.2.Kind with
    | true =>
      rw [hdf] at hbody
      simp only [s11_k5, cond_true, toNat_nat, hx1, hx2, s11_k2] at hbody
      rw [hwr] at hbody
      unfold top
      rw [if_pos hdf]
      by_cases h0 : p.1 = 0
      · rw [if_pos h0] at hbody ⊢
        obtain ⟨c', q', h⟩ := next c o q F hc0 hc ho (by omega)
        exact ⟨c', q', by rw [iter_step (by exact hbody)]; exact h⟩
      · rw [if_neg h0, grd_pos (by omega)] at hbody
        rw [if_neg h0]
        obtain ⟨c', q', h⟩ := next c o q (F ++ [⟨p.1, p.2.At⟩]) hc0 hc ho (by simp; omega)
        exact ⟨c', q', by rw [iter_step (by exact hbody)]; exact h⟩
    | false =>
      rw [hdf] at hbody
      simp only [s11_k5, cond_false, toNat_nat, hx1, hx2] at hbody
      unfold top
      rw [if_neg (by simp [hdf])]
      have hfar : Far c o [] := ⟨hc0, ho, by simpa using hc0⟩
      have fin : ∀ (r : R) (r1 : R), r1.1 = r.1 → r1.2.1 = r.2.1 → r1.2.2.1 = r.2.2.1 → r1.2.2.2.1 = r.2.2.2.1 → Fine c r →
          s11_b6 N p1 M.t M.s M.m errs c o q F (i : Int) = (if r1.1 = 0 then (bif r1.2.1 then some (.inr (r1.2.2.1, r1.2.2.2.1, r1.2.2.2.2, F)) else some (.inl (r1.2.2.1, r1.2.2.2.1, r1.2.2.2.2, F, ((i + 1 : Nat) : Int)))) else (bif r1.2.1 then some (.inr (r1.2.2.1, r1.2.2.2.1, r1.2.2.2.2, F ++ [⟨r1.1, p.2.At⟩])) else some (.inl (r1.2.2.1, r1.2.2.2.1, r1.2.2.2.2, F ++ [⟨r1.1, p.2.At⟩], ((i + 1 : Nat) : Int))))) →
          ∃ c' q', iter (fun p => s11_b6 N p1 M.t M.s M.m errs p.1 p.2.1 p.2.2.1 p.2.2.2.1 p.2.2.2.2) (K + 1) (c, o, q, F, (i : Int)) = some (c', (if r.2.1 = true then (r.2.2.2.1, if r.1 = 0 then F else F ++ [⟨r.1, p.2.At⟩]) else top M r.2.2.1 r.2.2.2.1 (if r.1 = 0 then F else F ++ [⟨r.1, p.2.At⟩]) l).1, q', (if r.2.1 = true then (r.2.2.2.1, if r.1 = 0 then F else F ++ [⟨r.1, p.2.At⟩]) else top M r.2.2.1 r.2.2.2.1 (if r.1 = 0 then F else F ++ [⟨r.1, p.2.At⟩]) l).2) := by
        intro r r1 e1 e2 e3 e4 hfine hb
        rw [e1, e2, e3, e4] at hb
        have hFl : (if r.1 = 0 then F else F ++ [⟨r.1, p.2.At⟩]).length ≤ i + 1 := by
          split
          · omega
          · simp; omega
        have hb' : s11_b6 N p1 M.t M.s M.m errs c o q F (i : Int) = (bif r.2.1 then some (.inr (r.2.2.1, r.2.2.2.1, r1.2.2.2.2, if r.1 = 0 then F else F ++ [⟨r.1, p.2.At⟩])) else some (.inl (r.2.2.1, r.2.2.2.1, r1.2.2.2.2, (if r.1 = 0 then F else F ++ [⟨r.1, p.2.At⟩]), ((i + 1 : Nat) : Int)))) := by
          rw [hb]; split <;> rfl
        cases hs : r.2.1 with
        | true =>
          rw [hs] at hb'
          exact ⟨r.2.2.1, r1.2.2.2.2, iter_end (by exact hb')⟩
        | false =>
          rw [hs] at hb'
          obtain ⟨f1, f2, f3⟩ := hfine hs
          obtain ⟨c', q', h⟩ := next r.2.2.1 r.2.2.2.1 r1.2.2.2.2 _ (by omega) f2 f3 hFl
          exact ⟨c', q', by rw [iter_step (by exact hb')]; simpa using h⟩
      by_cases h14 : p.2.Kind = 14
      · rw [if_pos h14, s26_eq M hM 600 N c o [] p.2 (by omega) hfar (by omega) hc] at hbody
        simp only [Option.bind_some, s11_k3] at hbody
        rw [grd_pos (by omega), hwr] at hbody
        simp only [if_pos h14]
        exact fin _ (incl M 600 c o [] p.2) rfl rfl rfl rfl (incl_fine M 600 c o [] p.2 hfar) (by rw [hbody])
      · rw [if_neg h14, s27_eq hc0 (by omega) (by omega)] at hbody
        simp only [Option.bind_some, s11_k4] at hbody
        rw [grd_pos (by omega), hwr] at hbody
        simp only [if_neg h14]
        obtain ⟨a1, a2, a3, a4⟩ := add_q (M := M) (c := c) (o := o) (q := q) (y := p.2) (most := p.2.Name.length)
        exact fin _ (add M c o q p.2 p.2.Name.length) a1 a2 a3 a4 (add_fine ho) (by rw [hbody])
def noSource : Source := ⟨[], ⟨0, 0, 0⟩, 0, []⟩
def M0 : Maps := ⟨[], [], []⟩
def expand (p : Source) : Source × List Fault :=
  if 600 < iszl p.Items then (noSource, [⟨3, 0⟩])
  else
    let d := dcls M0 p.Items
    let r := top d.2 0 [] [] (d.1.zip p.Items)
    if r.2 = [] then ({ p with Items := r.1 }, []) else (noSource, r.2)
theorem mlook_mset {α β : Type} [DecidableEq α] {k k' : α} {v : β} : ∀ {l : List (α × β)}, mlook k' (mset k v l) = if k' = k then some v else mlook k' l
  | [] => by simp [mset, mlook]
  | p :: l => by
    simp only [mset]
    by_cases hk : k = p.1
    · rw [if_pos hk]
      simp only [mlook]
      by_cases h' : k' = k
      · simp [h']
      · rw [if_neg h', if_neg h', if_neg (by rw [← hk]; exact h')]
    · rw [if_neg hk]
      simp only [mlook]
      by_cases h' : k' = p.1
      · rw [if_pos h', if_pos h', if_neg (by rw [h']; exact fun h => hk h.symm)]
      · rw [if_neg h', if_neg h']
        exact mlook_mset
theorem dcl_t {M : Maps} {y : Item} {n : Str} {t : Item} (h : mlook n (dcl M y).2.t = some t) : mlook n M.t = some t ∨ (t = y ∧ y.Kind = 13 ∧ n = y.Name) := by
  unfold dcl at h
  by_cases h13 : y.Kind = 13
  · rw [if_pos h13] at h
    cases hm : mlook y.Name M.t with
    | none =>
      rw [hm] at h
      simp only [mlook_mset] at h
      split at h
      · rename_i e; cases h; exact .inr ⟨rfl, h13, e⟩
      · exact .inl h
    | some _ => rw [hm] at h; exact .inl h
  rw [if_neg h13] at h
  by_cases h6 : y.Kind = 6
  · rw [if_pos h6] at h
    cases hm : mlook y.Name M.s <;> rw [hm] at h <;> exact .inl h
  rw [if_neg h6] at h
  by_cases h7 : y.Kind = 7
  · rw [if_pos h7] at h
    cases hm : mlook y.Name M.m <;> rw [hm] at h <;> exact .inl h
  rw [if_neg h7] at h
  exact .inl h
theorem dcls_t {n : Str} {t : Item} : ∀ {l : List Item} {M : Maps}, mlook n (dcls M l).2.t = some t → mlook n M.t = some t ∨ t ∈ l
  | [], M, h => .inl h
  | y :: l, M, h => by
    rcases dcls_t (l := l) h with h | h
    · rcases dcl_t h with h | ⟨rfl, _⟩
      · exact .inl h
      · exact .inr (List.mem_cons_self ..)
    · exact .inr (List.mem_cons_of_mem _ h)
structure BdS (p : Source) : Prop where
  size : iszl p.Items ≤ 1099511627776
  items : ∀ t, t ∈ p.Items → BdT t
set_option maxRecDepth 100000 in
theorem s11_eq {N : Nat} {p : Source} (hb : BdS p) (hN : NB + 602 < N) (hN' : iszl p.Items + 1 < N) : s11 N p = some (expand p) := by
  obtain ⟨t, e1, e2, e3, e4⟩ := s24_lim N p.Items 600 (by omega) (by omega) hb.size
  simp only [s11]
  rw [show ((600 : Nat) : Int) = 600 by rfl] at e1
  rw [e1]
  simp only [Option.bind_some, expand]
  by_cases hs : 600 < iszl p.Items
  · have h4 := e4 hs
    rw [if_pos hs, if_pos (show (600 : Int) < (t : Int) by omega)]; rfl
  have h3 := e3 (by omega)
  rw [if_neg hs, if_neg (show ¬ (600 : Int) < (t : Int) by omega)]
  have hlen := iszl_len p.Items
  rw [grd_pos (by omega)]
  have h1 := s11_b8_loop (N := N) (p1 := p) (by omega) (by unfold NB; omega) (fun y hy => (hb.items y hy).names) p.Items 0 M0 [] rfl rfl N (by omega)
  simp only [List.nil_append] at h1
  rw [show ((0 : Nat) : Int) = 0 by rfl] at h1
  rw [show ((([] : List (List UInt8 × Item)), ([] : List (List UInt8 × Span)), ([] : List (List UInt8 × Item)), List.replicate p.Items.length (0 : Int), (0 : Int)) : List (List UInt8 × Item) × List (List UInt8 × Span) × List (List UInt8 × Item) × List Int × Int) = (M0.t, M0.s, M0.m, List.replicate p.Items.length 0, 0) by rfl, h1]
  simp only [Option.bind_some, s11_k7]
  obtain ⟨c', q', h2⟩ := top_loop (N := N) (p1 := p) (M := (dcls M0 p.Items).2) (errs := (dcls M0 p.Items).1) (fun n t h => by
    rcases dcls_t h with h | h
    · simp [M0, mlook] at h
    · exact hb.items t h) hN (by omega) (dcls_len _ _) _ 0 0 [] [] [] rfl (by omega) (by omega) (by simp) (by simp) N (by rw [List.drop_zero, List.length_zip, dcls_len]; omega)
  rw [show ((0 : Nat) : Int) = 0 by rfl, List.drop_zero] at h2
  rw [h2]
  simp only [Option.bind_some, s11_k1]
  generalize top (dcls M0 p.Items).2 0 [] [] ((dcls M0 p.Items).1.zip p.Items) = r
  obtain ⟨o, F⟩ := r
  cases F with
  | nil => simp
  | cons f F => simp [noSource]
end Go.Proofs.Inc
namespace Go.Aw
open Go.WideShapes Go.ChangeShapes
def reach (P : Program) : List Field → Nat → Option Nat
  | [], n => some n
  | f :: r, n => if f.offset = n then reach P r (n + P.cellsOf f.type) else none
def laysT (P : Program) (d : Option TypeDesc) (c : Nat) : Bool := match d with
  | some (.slice e) => decide (e < P.types.size) && decide (0 < P.cellsOf e)
  | some (.pointer e) => decide (e < P.types.size)
  | some (.map k e) => decide (k < P.types.size) && decide (e < P.types.size)
  | some (.struct fs) => fs.toList.all (fun f => decide (f.type < P.types.size)) && (reach P fs.toList 0 == some c)
  | some (.array n e) => decide (e < P.types.size) && (n * P.cellsOf e == c)
  | _ => true
def lays (P : Program) : Bool := (List.range P.types.size).all fun t => laysT P (P.underlying t) (P.cellsOf t)
theorem lays_at {P : Program} (h : lays P = true) {t : TypeId} (ht : t < P.types.size) {d : TypeDesc} (hu : P.underlying t = some d) : laysT P (some d) (P.cellsOf t) = true := by
  have := List.all_eq_true.1 h t (List.mem_range.2 ht)
  rwa [hu] at this
section
variable {H : Type} {enc : TypeId × Value → H} {P : Program} {w : World} {base : Nat} {sp : Nat → Bool}
theorem step_spare (hl : lays P = true) {r r' : TypeId → List Value → Option (DataW H × List MemPlace)}
    (hr : ∀ t cs x, t < P.types.size → r t cs = some x → (∀ p ∈ x.2, sp p.block = true) → r' t cs = some x) {t : TypeId} (ht : t < P.types.size) {cs : List Value} {x : DataW H × List MemPlace}
    (h : DataW.trodStep enc P w base (fun _ => true) true r t cs = some x) (hs : ∀ p ∈ x.2, sp p.block = true) : DataW.trodStep enc P w base sp true r' t cs = some x := by
  unfold DataW.trodStep at h ⊢
  split at h
  case h_6 e a hu =>
    have he : e < P.types.size := by simpa [laysT] using lays_at hl ht hu
    simp only [Option.map_eq_some_iff, Option.bind_eq_some_iff] at h ⊢
    obtain ⟨y, ⟨cs', hc, hy⟩, rfl⟩ := h
    exact ⟨y, ⟨cs', hc, hr _ _ _ he hy (fun p hp => hs p (by simp [hp]))⟩, rfl⟩
  case h_8 e a len cap hu =>
    have hE : e < P.types.size ∧ 0 < P.cellsOf e := by simpa [laysT] using lays_at hl ht hu
    simp only at h ⊢
    split at h
    · rename_i hc
      rw [if_pos hc]
      simp only [Option.map_eq_some_iff, Option.bind_eq_some_iff, if_true] at h ⊢
      obtain ⟨elems, he, rest, hrest, rfl⟩ := h
      have hrl : rest.length = cap - len := by simpa using mapM_some_length hrest
      have one : ∀ (i : Nat) (y : DataW H × List MemPlace), y ∈ elems ++ rest →
          (w.cells? base (a.add (i * P.cellsOf e)) (P.cellsOf e)).bind (r e) = some y → (w.cells? base (a.add (i * P.cellsOf e)) (P.cellsOf e)).bind (r' e) = some y := by
        intro i y hy hv
        simp only [Option.bind_eq_some_iff] at hv ⊢
        obtain ⟨cs', hc', hy'⟩ := hv
        refine ⟨cs', hc', hr _ _ _ hE.1 hy' (fun p hp => hs p ?_)⟩
        simp only [List.mem_append, List.mem_flatMap]
        right
        exact ⟨y, by simpa using hy, hp⟩
      refine ⟨elems, mapM_carry he (fun i y hi hy => one i y (by simp [hy])), rest, ?_, rfl⟩
      by_cases hsp : sp a.block = true
      · rw [if_pos hsp]
        exact mapM_carry hrest (fun j y hj hy => one (len + j) y (by simp [hy]))
      · rw [if_neg hsp]
        have hpos := hE.2
        cases rest with
        | nil => rfl
        | cons z zs =>
          refine absurd (hs (.cell a.block (a.off + 0)) ?_) hsp
          simp only [List.mem_append]
          left
          exact MemPlace.mem_row.2 ⟨0, Nat.mul_pos (by simp only [List.length_cons]; omega) hpos, rfl⟩
    · cases h
  case h_9 fs cs hu =>
    have hE := lays_at hl ht hu
    simp only [laysT, Bool.and_eq_true, List.all_eq_true, decide_eq_true_eq] at hE
    split at h
    · rename_i hc
      rw [if_pos hc]
      simp only [Option.map_eq_some_iff] at h ⊢
      obtain ⟨xs, hx, rfl⟩ := h
      exact ⟨xs, mapM_carry hx (fun f y hf hy hv => hr _ _ _ (hE.1 f hf) hv (fun p hp => hs p (List.mem_flatMap.2 ⟨y, hy, hp⟩))), rfl⟩
    · cases h
  case h_10 n e cs hu =>
    have hE := lays_at hl ht hu
    simp only [laysT, Bool.and_eq_true, decide_eq_true_eq] at hE
    split at h
    · rename_i hc
      rw [if_pos hc]
      simp only [Option.map_eq_some_iff] at h ⊢
      obtain ⟨xs, hx, rfl⟩ := h
      exact ⟨xs, mapM_carry hx (fun f y _ hy hv => hr _ _ _ hE.1 hv (fun p hp => hs p (List.mem_flatMap.2 ⟨y, hy, hp⟩))), rfl⟩
    · cases h
  case h_12 =>
    exact h
  case h_14 k e b hu =>
    have hE : k < P.types.size ∧ e < P.types.size := by simpa [laysT] using lays_at hl ht hu
    split at h
    · rename_i es clock hb
      split at h
      · rename_i hc
        simp only [Option.bind_eq_some_iff] at h
        obtain ⟨entries, he, hd⟩ := h
        split at hd
        · rename_i hris
          have hx := Option.some.inj hd
          subst hx
          simp only [if_pos hc, Option.bind_eq_some_iff]
          refine ⟨entries, mapM_carry he (fun x y _ hy hv => ?_), by simp [hris]⟩
          simp only [Option.bind_eq_some_iff] at hv ⊢
          obtain ⟨key, hk, hz⟩ := hv
          refine ⟨key, hk, ?_⟩
          split at hz
          · rename_i hf
            rw [if_pos hf]
            simp only [Option.map_eq_some_iff] at hz ⊢
            obtain ⟨q, hq, rfl⟩ := hz
            exact ⟨q, hr _ _ _ hE.2 hq (fun p hp => hs p (by simp only [List.mem_cons, List.mem_flatMap]; right; exact ⟨_, hy, hp⟩)), rfl⟩
          · cases hz
        · cases hd
      · cases h
    · cases h
  all_goals first | exact h | cases h
theorem trod_spare (hl : lays P = true) : ∀ (n : Nat) (t : TypeId) (cs : List Value) (x : DataW H × List MemPlace), t < P.types.size →
    DataW.trod enc P w base (fun _ => true) true n t cs = some x → (∀ p ∈ x.2, sp p.block = true) → DataW.trod enc P w base sp true n t cs = some x := by
  intro n
  induction n with
  | zero => intro t cs x _ h; simp [DataW.trod] at h
  | succ n ih =>
    intro t cs x ht h hs
    rw [DataW.trod_step] at h ⊢
    exact step_spare hl ih ht h hs
theorem all_spare (hl : lays P = true) {w' : World} : ∀ (ts : List TypeId) (vs : List Value) (ds : List (DataW H)) (ps : List MemPlace), (∀ t ∈ ts, t < P.types.size) →
    DataW.TrodAll enc P w base (fun _ => true) true ts vs ds ps → (∀ p ∈ ps, sp p.block = true) → (∀ p ∈ ps, w.sameAt w' p) → DataW.TrodAll enc P w' base sp true ts vs ds ps
  | [], vs, ds, ps, _, h, _, _ => by
    obtain ⟨rfl, rfl, rfl⟩ := trodAll_nil h
    rfl
  | t :: ts, vs, ds, ps, ht, h, hs, hw => by
    obtain ⟨v, vs', d, ds', p, q, rfl, rfl, rfl, ⟨n, h1⟩, h2⟩ := trodAll_cons h
    refine ⟨p, q, ⟨n, ?_⟩, all_spare hl ts vs' ds' q (fun u hu => ht u (List.mem_cons_of_mem _ hu)) h2 (fun x hx => hs x (List.mem_append_right _ hx)) (fun x hx => hw x (List.mem_append_right _ hx)), rfl⟩
    exact DataW.trod_carry n t _ _ (trod_spare hl n t _ _ (ht t (List.mem_cons_self ..)) h1 (fun x hx => hs x (List.mem_append_left _ hx))) (fun x hx => hw x (List.mem_append_left _ hx))
end
def okOne (P : Program) (S : List TypeId) (t : TypeId) : Bool := decide (t < P.types.size) && match P.underlying t with
    | some .bool | some (.int _) | some .string => true
    | some (.pointer e) => decide (0 < P.cellsOf e) && S.contains e
    | some (.slice e) | some (.array _ e) => S.contains e
    | some (.struct fs) => fs.toList.all fun f => S.contains f.type
    | _ => false
def okS (P : Program) (S : List TypeId) : Bool := S.all (okOne P S)
def argAV (P : Program) (t : TypeId) (xs : List AV) : AV := match P.underlying t with
  | some (.struct _) | some (.array _ _) => .agg xs
  | _ => xs.headD .any
def Sh (P : Program) : Nat → TypeId → List AV → Prop
  | 0, _, _ => False
  | n + 1, t, xs => match P.underlying t with
    | some .bool => ∃ b, xs = [.bool b]
    | some (.int k) => ∃ i, xs = [.int k i] ∧ (Lit.int k i).wf = true
    | some .string => ∃ l, xs = [.str l] ∧ l.length ≤ maxLen
    | some (.pointer e) => xs = [.lit (.pointer none)] ∨ ∃ ys, xs = [.ref ys] ∧ Sh P n e ys
    | some (.slice e) => ∃ ys : List (List AV), xs = [.sl (ys.map (argAV P e))] ∧ ys.length ≤ maxLen ∧ ∀ y, y ∈ ys → Sh P n e y
    | some (.struct fs) => ∃ ys : List (List AV), xs = ys.flatten ∧ ys.length = fs.size ∧ ∀ (i : Nat) (f : Field) (y : List AV), fs[i]? = some f → ys[i]? = some y → Sh P n f.type y
    | some (.array m e) => ∃ ys : List (List AV), xs = ys.flatten ∧ ys.length = m ∧ ∀ y, y ∈ ys → Sh P n e y
    | _ => False
mutual
def AV.bulk : AV → Nat
  | .str l => l.length + 1
  | .sl xs => bulkL xs + 1
  | .ref cs => bulkL cs + 1
  | .agg cs => bulkL cs + 1
  | .any => 1
  | .int _ _ => 1
  | .bool _ => 1
  | .lit _ => 1
  | .ptr _ _ _ => 1
  | .row _ _ _ _ _ => 1
  | .nil => 1
  | .tup _ => 1
  | .fn _ _ _ => 1
  | .ifc _ _ => 1
  | .mapv _ _ => 1
def bulkL : List AV → Nat
  | [] => 0
  | x :: r => x.bulk + bulkL r
end
theorem bulk_sl (l : List AV) : (AV.sl l).bulk = bulkL l + 1 := by rw [AV.bulk]
theorem bulk_ref (l : List AV) : (AV.ref l).bulk = bulkL l + 1 := by rw [AV.bulk]
theorem bulk_agg (l : List AV) : (AV.agg l).bulk = bulkL l + 1 := by rw [AV.bulk]
theorem bulk_str (l : List UInt8) : (AV.str l).bulk = l.length + 1 := by rw [AV.bulk]
theorem bulk_int (k : IntKind) (n : Int) : (AV.int k n).bulk = 1 := by rw [AV.bulk]
theorem bulk_bool (b : Bool) : (AV.bool b).bulk = 1 := by rw [AV.bulk]
theorem bulk_lit (v : Value) : (AV.lit v).bulk = 1 := by rw [AV.bulk]
theorem bulkL_app : ∀ (l m : List AV), bulkL (l ++ m) = bulkL l + bulkL m
  | [], m => by simp [bulkL]
  | x :: l, m => by simp only [List.cons_append, bulkL, bulkL_app l m]; omega
structure Bulk (H : Type) where
  b : DataW H → Nat
  l : List (DataW H) → Nat
  str : ∀ s, b (.lit (.string s)) = s.length + 1
  one : ∀ d, 1 ≤ b d
  ptr : ∀ d, b (.ptr d) = b d + 1
  slice : ∀ x y, b (.slice x y) = l x + l y + 1
  agg : ∀ x, b (.agg x) = l x + 1
  nil : l [] = 0
  cons : ∀ d r, l (d :: r) = b d + l r
theorem bulk_flat {H : Type} (B : Bulk H) : ∀ (ys : List (List AV)) (ps : List (DataW H × List MemPlace)), ys.length = ps.length → (∀ (i : Nat) y p, ys[i]? = some y → ps[i]? = some p → bulkL y ≤ B.b p.1) → bulkL ys.flatten ≤ B.l (ps.map (·.1))
  | [], [], _, _ => by simp [bulkL]
  | y :: ys, p :: ps, hl, h => by
    have h0 := h 0 y p rfl rfl
    have := bulk_flat B ys ps (by simpa using hl) (fun i z q hz hq => h (i + 1) z q (by simpa using hz) (by simpa using hq))
    rw [List.flatten_cons, bulkL_app, List.map_cons, B.cons]
    omega
theorem bulk_map {H : Type} (B : Bulk H) (f : List AV → AV) : ∀ (ys : List (List AV)) (ps : List (DataW H × List MemPlace)), ys.length = ps.length → (∀ (i : Nat) y p, ys[i]? = some y → ps[i]? = some p → (f y).bulk ≤ B.b p.1) → bulkL (ys.map f) ≤ B.l (ps.map (·.1))
  | [], [], _, _ => by simp [bulkL]
  | y :: ys, p :: ps, hl, h => by
    have h0 := h 0 y p rfl rfl
    have := bulk_map B f ys ps (by simpa using hl) (fun i z q hz hq => h (i + 1) z q (by simpa using hz) (by simpa using hq))
    rw [List.map_cons, List.map_cons, B.cons, bulkL]
    omega
def BulkOk {H : Type} (P : Program) (t : TypeId) (xs : List AV) (d : DataW H) : Prop := ∀ B : Bulk H, bulkL xs ≤ B.b d ∧ (argAV P t xs).bulk ≤ B.b d
theorem bulkOk_one {H : Type} {P : Program} {t : TypeId} {x : AV} {d : DataW H} (hn : argAV P t [x] = x) (h : ∀ B : Bulk H, x.bulk ≤ B.b d) : BulkOk P t [x] d := fun B => by
  rw [hn]
  exact ⟨by simpa [bulkL] using h B, h B⟩
theorem argAV_cells {P : Program} {n : Nat} {t : TypeId} {xs : List AV} (h : Sh P n t xs) : (argAV P t xs).cells = xs := by
  cases n with
  | zero => exact h.elim
  | succ n =>
    unfold argAV
    unfold Sh at h
    cases hu : P.underlying t with
    | none => rw [hu] at h; exact h.elim
    | some d =>
      rw [hu] at h
      cases d with
      | bool => obtain ⟨_, rfl⟩ := h; rfl
      | int q => obtain ⟨_, rfl, _⟩ := h; rfl
      | string => obtain ⟨_, rfl, _⟩ := h; rfl
      | pointer e => rcases h with rfl | ⟨_, rfl, _⟩ <;> rfl
      | slice e => obtain ⟨_, rfl, _⟩ := h; rfl
      | struct fs => rfl
      | array m e => rfl
      | _ => exact h.elim
def RelL (w : World) (cs : List Value) (xs : List AV) : Prop := xs.length = cs.length ∧ ∀ (j : Nat) (v : Value) (y : AV), cs[j]? = some v → xs[j]? = some y → v.oneCell' = true ∧ Rel (fun _ => False) w v y
theorem relL_one {w : World} {v : Value} {x : AV} (h1 : v.oneCell' = true) (h2 : Rel (fun _ => False) w v x) : RelL w [v] [x] := ⟨rfl, fun j v y hv hy => by
  cases j with
  | zero =>
    simp only [List.getElem?_cons_zero, Option.some.injEq] at hv hy
    rw [← hv, ← hy]
    exact ⟨h1, h2⟩
  | succ j => simp at hv⟩
theorem relL_app {w : World} {cs ds : List Value} {xs ys : List AV} (h : RelL w cs xs) (h' : RelL w ds ys) : RelL w (cs ++ ds) (xs ++ ys) := by
  refine ⟨by simp [h.1, h'.1], fun j v y hv hy => ?_⟩
  by_cases hj : j < cs.length
  · rw [List.getElem?_append_left hj] at hv
    rw [List.getElem?_append_left (by rw [h.1]; exact hj)] at hy
    exact h.2 j v y hv hy
  · rw [List.getElem?_append_right (by omega)] at hv
    rw [List.getElem?_append_right (by rw [h.1]; omega), h.1] at hy
    exact h'.2 _ v y hv hy
theorem glue {w : World} {cs : List Value} : ∀ (ls : List Nat) (ys : List (List AV)) (acc : Nat), ys.length = ls.length → acc + ls.sum ≤ cs.length →
    (∀ (i c : Nat) (y : List AV), ls[i]? = some c → ys[i]? = some y → RelL w ((cs.drop (acc + (ls.take i).sum)).take c) y) → RelL w ((cs.drop acc).take ls.sum) ys.flatten
  | [], [], acc, _, _, _ => ⟨by simp, fun j v y hv => by simp at hv⟩
  | c :: ls, y :: ys, acc, hl, hs, h => by
    simp only [List.sum_cons] at hs
    have h0 := h 0 c y rfl rfl
    simp only [List.take_zero, List.sum_nil, Nat.add_zero] at h0
    have h1 := glue (w := w) (cs := cs) ls ys (acc + c) (by simpa using hl) (by omega) (fun i c' y' hi hy => by
      have := h (i + 1) c' y' (by simpa using hi) (by simpa using hy)
      simpa [Nat.add_assoc] using this)
    have := relL_app h0 h1
    rw [List.flatten_cons, List.sum_cons]
    rw [show (cs.drop acc).take (c + ls.sum) = (cs.drop acc).take c ++ (cs.drop (acc + c)).take ls.sum by rw [List.take_add, List.drop_drop]]
    exact this
theorem reach_sum (P : Program) : ∀ (fs : List Field) (acc n : Nat), reach P fs acc = some n → n = acc + (fs.map fun f => P.cellsOf f.type).sum ∧ ∀ (i : Nat) (f : Field), fs[i]? = some f → f.offset = acc + ((fs.map fun f => P.cellsOf f.type).take i).sum
  | [], acc, n, h => by
    simp only [reach, Option.some.injEq] at h
    exact ⟨by simp [h], fun i f hf => by simp at hf⟩
  | f :: fs, acc, n, h => by
    simp only [reach] at h
    split at h
    · rename_i he
      obtain ⟨h1, h2⟩ := reach_sum P fs _ n h
      refine ⟨by simp [h1, Nat.add_assoc], fun i g hg => ?_⟩
      cases i with
      | zero => simp at hg; subst hg; simpa using he
      | succ i =>
        have := h2 i g (by simpa using hg)
        simp [this, Nat.add_assoc]
    · cases h
theorem exists_list {β : Type} (p : Nat → β → Prop) : ∀ n, (∀ i, i < n → ∃ y, p i y) → ∃ l : List β, l.length = n ∧ ∀ (i : Nat) (y : β), l[i]? = some y → p i y
  | 0, _ => ⟨[], rfl, fun i y h => by simp at h⟩
  | n + 1, h => by
    obtain ⟨l, hl, hp⟩ := exists_list p n (fun i hi => h i (by omega))
    obtain ⟨y, hy⟩ := h n (by omega)
    refine ⟨l ++ [y], by simp [hl], fun i z hz => ?_⟩
    by_cases hi : i < n
    · rw [List.getElem?_append_left (by omega)] at hz
      exact hp i z hz
    · rw [List.getElem?_append_right (by omega)] at hz
      have hi' : i - l.length = 0 := by
        have := (List.getElem?_eq_some_iff.1 hz).1
        simp at this
        omega
      rw [hi'] at hz
      simp at hz
      rw [show i = n by omega, ← hz]
      exact hy
section
variable {H : Type} {enc : TypeId × Value → H} {P : Program} {w : World} {sp : Nat → Bool}
theorem cells_get {a : Addr} {n : Nat} {cs : List Value} (h : w.cells? 0 a n = some cs) : cs.length = n ∧ ∀ (i : Nat) (v : Value), cs[i]? = some v → w.cell? (a.add i) = some v := by
  unfold World.cells? at h
  rw [if_pos (Nat.zero_le _)] at h
  have hl : cs.length = n := by simpa using mapM_some_length h
  refine ⟨hl, fun i v hv => ?_⟩
  have hi : i < n := by rw [← hl]; exact (List.getElem?_eq_some_iff.1 hv).1
  have := mapM_some_get h i i (by simp [hi])
  rw [this]
  exact hv
theorem cell_spot {a : Addr} {v : Value} (h : w.cell? a = some v) : a.spot = none ∧ a.block < w.heap.size := by
  unfold World.cell? at h
  cases hb : w.heap[a.block]? with
  | none => simp [hb] at h
  | some o =>
    refine ⟨?_, (Array.getElem?_eq_some_iff.1 hb).1⟩
    cases o <;> simp [hb] at h
    cases hs : a.spot with
    | none => rfl
    | some _ => simp [hs] at h
theorem add_plain {a : Addr} (h : a.spot = none) (i : Nat) : a.add i = ⟨a.block, a.off + i, none⟩ := by
  unfold Addr.add
  split
  · rename_i h0
    subst h0
    cases a
    simp at h
    simp [h]
  · rfl
theorem trod_sh (hl : lays P = true) {S : List TypeId} (hS : okS P S = true) : ∀ (n : Nat) (t : TypeId) (cs : List Value) (x : DataW H × List MemPlace), t ∈ S → DataW.trod enc P w 0 sp true n t cs = some x → ∃ xs, Sh P n t xs ∧ RelL w cs xs ∧ BulkOk P t xs x.1 := by
  intro k
  induction k with
  | zero => intro t cs x _ h; simp [DataW.trod] at h
  | succ k ih =>
    intro t cs x hin h
    have hok := List.all_eq_true.1 hS t hin
    simp only [okOne, Bool.and_eq_true, decide_eq_true_eq] at hok
    obtain ⟨ht, hok⟩ := hok
    cases hu : P.underlying t with
    | none => simp [hu] at hok
    | some d =>
      rw [hu] at hok
      have hla := lays_at hl ht hu
      cases d with
      | bool =>
        obtain ⟨b, rfl, rfl⟩ := DataW.trod_bool hu h
        exact ⟨[.bool b], by simp [Sh, hu], relL_one rfl (.bool b), bulkOk_one (by simp [argAV, hu]) (fun B => by rw [bulk_bool]; exact B.one _)⟩
      | int q =>
        obtain ⟨i, rfl, rfl, hw⟩ := DataW.trod_int hu h
        exact ⟨[.int q i], by simp [Sh, hu, hw], relL_one rfl (.int q i), bulkOk_one (by simp [argAV, hu]) (fun B => by rw [bulk_int]; exact B.one _)⟩
      | string =>
        obtain ⟨s, rfl, rfl, hs⟩ := DataW.trod_string hu h
        refine ⟨[.str s.data.toList], by simp only [Sh, hu]; exact ⟨_, rfl, hs⟩, relL_one rfl ?_, bulkOk_one (by simp [argAV, hu]) (fun B => by rw [bulk_str, B.str]; exact Nat.le_refl _)⟩
        have := Rel.str (F := fun _ => False) (w := w) s.data.toList
        simpa using this
      | pointer e =>
        rcases DataW.trod_pointer hu h with ⟨rfl, rfl⟩ | ⟨a, cs', y, n', hn', rfl, rfl, hc, hy⟩
        · exact ⟨[.lit (.pointer none)], by simp [Sh, hu], relL_one rfl (.lit _), bulkOk_one (by simp [argAV, hu]) (fun B => by rw [bulk_lit]; exact B.one _)⟩
        · simp only [Bool.and_eq_true, decide_eq_true_eq] at hok
          obtain rfl : k = n' := by omega
          obtain ⟨ys, h1, h2, hbk⟩ := ih e cs' y (List.contains_iff_mem.1 hok.2) hy
          obtain ⟨hcl, hcell⟩ := cells_get hc
          obtain ⟨hsp, hlt⟩ := cell_spot (a := a) (v := cs'[0]'(by omega)) (by
            have := hcell 0 _ (List.getElem?_eq_getElem (by omega))
            simpa [Addr.add] using this)
          have hz : ∀ (j : Nat) (z : AV), ys[j]? = some z → ∃ v, w.cell? ⟨a.block, a.off + j, none⟩ = some v ∧ v.oneCell' = true ∧ Rel (fun _ => False) w v z := fun j z hj => by
            have hlt : j < cs'.length := by rw [← h2.1]; exact (List.getElem?_eq_some_iff.1 hj).1
            have hv := List.getElem?_eq_getElem hlt
            have := hcell j _ hv
            rw [add_plain hsp] at this
            exact ⟨_, this, h2.2 j _ z hv hj⟩
          have ha : a = ⟨a.block, a.off, none⟩ := by cases a; simp at hsp; simp [hsp]
          refine ⟨[.ref ys], by simp only [Sh, hu]; exact .inr ⟨ys, rfl, h1⟩, relL_one rfl ?_, bulkOk_one (by simp [argAV, hu]) (fun B => by rw [bulk_ref, B.ptr]; have := (hbk B).1; omega)⟩
          rw [ha]
          refine .ref a.block a.off ys (fun j => (w.cell? ⟨a.block, a.off + j, none⟩).getD undef) (fun f => f) hlt (fun j z hj => ?_) (fun j z hj => ?_) (fun j z hj => ?_)
          · obtain ⟨v, h3, _⟩ := hz j z hj
            simp [h3]
          · obtain ⟨v, h3, h4, _⟩ := hz j z hj
            simpa [h3] using h4
          · obtain ⟨v, h3, _, h5⟩ := hz j z hj
            simpa [h3] using h5
      | slice e =>
        rcases DataW.trod_slice hu h with ⟨rfl, rfl⟩ | ⟨a, len, cap, elems, rest, n', hn', rfl, rfl, _, hlc, hcm, hel, hE, _⟩
        · exact ⟨[.sl []], by simp only [Sh, hu]; exact ⟨[], rfl, by simp, by simp⟩, relL_one rfl .slnil, bulkOk_one (by simp [argAV, hu]) (fun B => by rw [bulk_sl]; simpa [bulkL] using B.one _)⟩
        · simp only [laysT, Bool.and_eq_true, decide_eq_true_eq] at hla
          obtain rfl : k = n' := by omega
          have hok := List.contains_iff_mem.1 hok
          obtain ⟨ys, hyl, hyp⟩ := exists_list (fun i ys => Sh P k e ys ∧ ∃ cs', w.cells? 0 (a.add (i * P.cellsOf e)) (P.cellsOf e) = some cs' ∧ RelL w cs' ys ∧ ∀ p, elems[i]? = some p → BulkOk P e ys p.1) len (fun i hi => by
            have hx : elems[i]? = some elems[i] := List.getElem?_eq_getElem (by omega)
            have := hE i hi
            rw [hx] at this
            obtain ⟨cs', hc, hy⟩ := Option.bind_eq_some_iff.1 this
            obtain ⟨ys, h1, h2, h3⟩ := ih e cs' _ hok hy
            exact ⟨ys, h1, cs', hc, h2, fun p hp => by rw [hx] at hp; cases hp; exact h3⟩)
          have hmem : ∀ y, y ∈ ys → Sh P k e y := fun y hy => by
            obtain ⟨i, hi⟩ := List.getElem?_of_mem hy
            exact (hyp i y hi).1
          refine ⟨[.sl (ys.map (argAV P e))], by simp only [Sh, hu]; exact ⟨ys, rfl, by omega, hmem⟩, relL_one rfl ?_, bulkOk_one (by simp [argAV, hu]) (fun B => by
            rw [bulk_sl, B.slice]
            have := bulk_map B (argAV P e) ys elems (by omega) (fun i y p hy hp => by
              obtain ⟨_, _, _, _, hb⟩ := hyp i y hy
              exact ((hb p hp) B).2)
            omega)⟩
          · by_cases h0 : len = 0
            · subst h0
              have : ys = [] := List.length_eq_zero_iff.1 hyl
              subst this
              exact .sl0 a cap
            · obtain ⟨y0, hy0⟩ : ∃ y, ys[0]? = some y := ⟨ys[0]'(by omega), List.getElem?_eq_getElem (by omega)⟩
              obtain ⟨_, c0, hc0, hr0, _⟩ := hyp 0 y0 hy0
              obtain ⟨hl0, hg0⟩ := cells_get hc0
              obtain ⟨hsp, hlt⟩ := cell_spot (a := a) (v := c0[0]'(by omega)) (by
                have := hg0 0 _ (List.getElem?_eq_getElem (by omega))
                simpa [Addr.add] using this)
              have hz : ∀ (i : Nat) (y : List AV) (j : Nat) (z : AV), ys[i]? = some y → y[j]? = some z → ∃ v, w.cell? ⟨a.block, a.off + (i * P.cellsOf e + j), none⟩ = some v ∧ v.oneCell' = true ∧ Rel (fun _ => False) w v z := fun i y j z hi hj => by
                obtain ⟨_, c1, hc1, hr1, _⟩ := hyp i y hi
                obtain ⟨hl1, hg1⟩ := cells_get hc1
                have hlt : j < c1.length := by rw [← hr1.1]; exact (List.getElem?_eq_some_iff.1 hj).1
                have hv := List.getElem?_eq_getElem hlt
                have := hg1 j _ hv
                rw [add_plain hsp, add_plain rfl] at this
                simp only [Nat.add_assoc] at this
                exact ⟨_, this, hr1.2 j _ z hv hj⟩
              have hget : ∀ (i : Nat) (x : AV), (ys.map (argAV P e))[i]? = some x → ∃ y, ys[i]? = some y ∧ x = argAV P e y := fun i x hx => by
                rw [List.getElem?_map] at hx
                obtain ⟨y, h1, h2⟩ := Option.map_eq_some_iff.1 hx
                exact ⟨y, h1, h2.symm⟩
              have ha : a = ⟨a.block, a.off, none⟩ := by cases a; simp at hsp; simp [hsp]
              rw [ha]
              refine .sl a.block a.off len cap (P.cellsOf e) _ (fun j => (w.cell? ⟨a.block, a.off + j, none⟩).getD undef) (fun f => f) hlt (by simp [hyl]) hlc (fun i x hx => ?_) (fun i x j z hx hj => ?_) (fun i x j z hx hj => ?_) (fun i x j z hx hj => ?_)
              · obtain ⟨y, hy, rfl⟩ := hget i x hx
                obtain ⟨hsh, c1, hc1, hr1, _⟩ := hyp i y hy
                rw [argAV_cells hsh, hr1.1, (cells_get hc1).1]
              · obtain ⟨y, hy, rfl⟩ := hget i x hx
                rw [argAV_cells (hyp i y hy).1] at hj
                obtain ⟨v, h3, _⟩ := hz i y j z hy hj
                rw [Nat.add_assoc, h3]
                simp [h3]
              · obtain ⟨y, hy, rfl⟩ := hget i x hx
                rw [argAV_cells (hyp i y hy).1] at hj
                obtain ⟨v, h3, h4, _⟩ := hz i y j z hy hj
                simpa [h3] using h4
              · obtain ⟨y, hy, rfl⟩ := hget i x hx
                rw [argAV_cells (hyp i y hy).1] at hj
                obtain ⟨v, h3, _, h5⟩ := hz i y j z hy hj
                simpa [h3] using h5
      | struct fs =>
        simp only [List.all_eq_true] at hok
        obtain ⟨ps, n', hn', rfl, hcl, hpl, hf⟩ := DataW.trod_struct hu h
        obtain rfl : k = n' := by omega
        simp only [laysT, Bool.and_eq_true, beq_iff_eq] at hla
        obtain ⟨hsum, hoff⟩ := reach_sum P fs.toList 0 _ hla.2
        obtain ⟨ys, hyl, hyp⟩ := exists_list (fun i ys => ∀ f, fs[i]? = some f → Sh P k f.type ys ∧ RelL w ((cs.drop f.offset).take (P.cellsOf f.type)) ys ∧ ∀ p, ps[i]? = some p → BulkOk P f.type ys p.1) fs.size (fun i hi => by
          have hfi : fs[i]? = some fs[i] := Array.getElem?_eq_getElem hi
          have hx : ps[i]? = some ps[i] := List.getElem?_eq_getElem (by omega)
          have := hf i _ hfi
          rw [hx] at this
          obtain ⟨ys, h1, h2, h3⟩ := ih _ _ _ (List.contains_iff_mem.1 (hok fs[i] (by simp))) this
          exact ⟨ys, fun f hff => by rw [hfi] at hff; cases hff; exact ⟨h1, h2, fun p hp => by rw [hx] at hp; cases hp; exact h3⟩⟩)
        have hbk : ∀ B : Bulk H, bulkL ys.flatten ≤ B.l (ps.map (·.1)) := fun B => bulk_flat B ys ps (by omega) (fun i y p hy hp => by
          have hi : i < fs.size := by have := (List.getElem?_eq_some_iff.1 hy).1; omega
          exact (((hyp i y hy fs[i] (Array.getElem?_eq_getElem hi)).2.2 p hp) B).1)
        refine ⟨ys.flatten, by simp only [Sh, hu]; exact ⟨ys, rfl, hyl, fun i f y hfi hy => (hyp i y hy f hfi).1⟩, ?_, fun B => by
          have := hbk B
          simp only [argAV, hu, bulk_agg, B.agg]
          omega⟩
        have hg := glue (w := w) (cs := cs) (fs.toList.map fun f => P.cellsOf f.type) ys 0 (by simp [hyl]) (by omega) (fun i c y hi hy => by
          rw [List.getElem?_map] at hi
          cases hfi : fs.toList[i]? with
          | none => simp [hfi] at hi
          | some f =>
            simp only [hfi, Option.map_some, Option.some.injEq] at hi
            rw [← hoff i f hfi, ← hi]
            exact (hyp i y hy f (by simpa using hfi)).2.1)
        rw [List.drop_zero, List.take_of_length_le (by omega)] at hg
        exact hg
      | array m e =>
        simp only [laysT, Bool.and_eq_true, decide_eq_true_eq, beq_iff_eq] at hla
        obtain ⟨ps, n', hn', rfl, hcl, hpl, hE⟩ := DataW.trod_array hu h
        obtain rfl : k = n' := by omega
        have hok := List.contains_iff_mem.1 hok
        obtain ⟨ys, hyl, hyp⟩ := exists_list (fun i ys => Sh P k e ys ∧ RelL w ((cs.drop (i * P.cellsOf e)).take (P.cellsOf e)) ys ∧ ∀ p, ps[i]? = some p → BulkOk P e ys p.1) m (fun i hi => by
          have := hE i hi
          have hx : ps[i]? = some ps[i] := List.getElem?_eq_getElem (by omega)
          rw [hx] at this
          obtain ⟨ys, h1, h2, h3⟩ := ih e _ _ hok this
          exact ⟨ys, h1, h2, fun p hp => by rw [hx] at hp; cases hp; exact h3⟩)
        have hmem : ∀ y, y ∈ ys → Sh P k e y := fun y hy => by
          obtain ⟨i, hi⟩ := List.getElem?_of_mem hy
          exact (hyp i y hi).1
        have hbk : ∀ B : Bulk H, bulkL ys.flatten ≤ B.l (ps.map (·.1)) := fun B => bulk_flat B ys ps (by omega) (fun i y p hy hp => (((hyp i y hy).2.2 p hp) B).1)
        refine ⟨ys.flatten, by simp only [Sh, hu]; exact ⟨ys, rfl, hyl, hmem⟩, ?_, fun B => by
          have := hbk B
          simp only [argAV, hu, bulk_agg, B.agg]
          omega⟩
        · have hg := glue (w := w) (cs := cs) (List.replicate m (P.cellsOf e)) ys 0 (by simp [hyl]) (by simp; omega) (fun i c y hi hy => by
            have him : i < m := by have := (List.getElem?_eq_some_iff.1 hi).1; simpa using this
            have hc : c = P.cellsOf e := by
              rw [List.getElem?_replicate, if_pos him] at hi
              exact (Option.some.inj hi).symm
            rw [List.take_replicate, List.sum_replicate_nat, Nat.min_eq_left (by omega), hc, Nat.zero_add]
            exact (hyp i y hy).2.1)
          rw [List.drop_zero, List.sum_replicate_nat, List.take_of_length_le (by omega)] at hg
          exact hg
      | _ => simp at hok
theorem cell_one {t : TypeId} {v : Value} {r : Reach} {base : Nat} (h : Cell.okWide P w r base t v) : v.oneCell' = true := by
  cases v with
  | agg cs =>
    unfold Cell.okWide Cell.ok at h
    cases hu : P.underlying t with
    | none => simp [hu] at h
    | some d => cases d <;> simp [hu] at h
  | tuple cs =>
    unfold Cell.okWide Cell.ok at h
    cases hu : P.underlying t with
    | none => simp [hu] at h
    | some d => cases d <;> simp [hu] at h
  | _ => rfl
theorem arg_rel {t : TypeId} {v : Value} {xs : List AV} {r : Reach} {base : Nat} (hval : Value.okWide P w r base t v) (h : RelL w v.cells.toList xs) : Rel (fun _ => False) w v (argAV P t xs) := by
  unfold Value.okWide at hval
  unfold argAV
  have one : v.oneCell' = true → Rel (fun _ => False) w v (xs.headD .any) := fun h1 => by
    have hc : v.cells = #[v] := by cases v <;> first | rfl | cases h1
    rw [hc] at h
    obtain ⟨hl, hr⟩ := h
    obtain ⟨x, rfl⟩ := List.length_eq_one_iff.1 (show xs.length = 1 by simpa using hl)
    exact (hr 0 v x rfl rfl).2
  split at hval
  · rename_i fs hu
    obtain ⟨cs, rfl, _⟩ := hval
    rw [hu]
    exact .agg cs xs (by simpa [Value.cells] using h.1.symm) (fun j u hj => by
      have hlt := (Array.getElem?_eq_some_iff.1 hj).1
      have hx : xs[j]? = some (xs[j]'(by rw [h.1]; simpa [Value.cells] using hlt)) := List.getElem?_eq_getElem _
      exact (h.2 j u _ (by simpa [Value.cells] using hj) hx).1) (fun j u y hj hy => (h.2 j u y (by simpa [Value.cells] using hj) hy).2)
  · rename_i m e hu
    obtain ⟨cs, rfl, _⟩ := hval
    rw [hu]
    exact .agg cs xs (by simpa [Value.cells] using h.1.symm) (fun j u hj => by
      have hlt := (Array.getElem?_eq_some_iff.1 hj).1
      have hx : xs[j]? = some (xs[j]'(by rw [h.1]; simpa [Value.cells] using hlt)) := List.getElem?_eq_getElem _
      exact (h.2 j u _ (by simpa [Value.cells] using hj) hx).1) (fun j u y hj hy => (h.2 j u y (by simpa [Value.cells] using hj) hy).2)
  · rename_i h1 h2
    have : (match P.underlying t with | some (.struct _) | some (.array _ _) => AV.agg xs | _ => xs.headD .any) = xs.headD .any := by
      split
      · rename_i hu; exact absurd hu (h1 _)
      · rename_i hu; exact absurd hu (h2 _ _)
      · rfl
    rw [this]
    exact one (cell_one hval)
inductive Args (P : Program) : List TypeId → List AV → Prop
  | nil : Args P [] []
  | cons (t : TypeId) (ts : List TypeId) (xs : List AV) (ar : List AV) (n : Nat) (h : Sh P n t xs) (hr : Args P ts ar) : Args P (t :: ts) (argAV P t xs :: ar)
theorem args_of (hl : lays P = true) {S : List TypeId} (hS : okS P S = true) {r : Reach} {base : Nat} : ∀ (ts : List TypeId) (vs : List Value) (ds : List (DataW H)) (ps : List MemPlace), (∀ t ∈ ts, t ∈ S) → DataW.TrodAll enc P w 0 sp true ts vs ds ps →
    (∀ (j : Nat) t v, ts[j]? = some t → vs[j]? = some v → Value.okWide P w r base t v) → ∃ ar, Args P ts ar ∧ (∀ B : Bulk H, bulkL ar ≤ B.l ds) ∧ vs.length = ar.length ∧ ∀ (j : Nat) (v : Value) (y : AV), vs[j]? = some v → ar[j]? = some y → Rel (fun _ => False) w v y
  | [], vs, ds, ps, _, h, _ => by
    obtain ⟨rfl, rfl, rfl⟩ := trodAll_nil h
    exact ⟨[], .nil, fun B => by simp [bulkL], rfl, fun j v y hv => by simp at hv⟩
  | t :: ts, vs, ds, ps, hok, h, hval => by
    obtain ⟨v, vs', d, ds', p, q, rfl, rfl, rfl, ⟨n, h1⟩, h2⟩ := trodAll_cons h
    obtain ⟨xs, hx, hr, hb⟩ := trod_sh hl hS n t _ _ (hok t (List.mem_cons_self ..)) h1
    obtain ⟨ar, ha, hba, hal, har⟩ := args_of hl hS ts vs' ds' q (fun u hu => hok u (List.mem_cons_of_mem _ hu)) h2 (fun j u z hu hz => hval (j + 1) u z (by simpa using hu) (by simpa using hz))
    refine ⟨argAV P t xs :: ar, .cons t ts xs ar n hx ha, fun B => by rw [B.cons, bulkL]; have := hba B; have := (hb B).2; simp only at this; omega, by simp [hal], fun j u y hu hy => ?_⟩
    cases j with
    | zero =>
      simp only [List.getElem?_cons_zero, Option.some.injEq] at hu hy
      rw [← hu, ← hy]
      exact arg_rel (hval 0 t v rfl rfl) hr
    | succ j => exact har j u y (by simpa using hu) (by simpa using hy)
end
end Go.Aw
namespace Go.Aw
open Go.WideShapes Go.ChangeShapes Go.RowKit
section
variable {H : Type} {enc : TypeId × Value → H} {P : Program}
theorem law_contract {f : Func} {fid : FuncId} {s : ChangeSpec} {tb : TypeId} {S : List TypeId} (hl : lays P = true) (hS : okS P S = true) (hts : f.params.toList.all (fun t => S.contains t) = true) (hvars : s.vars = [])
    (hfn : ∀ ds : List (DataW H), ds.length = f.params.size → s.fn H ds = { results := [.lit (.bool true)], args := ds }) (hres : f.resultTypes = #[tb]) (hub : P.underlying tb = some .bool)
    (W : World) (base : Nat) (args : Array Value) (ds gs : List (DataW H)) (before : List MemPlace) (law : ∀ ar, Args P f.params.toList ar → (∀ B : Bulk H, bulkL ar ≤ B.l (ds ++ gs)) → PureC P fid ar (.bool true))
    (hval : ∀ (j : Nat) t v, f.params[j]? = some t → args[j]? = some v → Value.okWide P W .any base t v)
    (hW : DataW.Whole enc P f.params.toList s.vars false W args.toList ds gs before) :
    Calls P fid args W fun e W' => ∃ v, e = .returned v ∧ s.post enc P f false true false false W args v W' := by
  have hW' := hW
  obtain ⟨p, q, hA, hV, rfl, hfz, hnd⟩ := hW
  rw [hvars] at hV
  obtain ⟨rfl, rfl⟩ := trodVars_none hV
  simp only [List.append_nil] at hW' hfz hnd
  have hok : ∀ t ∈ f.params.toList, t ∈ S := fun t ht => List.contains_iff_mem.1 (List.all_eq_true.1 hts t ht)
  obtain ⟨ar, hargs, hbk, hal, har⟩ := args_of hl hS f.params.toList args.toList ds p hok hA (fun j t v ht hv => hval j t v (by simpa using ht) (by simpa using hv))
  have hlt : ∀ t ∈ f.params.toList, t < P.types.size := fun t ht => by
    have := List.all_eq_true.1 hS t (hok t ht)
    simp only [okOne, Bool.and_eq_true, decide_eq_true_eq] at this
    exact this.1
  have hdl : ds.length = f.params.size := by
    have : ∀ (ts : List TypeId) (vs : List Value) (ds : List (DataW H)) (ps : List MemPlace), DataW.TrodAll enc P W 0 (fun _ => true) true ts vs ds ps → ds.length = ts.length := by
      intro ts
      induction ts with
      | nil => intro vs ds ps h; obtain ⟨_, rfl, _⟩ := trodAll_nil h; rfl
      | cons t ts ih =>
        intro vs ds ps h
        obtain ⟨_, _, _, _, _, _, _, rfl, _, _, h2⟩ := trodAll_cons h
        simp [ih _ _ _ h2]
    simpa using this _ _ _ _ hA
  refine (law ar hargs (fun B => by simpa using hbk B) (fun _ => False) args W (by simpa using hal) (fun j v y hv hy => (har j v y (by simpa using hv) hy).mono (Grow.refl _ _) (fun b _ hb => hb.elim (fun f => f) (fun h => by simp [Own.has] at h))) ⟨fun e he => by simp at he, List.nodup_nil, fun b hb => by simp [Own.has] at hb, fun b hb => hb.elim⟩).mono ?_
  rintro e W' ⟨r, own', ⟨rfl, rfl⟩, ⟨v, rfl, hv⟩, _, hg, _⟩
  cases hv
  have hb : Below W.heap.size W W' := ⟨hg.os, hg.tape, hg.out, hg.sz, fun b hb => hg.same b hb (fun h => by simp [Own.has] at h)⟩
  have hps : ∀ x ∈ p, x.block < W.heap.size := fun x hx => hW'.lt x hx
  have again : ∀ sp : Nat → Bool, (∀ x ∈ p, sp x.block = true) → DataW.TrodAll enc P W' 0 sp true f.params.toList args.toList ds p := fun sp hsp =>
    all_spare hl _ _ _ _ hlt hA hsp (fun x hx => hb.same (hps x hx))
  have hfn' := hfn ds hdl
  have res : ∀ (b : Nat) (sp : Nat → Bool) (hd : Bool), DataW.TrodAll enc P W' b sp hd f.resultTypes.toList ((Value.bool true).resultList f.resultTypes.size) (s.fn H (ds ++ [])).results [] := fun b sp hd => by
    rw [List.append_nil, hfn', hres]
    exact trodAll_cons_mk (shut_bool hub true) trodAll_mk0
  have arg : ∀ sp : Nat → Bool, (∀ x ∈ p, sp x.block = true) → DataW.TrodAll enc P W' 0 sp true f.params.toList args.toList (s.fn H (ds ++ [])).args p := fun sp hsp => by
    rw [List.append_nil, hfn']
    exact again sp hsp
  have vr : ∀ sp : Nat → Bool, DataW.TrodVars enc P W' sp s.vars (s.fn H (ds ++ [])).vars [] := fun sp => by
    rw [hvars, List.append_nil, hfn']
    rfl
  refine ⟨_, rfl, ds, [], p, [], p, [], hW', res _ _ _, arg _ (fun x hx => by simpa using hps x hx), vr _, hb.frame _, fun _ => ?_⟩
  refine ⟨ok_one hres rfl (okWide_bool_mk hub _), _, _, ([] ++ p) ++ [], ⟨[] ++ p, [], trodAll_append (arg _ (fun _ _ => rfl)) (res _ _ _), vr _, rfl, ?_, ?_⟩, ?_⟩
  · intro b off hp
    have hp' : MemPlace.cell b off ∈ p := by simpa using hp
    rw [hb.frozen (p := ⟨b, off, none⟩) (hps _ hp')]
    exact hfz b off hp'
  · intro ha
    simpa using hnd ha
  · intro x hp _
    simpa using hp
end
end Go.Aw
namespace Go.Aw
section
variable {P : Program} {k : Nat} {t : TypeId} {xs : List AV}
theorem sh_int {q : IntKind} (hu : P.underlying t = some (.int q)) (h : Sh P (k + 1) t xs) : ∃ n, xs = [.int q n] ∧ (Lit.int q n).wf = true := by simpa only [Sh, hu] using h
theorem sh_bool (hu : P.underlying t = some .bool) (h : Sh P (k + 1) t xs) : ∃ b, xs = [.bool b] := by simpa only [Sh, hu] using h
theorem sh_string (hu : P.underlying t = some .string) (h : Sh P (k + 1) t xs) : ∃ l, xs = [.str l] ∧ l.length ≤ maxLen := by simpa only [Sh, hu] using h
theorem sh_slice {e : TypeId} (hu : P.underlying t = some (.slice e)) (h : Sh P (k + 1) t xs) : ∃ ys : List (List AV), xs = [.sl (ys.map (argAV P e))] ∧ ys.length ≤ maxLen ∧ ∀ y, y ∈ ys → Sh P k e y := by simpa only [Sh, hu] using h
theorem sh_struct {fs : Array Field} (hu : P.underlying t = some (.struct fs)) (h : Sh P (k + 1) t xs) : ∃ ys : List (List AV), xs = ys.flatten ∧ ys.length = fs.size ∧ ∀ (i : Nat) (f : Field) (y : List AV), fs[i]? = some f → ys[i]? = some y → Sh P k f.type y := by simpa only [Sh, hu] using h
theorem sh_array {m : Nat} {e : TypeId} (hu : P.underlying t = some (.array m e)) (h : Sh P (k + 1) t xs) : ∃ ys : List (List AV), xs = ys.flatten ∧ ys.length = m ∧ ∀ y, y ∈ ys → Sh P k e y := by simpa only [Sh, hu] using h
theorem arg_int {q : IntKind} (hu : P.underlying t = some (.int q)) {x : AV} : argAV P t [x] = x := by simp [argAV, hu]
theorem arg_string (hu : P.underlying t = some .string) {x : AV} : argAV P t [x] = x := by simp [argAV, hu]
theorem arg_struct {fs : Array Field} (hu : P.underlying t = some (.struct fs)) : argAV P t xs = .agg xs := by simp [argAV, hu]
theorem args_nil {ar : List AV} (h : Args P [] ar) : ar = [] := by cases h; rfl
theorem args_cons {ts : List TypeId} {ar : List AV} (h : Args P (t :: ts) ar) : ∃ xs ar' n, ar = argAV P t xs :: ar' ∧ Sh P n t xs ∧ Args P ts ar' := by
  cases h with
  | cons _ _ xs ar' n h hr => exact ⟨xs, ar', n, rfl, h, hr⟩
theorem sh_zero (h : Sh P 0 t xs) : False := h
theorem rdl {α : Type} {f : α → List AV} {g : α → AV} {ok : α → Prop} {e : TypeId} {n : Nat} (hu : P.underlying t = some (.slice e)) (hg : ∀ a, argAV P e (f a) = g a)
    (H : ∀ m, m < n + 1 → ∀ y, Sh P m e y → ∃ a, y = f a ∧ ok a) (h : Sh P (n + 1) t xs) : ∃ l : List α, xs = [.sl (l.map g)] ∧ ∀ a, a ∈ l → ok a := by
  obtain ⟨ys, rfl, hlen, hy⟩ := sh_slice hu h
  have : ∃ l : List α, ys = l.map f ∧ ∀ a, a ∈ l → ok a := by
    clear h hlen
    induction ys with
    | nil => exact ⟨[], rfl, fun a ha => by simp at ha⟩
    | cons y ys ih =>
      obtain ⟨a, rfl, oa⟩ := H n (by omega) y (hy y (List.mem_cons_self ..))
      obtain ⟨l, rfl, ol⟩ := ih (fun z hz => hy z (List.mem_cons_of_mem _ hz))
      exact ⟨a :: l, rfl, fun b hb => by rcases List.mem_cons.1 hb with rfl | hb; exact oa; exact ol b hb⟩
  obtain ⟨l, rfl, ol⟩ := this
  refine ⟨l, ?_, ol⟩
  rw [List.map_map]
  congr 2
  exact List.map_congr_left fun a _ => hg a
theorem rdl0 {α : Type} {f : α → List AV} {g : α → AV} {ok : α → Prop} {e : TypeId} {n : Nat} (hu : P.underlying t = some (.slice e)) (hg : ∀ a, argAV P e (f a) = g a)
    (H : ∀ m, m < n + 1 → ∀ y, Sh P m e y → ∃ a, y = f a ∧ ok a) (h : Sh P n t xs) : ∃ l : List α, xs = [.sl (l.map g)] ∧ ∀ a, a ∈ l → ok a := by
  cases n with
  | zero => exact h.elim
  | succ n => exact rdl hu hg (fun m hm => H m (by omega)) h
theorem rng_i64 {n : Int} (h : (Lit.int .i64 n).wf = true) : -9223372036854775808 ≤ n ∧ n ≤ 9223372036854775807 := by simpa [Lit.wf, IntKind.min, IntKind.max, IntKind.signed, IntKind.bits] using h
theorem rng_u8 {n : Int} (h : (Lit.int .u8 n).wf = true) : 0 ≤ n ∧ n ≤ 255 := by simpa [Lit.wf, IntKind.min, IntKind.max, IntKind.signed, IntKind.bits] using h
theorem rng_u16 {n : Int} (h : (Lit.int .u16 n).wf = true) : 0 ≤ n ∧ n ≤ 65535 := by simpa [Lit.wf, IntKind.min, IntKind.max, IntKind.signed, IntKind.bits] using h
theorem bulkL_mem {α : Type} {g : α → AV} {a : α} : ∀ {l : List α}, a ∈ l → (g a).bulk ≤ bulkL (l.map g)
  | b :: l, h => by
    rw [List.map_cons, bulkL]
    rcases List.mem_cons.1 h with rfl | h
    · omega
    · have := bulkL_mem (g := g) h; omega
theorem bulk_pos (x : AV) : 1 ≤ x.bulk := by cases x <;> simp [AV.bulk]
theorem bulkL_len {α : Type} {g : α → AV} : ∀ (l : List α), l.length ≤ bulkL (l.map g)
  | [] => by simp
  | b :: l => by
    rw [List.map_cons, bulkL, List.length_cons]
    have := bulkL_len (g := g) l
    have := bulk_pos (g b)
    omega
end
end Go.Aw
set_option maxRecDepth 100000
namespace Go.Proofs.Inc
open Go.Aw
structure Civil.ok (x : Civil) : Prop where
  Year : -9223372036854775808 ≤ x.Year ∧ x.Year ≤ 9223372036854775807
  Month : -9223372036854775808 ≤ x.Month ∧ x.Month ≤ 9223372036854775807
  Day : -9223372036854775808 ≤ x.Day ∧ x.Day ≤ 9223372036854775807
structure Span.ok (x : Span) : Prop where
  Days : -9223372036854775808 ≤ x.Days ∧ x.Days ≤ 9223372036854775807
  Name : List.length x.Name ≤ 9223372036854775807
structure Named.ok (x : Named) : Prop where
  Name : List.length x.Name ≤ 9223372036854775807
  Is : -9223372036854775808 ≤ x.Is ∧ x.Is ≤ 9223372036854775807
structure Ratio.ok (x : Ratio) : Prop where
  Num : -9223372036854775808 ≤ x.Num ∧ x.Num ≤ 9223372036854775807
  Den : -9223372036854775808 ≤ x.Den ∧ x.Den ≤ 9223372036854775807
structure Arr7B.ok (x : Arr7B) : Prop where
inductive Item.ok : Item → Prop
  | mk (x : Item) (hKind : -9223372036854775808 ≤ x.Kind ∧ x.Kind ≤ 9223372036854775807) (hName : List.length x.Name ≤ 9223372036854775807) (hAt : -9223372036854775808 ≤ x.At ∧ x.At ≤ 9223372036854775807) (hOf : List.length x.Of ≤ 9223372036854775807) (hAct : List.length x.Act ≤ 9223372036854775807) (hWord : -9223372036854775808 ≤ x.Word ∧ x.Word ≤ 9223372036854775807) (hTimes : -9223372036854775808 ≤ x.Times ∧ x.Times ≤ 9223372036854775807) (hWithin : Span.ok x.Within) (hGrace : Span.ok x.Grace) (hConds : ∀ a7, a7 ∈ x.Conds → Named.ok a7) (hBy : List.length x.By ≤ 9223372036854775807) (hUntil : List.length x.Until ≤ 9223372036854775807) (hNum : Ratio.ok x.Num) (hUnit : List.length x.Unit ≤ 9223372036854775807) (hSum : List.length x.Sum ≤ 9223372036854775807) (hGive : List.length x.Give ≤ 9223372036854775807) (hTo : List.length x.To ≤ 9223372036854775807) (hDays : Arr7B.ok x.Days) (hDates : ∀ a7, a7 ∈ x.Dates → Civil.ok a7) (hNames : ∀ a7, a7 ∈ x.Names → List.length a7 ≤ 9223372036854775807) (hItems : ∀ a7, a7 ∈ x.Items → Item.ok a7) : Item.ok x
theorem Item.ok.Kind {x : Item} (h : Item.ok x) : -9223372036854775808 ≤ x.Kind ∧ x.Kind ≤ 9223372036854775807 := by cases h; assumption
theorem Item.ok.Name {x : Item} (h : Item.ok x) : List.length x.Name ≤ 9223372036854775807 := by cases h; assumption
theorem Item.ok.At {x : Item} (h : Item.ok x) : -9223372036854775808 ≤ x.At ∧ x.At ≤ 9223372036854775807 := by cases h; assumption
theorem Item.ok.Of {x : Item} (h : Item.ok x) : List.length x.Of ≤ 9223372036854775807 := by cases h; assumption
theorem Item.ok.Act {x : Item} (h : Item.ok x) : List.length x.Act ≤ 9223372036854775807 := by cases h; assumption
theorem Item.ok.Word {x : Item} (h : Item.ok x) : -9223372036854775808 ≤ x.Word ∧ x.Word ≤ 9223372036854775807 := by cases h; assumption
theorem Item.ok.Times {x : Item} (h : Item.ok x) : -9223372036854775808 ≤ x.Times ∧ x.Times ≤ 9223372036854775807 := by cases h; assumption
theorem Item.ok.Within {x : Item} (h : Item.ok x) : Span.ok x.Within := by cases h; assumption
theorem Item.ok.Grace {x : Item} (h : Item.ok x) : Span.ok x.Grace := by cases h; assumption
theorem Item.ok.Conds {x : Item} (h : Item.ok x) : ∀ a7, a7 ∈ x.Conds → Named.ok a7 := by cases h; assumption
theorem Item.ok.By {x : Item} (h : Item.ok x) : List.length x.By ≤ 9223372036854775807 := by cases h; assumption
theorem Item.ok.Until {x : Item} (h : Item.ok x) : List.length x.Until ≤ 9223372036854775807 := by cases h; assumption
theorem Item.ok.Num {x : Item} (h : Item.ok x) : Ratio.ok x.Num := by cases h; assumption
theorem Item.ok.Unit {x : Item} (h : Item.ok x) : List.length x.Unit ≤ 9223372036854775807 := by cases h; assumption
theorem Item.ok.Sum {x : Item} (h : Item.ok x) : List.length x.Sum ≤ 9223372036854775807 := by cases h; assumption
theorem Item.ok.Give {x : Item} (h : Item.ok x) : List.length x.Give ≤ 9223372036854775807 := by cases h; assumption
theorem Item.ok.To {x : Item} (h : Item.ok x) : List.length x.To ≤ 9223372036854775807 := by cases h; assumption
theorem Item.ok.Days {x : Item} (h : Item.ok x) : Arr7B.ok x.Days := by cases h; assumption
theorem Item.ok.Dates {x : Item} (h : Item.ok x) : ∀ a7, a7 ∈ x.Dates → Civil.ok a7 := by cases h; assumption
theorem Item.ok.Names {x : Item} (h : Item.ok x) : ∀ a7, a7 ∈ x.Names → List.length a7 ≤ 9223372036854775807 := by cases h; assumption
theorem Item.ok.Items {x : Item} (h : Item.ok x) : ∀ a7, a7 ∈ x.Items → Item.ok a7 := by cases h; assumption
structure Source.ok (x : Source) : Prop where
  Name : List.length x.Name ≤ 9223372036854775807
  From : Civil.ok x.From
  Days : -9223372036854775808 ≤ x.Days ∧ x.Days ≤ 9223372036854775807
  Items : ∀ a7, a7 ∈ x.Items → Item.ok a7
theorem rd9 : ∀ (n : Nat) (xs : List AV), Sh Try.prog n 9 xs → ∃ a : List UInt8, xs = [.str a] ∧ (List.length a ≤ 9223372036854775807) := by
  intro n xs h
  cases n with
  | zero => exact (sh_zero h).elim
  | succ n =>
    obtain ⟨a, rfl, w⟩ := sh_string Try.underlying9 h
    exact ⟨a, rfl, w⟩
theorem rd3 : ∀ (n : Nat) (xs : List AV), Sh Try.prog n 3 xs → ∃ a : Int, xs = [.int .i64 a] ∧ (-9223372036854775808 ≤ a ∧ a ≤ 9223372036854775807) := by
  intro n xs h
  cases n with
  | zero => exact (sh_zero h).elim
  | succ n =>
    obtain ⟨a, rfl, w⟩ := sh_int Try.underlying3 h
    exact ⟨a, rfl, rng_i64 w⟩
theorem rd23 : ∀ (n : Nat) (xs : List AV), Sh Try.prog n 23 xs → ∃ a : Civil, xs = Civil.cs a ∧ (Civil.ok a) := by
  intro n xs h
  cases n with
  | zero => exact (sh_zero h).elim
  | succ n =>
    obtain ⟨ys, rfl, hl, hy⟩ := sh_struct Try.underlying23 h
    match ys, hl with
    | [y0, y1, y2], _ =>
      obtain ⟨a0, e0, o0⟩ := rd3 n y0 (hy 0 _ y0 rfl rfl)
      obtain ⟨a1, e1, o1⟩ := rd3 n y1 (hy 1 _ y1 rfl rfl)
      obtain ⟨a2, e2, o2⟩ := rd3 n y2 (hy 2 _ y2 rfl rfl)
      subst e0 e1 e2
      refine ⟨⟨a0, a1, a2⟩, ?_, ⟨o0, o1, o2⟩⟩
      simp only [Civil.cs_eq, List.flatten_cons, List.flatten_nil, List.append_nil, List.cons_append, List.nil_append]
theorem rd4 : ∀ (n : Nat) (xs : List AV), Sh Try.prog n 4 xs → ∃ a : Bool, xs = [.bool a] ∧ True := by
  intro n xs h
  cases n with
  | zero => exact (sh_zero h).elim
  | succ n =>
    obtain ⟨a, rfl⟩ := sh_bool Try.underlying4 h
    exact ⟨a, rfl, trivial⟩
theorem rd33 : ∀ (n : Nat) (xs : List AV), Sh Try.prog n 33 xs → ∃ a : Span, xs = Span.cs a ∧ (Span.ok a) := by
  intro n xs h
  cases n with
  | zero => exact (sh_zero h).elim
  | succ n =>
    obtain ⟨ys, rfl, hl, hy⟩ := sh_struct Try.underlying33 h
    match ys, hl with
    | [y0, y1, y2], _ =>
      obtain ⟨a0, e0, o0⟩ := rd3 n y0 (hy 0 _ y0 rfl rfl)
      obtain ⟨a1, e1, o1⟩ := rd4 n y1 (hy 1 _ y1 rfl rfl)
      obtain ⟨a2, e2, o2⟩ := rd9 n y2 (hy 2 _ y2 rfl rfl)
      subst e0 e1 e2
      refine ⟨⟨a0, a1, a2⟩, ?_, ⟨o0, o2⟩⟩
      simp only [Span.cs_eq, List.flatten_cons, List.flatten_nil, List.append_nil, List.cons_append, List.nil_append]
theorem rd57 : ∀ (n : Nat) (xs : List AV), Sh Try.prog n 57 xs → ∃ a : Named, xs = Named.cs a ∧ (Named.ok a) := by
  intro n xs h
  cases n with
  | zero => exact (sh_zero h).elim
  | succ n =>
    obtain ⟨ys, rfl, hl, hy⟩ := sh_struct Try.underlying57 h
    match ys, hl with
    | [y0, y1], _ =>
      obtain ⟨a0, e0, o0⟩ := rd9 n y0 (hy 0 _ y0 rfl rfl)
      obtain ⟨a1, e1, o1⟩ := rd3 n y1 (hy 1 _ y1 rfl rfl)
      subst e0 e1
      refine ⟨⟨a0, a1⟩, ?_, ⟨o0, o1⟩⟩
      simp only [Named.cs_eq, List.flatten_cons, List.flatten_nil, List.append_nil, List.cons_append, List.nil_append]
theorem rd34 : ∀ (n : Nat) (xs : List AV), Sh Try.prog n 34 xs → ∃ a : List Named, xs = [.sl (List.map Named.av a)] ∧ (∀ a1, a1 ∈ a → Named.ok a1) := by
  intro n xs h
  cases n with
  | zero => exact (sh_zero h).elim
  | succ n => exact rdl (f := fun a => Named.cs a) (g := fun a => Named.av a) (ok := fun a => Named.ok a) Try.underlying34 (fun a => arg_struct Try.underlying57) (fun m hm y hy => rd57 m y hy) h
theorem rd36 : ∀ (n : Nat) (xs : List AV), Sh Try.prog n 36 xs → ∃ a : Ratio, xs = Ratio.cs a ∧ (Ratio.ok a) := by
  intro n xs h
  cases n with
  | zero => exact (sh_zero h).elim
  | succ n =>
    obtain ⟨ys, rfl, hl, hy⟩ := sh_struct Try.underlying36 h
    match ys, hl with
    | [y0, y1], _ =>
      obtain ⟨a0, e0, o0⟩ := rd3 n y0 (hy 0 _ y0 rfl rfl)
      obtain ⟨a1, e1, o1⟩ := rd3 n y1 (hy 1 _ y1 rfl rfl)
      subst e0 e1
      refine ⟨⟨a0, a1⟩, ?_, ⟨o0, o1⟩⟩
      simp only [Ratio.cs_eq, List.flatten_cons, List.flatten_nil, List.append_nil, List.cons_append, List.nil_append]
theorem rd37 : ∀ (n : Nat) (xs : List AV), Sh Try.prog n 37 xs → ∃ a : Arr7B, xs = Arr7B.cs a ∧ (Arr7B.ok a) := by
  intro n xs h
  cases n with
  | zero => exact (sh_zero h).elim
  | succ n =>
    obtain ⟨ys, rfl, hl, hy⟩ := sh_array Try.underlying37 h
    match ys, hl with
    | [y0, y1, y2, y3, y4, y5, y6], _ =>
      obtain ⟨a0, e0, o0⟩ := rd4 n y0 (hy y0 (by simp))
      obtain ⟨a1, e1, o1⟩ := rd4 n y1 (hy y1 (by simp))
      obtain ⟨a2, e2, o2⟩ := rd4 n y2 (hy y2 (by simp))
      obtain ⟨a3, e3, o3⟩ := rd4 n y3 (hy y3 (by simp))
      obtain ⟨a4, e4, o4⟩ := rd4 n y4 (hy y4 (by simp))
      obtain ⟨a5, e5, o5⟩ := rd4 n y5 (hy y5 (by simp))
      obtain ⟨a6, e6, o6⟩ := rd4 n y6 (hy y6 (by simp))
      subst e0 e1 e2 e3 e4 e5 e6
      refine ⟨⟨a0, a1, a2, a3, a4, a5, a6⟩, ?_, ⟨⟩⟩
      simp only [Arr7B.cs_eq, List.flatten_cons, List.flatten_nil, List.append_nil, List.cons_append, List.nil_append]
theorem rd38 : ∀ (n : Nat) (xs : List AV), Sh Try.prog n 38 xs → ∃ a : List Civil, xs = [.sl (List.map Civil.av a)] ∧ (∀ a1, a1 ∈ a → Civil.ok a1) := by
  intro n xs h
  cases n with
  | zero => exact (sh_zero h).elim
  | succ n => exact rdl (f := fun a => Civil.cs a) (g := fun a => Civil.av a) (ok := fun a => Civil.ok a) Try.underlying38 (fun a => arg_struct Try.underlying23) (fun m hm y hy => rd23 m y hy) h
theorem rd39 : ∀ (n : Nat) (xs : List AV), Sh Try.prog n 39 xs → ∃ a : List (List UInt8), xs = [.sl (List.map AV.str a)] ∧ (∀ a1, a1 ∈ a → List.length a1 ≤ 9223372036854775807) := by
  intro n xs h
  cases n with
  | zero => exact (sh_zero h).elim
  | succ n => exact rdl (f := fun a => [.str a]) (g := fun a => .str a) (ok := fun a => List.length a ≤ 9223372036854775807) Try.underlying39 (fun a => arg_string Try.underlying9) (fun m hm y hy => rd9 m y hy) h
theorem rd41 : ∀ (n : Nat) (xs : List AV), Sh Try.prog n 41 xs → ∃ a : Item, xs = Item.cs a ∧ (Item.ok a) := by
  intro n
  induction n using Nat.strongRecOn with
  | _ n ih =>
  intro xs h
  cases n with
  | zero => exact (sh_zero h).elim
  | succ n =>
    obtain ⟨ys, rfl, hl, hy⟩ := sh_struct Try.underlying41 h
    match ys, hl with
    | [y0, y1, y2, y3, y4, y5, y6, y7, y8, y9, y10, y11, y12, y13, y14, y15, y16, y17, y18, y19, y20, y21], _ =>
      obtain ⟨a0, e0, o0⟩ := rd3 n y0 (hy 0 _ y0 rfl rfl)
      obtain ⟨a1, e1, o1⟩ := rd9 n y1 (hy 1 _ y1 rfl rfl)
      obtain ⟨a2, e2, o2⟩ := rd3 n y2 (hy 2 _ y2 rfl rfl)
      obtain ⟨a3, e3, o3⟩ := rd9 n y3 (hy 3 _ y3 rfl rfl)
      obtain ⟨a4, e4, o4⟩ := rd9 n y4 (hy 4 _ y4 rfl rfl)
      obtain ⟨a5, e5, o5⟩ := rd3 n y5 (hy 5 _ y5 rfl rfl)
      obtain ⟨a6, e6, o6⟩ := rd3 n y6 (hy 6 _ y6 rfl rfl)
      obtain ⟨a7, e7, o7⟩ := rd33 n y7 (hy 7 _ y7 rfl rfl)
      obtain ⟨a8, e8, o8⟩ := rd33 n y8 (hy 8 _ y8 rfl rfl)
      obtain ⟨a9, e9, o9⟩ := rd34 n y9 (hy 9 _ y9 rfl rfl)
      obtain ⟨a10, e10, o10⟩ := rd9 n y10 (hy 10 _ y10 rfl rfl)
      obtain ⟨a11, e11, o11⟩ := rd9 n y11 (hy 11 _ y11 rfl rfl)
      obtain ⟨a12, e12, o12⟩ := rd36 n y12 (hy 12 _ y12 rfl rfl)
      obtain ⟨a13, e13, o13⟩ := rd9 n y13 (hy 13 _ y13 rfl rfl)
      obtain ⟨a14, e14, o14⟩ := rd9 n y14 (hy 14 _ y14 rfl rfl)
      obtain ⟨a15, e15, o15⟩ := rd4 n y15 (hy 15 _ y15 rfl rfl)
      obtain ⟨a16, e16, o16⟩ := rd9 n y16 (hy 16 _ y16 rfl rfl)
      obtain ⟨a17, e17, o17⟩ := rd9 n y17 (hy 17 _ y17 rfl rfl)
      obtain ⟨a18, e18, o18⟩ := rd37 n y18 (hy 18 _ y18 rfl rfl)
      obtain ⟨a19, e19, o19⟩ := rd38 n y19 (hy 19 _ y19 rfl rfl)
      obtain ⟨a20, e20, o20⟩ := rd39 n y20 (hy 20 _ y20 rfl rfl)
      obtain ⟨a21, e21, o21⟩ : ∃ a : List Item, y21 = [.sl (List.map Item.av a)] ∧ (∀ a1, a1 ∈ a → Item.ok a1) := rdl0 (f := fun a => Item.cs a) (g := fun a => Item.av a) (ok := fun a => Item.ok a) Try.underlying24 (fun a => arg_struct Try.underlying41) (fun m hm y hy => ih m hm y hy) (hy 21 _ y21 rfl rfl)
      subst e0 e1 e2 e3 e4 e5 e6 e7 e8 e9 e10 e11 e12 e13 e14 e15 e16 e17 e18 e19 e20 e21
      refine ⟨⟨a0, a1, a2, a3, a4, a5, a6, a7, a8, a9, a10, a11, a12, a13, a14, a15, a16, a17, a18, a19, a20, a21⟩, ?_, .mk _ o0 o1 o2 o3 o4 o5 o6 o7 o8 o9 o10 o11 o12 o13 o14 o16 o17 o18 o19 o20 o21⟩
      simp only [Item.cs_eq, List.flatten_cons, List.flatten_nil, List.append_nil, List.cons_append, List.nil_append, Arr7B.cs_eq, Ratio.cs_eq, Span.cs_eq]
theorem rd24 : ∀ (n : Nat) (xs : List AV), Sh Try.prog n 24 xs → ∃ a : List Item, xs = [.sl (List.map Item.av a)] ∧ (∀ a1, a1 ∈ a → Item.ok a1) := by
  intro n xs h
  cases n with
  | zero => exact (sh_zero h).elim
  | succ n => exact rdl (f := fun a => Item.cs a) (g := fun a => Item.av a) (ok := fun a => Item.ok a) Try.underlying24 (fun a => arg_struct Try.underlying41) (fun m hm y hy => rd41 m y hy) h
theorem rd26 : ∀ (n : Nat) (xs : List AV), Sh Try.prog n 26 xs → ∃ a : Source, xs = Source.cs a ∧ (Source.ok a) := by
  intro n xs h
  cases n with
  | zero => exact (sh_zero h).elim
  | succ n =>
    obtain ⟨ys, rfl, hl, hy⟩ := sh_struct Try.underlying26 h
    match ys, hl with
    | [y0, y1, y2, y3], _ =>
      obtain ⟨a0, e0, o0⟩ := rd9 n y0 (hy 0 _ y0 rfl rfl)
      obtain ⟨a1, e1, o1⟩ := rd23 n y1 (hy 1 _ y1 rfl rfl)
      obtain ⟨a2, e2, o2⟩ := rd3 n y2 (hy 2 _ y2 rfl rfl)
      obtain ⟨a3, e3, o3⟩ := rd24 n y3 (hy 3 _ y3 rfl rfl)
      subst e0 e1 e2 e3
      refine ⟨⟨a0, a1, a2, a3⟩, ?_, ⟨o0, o1, o2, o3⟩⟩
      simp only [Source.cs_eq, List.flatten_cons, List.flatten_nil, List.append_nil, List.cons_append, List.nil_append, Civil.cs_eq]
theorem rd48 : ∀ (n : Nat) (xs : List AV), Sh Try.prog n 48 xs → ∃ a : Int, xs = [.int .u16 a] ∧ (0 ≤ a ∧ a ≤ 65535) := by
  intro n xs h
  cases n with
  | zero => exact (sh_zero h).elim
  | succ n =>
    obtain ⟨a, rfl, w⟩ := sh_int Try.underlying48 h
    exact ⟨a, rfl, rng_u16 w⟩
theorem rd5 : ∀ (n : Nat) (xs : List AV), Sh Try.prog n 5 xs → ∃ a : Int, xs = [.int .u8 a] ∧ (0 ≤ a ∧ a ≤ 255) := by
  intro n xs h
  cases n with
  | zero => exact (sh_zero h).elim
  | succ n =>
    obtain ⟨a, rfl, w⟩ := sh_int Try.underlying5 h
    exact ⟨a, rfl, rng_u8 w⟩
end Go.Proofs.Inc
namespace Go.Proofs.Inc
open Go.Aw
inductive Dp (B : Nat) : Item → Prop
  | mk (x : Item) (name : x.Name.length ≤ B) (conds : x.Conds.length ≤ NB) (cname : ∀ c, c ∈ x.Conds → c.Name.length ≤ B) (names : x.Names.length ≤ NB) (dates : x.Dates.length ≤ NB) (items : x.Items.length ≤ NB) (rec : ∀ y, y ∈ x.Items → Dp B y) : Dp B x
theorem Dp.name {B : Nat} {x : Item} (h : Dp B x) : x.Name.length ≤ B := by cases h; assumption
theorem Dp.conds {B : Nat} {x : Item} (h : Dp B x) : x.Conds.length ≤ NB := by cases h; assumption
theorem Dp.cname {B : Nat} {x : Item} (h : Dp B x) : ∀ c, c ∈ x.Conds → c.Name.length ≤ B := by cases h; assumption
theorem Dp.names {B : Nat} {x : Item} (h : Dp B x) : x.Names.length ≤ NB := by cases h; assumption
theorem Dp.dates {B : Nat} {x : Item} (h : Dp B x) : x.Dates.length ≤ NB := by cases h; assumption
theorem Dp.items {B : Nat} {x : Item} (h : Dp B x) : x.Items.length ≤ NB := by cases h; assumption
theorem Dp.sub {B : Nat} {x : Item} (h : Dp B x) : ∀ y, y ∈ x.Items → Dp B y := by cases h; assumption
theorem Dp.mono {B C : Nat} (hBC : B ≤ C) {x : Item} (h : Dp B x) : Dp C x := by
  induction h with
  | mk x h1 h2 h3 h4 h5 h6 h7 ih => exact .mk x (by omega) h2 (fun c hc => by have := h3 c hc; omega) h4 h5 h6 ih
theorem Dp.bd {B : Nat} (hB : B ≤ 1099511627776) {x : Item} (h : Dp B x) : Bd x := ⟨by have := h.name; omega, h.conds, fun c hc => by have := h.cname c hc; omega, h.names⟩
theorem Dp.bdT {B : Nat} (hB : B ≤ 1099511627776) {x : Item} (h : Dp B x) : BdT x := ⟨h.names, h.items, fun y hy => (h.sub y hy).bd hB⟩
inductive Dq : Item → Prop
  | mk (x : Item) (conds : x.Conds.length ≤ NB) (names : x.Names.length ≤ NB) (dates : x.Dates.length ≤ NB) (items : x.Items.length ≤ NB) (rec : ∀ y, y ∈ x.Items → Dq y) : Dq x
theorem Dq.conds {x : Item} (h : Dq x) : x.Conds.length ≤ NB := by cases h; assumption
theorem Dq.names {x : Item} (h : Dq x) : x.Names.length ≤ NB := by cases h; assumption
theorem Dq.dates {x : Item} (h : Dq x) : x.Dates.length ≤ NB := by cases h; assumption
theorem Dq.items {x : Item} (h : Dq x) : x.Items.length ≤ NB := by cases h; assumption
theorem Dq.sub {x : Item} (h : Dq x) : ∀ y, y ∈ x.Items → Dq y := by cases h; assumption
theorem Dp.dq {B : Nat} {x : Item} (h : Dp B x) : Dq x := by
  induction h with
  | mk x h1 h2 h3 h4 h5 h6 h7 ih => exact .mk x h2 h4 h5 h6 ih
theorem item_bulk {x : Item} {K : Nat} (h : bulkL (Item.cs x) ≤ K) : x.Name.length ≤ K ∧ bulkL (x.Conds.map Named.av) ≤ K ∧ bulkL (x.Names.map AV.str) ≤ K ∧ bulkL (x.Dates.map Civil.av) ≤ K ∧ bulkL (x.Items.map Item.av) + 1 ≤ K := by
  rw [Item.cs_eq] at h
  simp only [bulkL, bulk_str, bulk_sl, bulk_int, bulk_bool] at h
  omega
theorem named_bulk {c : Named} : c.Name.length ≤ (Named.av c).bulk := by
  rw [Named.av, bulk_agg, Named.cs_eq]
  simp only [bulkL, bulk_str, bulk_int]
  omega
theorem iszl_bulk : ∀ (n : Nat) (l : List Item), iszl l ≤ n → iszl l ≤ bulkL (l.map Item.av)
  | _, [], _ => by simp [iszl_nil]
  | 0, x :: l, h => by rw [iszl_cons] at h; omega
  | n + 1, x :: l, h => by
    rw [iszl_cons] at h
    rw [iszl_cons, List.map_cons, bulkL]
    have h1 := iszl_bulk n l (by omega)
    have h2 := iszl_bulk n x.Items (by omega)
    have h3 := item_bulk (Nat.le_refl (bulkL (Item.cs x)))
    rw [Item.av, bulk_agg]
    omega
theorem dp_of : ∀ (n : Nat) (x : Item), iszl x.Items ≤ n → bulkL (Item.cs x) ≤ 1048576 → Dp 1048576 x := by
  intro n
  induction n with
  | zero =>
    intro x hn h
    obtain ⟨h1, h2, h3, h4, h5⟩ := item_bulk h
    have hnil : x.Items = [] := by
      cases hx : x.Items with
      | nil => rfl
      | cons y l => rw [hx, iszl_cons] at hn; omega
    refine .mk x h1 (by have := bulkL_len (g := Named.av) x.Conds; unfold NB; omega) (fun c hc => by have := bulkL_mem (g := Named.av) hc; have := named_bulk (c := c); omega) (by have := bulkL_len (g := AV.str) x.Names; unfold NB; omega) (by have := bulkL_len (g := Civil.av) x.Dates; unfold NB; omega) (by simp [hnil]) (by simp [hnil])
  | succ n ih =>
    intro x hn h
    obtain ⟨h1, h2, h3, h4, h5⟩ := item_bulk h
    refine .mk x h1 (by have := bulkL_len (g := Named.av) x.Conds; unfold NB; omega) (fun c hc => by have := bulkL_mem (g := Named.av) hc; have := named_bulk (c := c); omega) (by have := bulkL_len (g := AV.str) x.Names; unfold NB; omega) (by have := bulkL_len (g := Civil.av) x.Dates; unfold NB; omega) (by have := bulkL_len (g := Item.av) x.Items; unfold NB; omega) (fun y hy => ?_)
    have := iszl_mem hy
    have hb := bulkL_mem (g := Item.av) hy
    rw [Item.av, bulk_agg] at hb
    exact ih y (by omega) (by omega)
theorem source_bulk {p : Source} (h : bulkL [.agg (Source.cs p)] ≤ 1048576) : bulkL (p.Items.map Item.av) ≤ 1048576 := by
  simp only [bulkL, bulk_agg] at h
  rw [Source.cs_eq] at h
  simp only [bulkL, bulk_str, bulk_sl, bulk_int, bulk_bool] at h
  omega
theorem items_dp {l : List Item} (h : bulkL (l.map Item.av) ≤ 1048576) : iszl l ≤ 1048576 ∧ ∀ x, x ∈ l → Dp 1048576 x := by
  refine ⟨Nat.le_trans (iszl_bulk _ l (Nat.le_refl _)) h, fun x hx => ?_⟩
  have hb := bulkL_mem (g := Item.av) hx
  rw [Item.av, bulk_agg] at hb
  exact dp_of _ x (Nat.le_refl _) (by omega)
theorem bdS_of {p : Source} {B : Nat} (hB : B ≤ 1099511627776) (h1 : iszl p.Items ≤ 1099511627776) (h2 : ∀ x, x ∈ p.Items → Dp B x) : BdS p := ⟨h1, fun t ht => (h2 t ht).bdT hB⟩
set_option maxRecDepth 100000 in
theorem s9_true : s9 8388608 = some true := by kernel_rfl
end Go.Proofs.Inc
namespace Go.Proofs.Inc
open Go.Aw
theorem incl_stop (M : Maps) : ∀ (k : Nat) (c : Int) (o : List Item) (q : List Str) (u : Item), (incl M k c o q u).2.1 = true → (incl M k c o q u).1 ≠ 0
  | 0, c, o, q, u, _ => by simp [incl]
  | k + 1, c, o, q, u, h => by
    revert h
    unfold incl
    by_cases hc : 600 < c + 1
    · rw [if_pos hc]; simp
    rw [if_neg hc]
    cases ht : mlook u.Of M.t with
    | none => simp
    | some t =>
      simp only
      by_cases hn : t.Names.length ≠ u.Names.length
      · rw [if_pos hn]; simp
      rw [if_neg hn]
      by_cases hq : (find q u.Of).isSome = true
      · rw [if_pos hq]; simp
      rw [if_neg hq]
      by_cases hm : 24 < u.Name.length
      · rw [if_pos hm]; simp
      rw [if_neg hm]
      refine runL_inv (Inv := fun (s : Int × List Item × List Str) => True) (Q := fun (r : R) => r.2.1 = true → r.1 ≠ 0) t.Items (fun i s a ha hs => ?_) (fun s hs => by simp) 0 _ trivial
      unfold stepI
      by_cases hk : (inst t u a).Kind = 14
      · rw [if_pos hk]
        by_cases hr : (incl M k s.1 s.2.1 s.2.2 (inst t u a)).1 = 0
        · rw [if_pos hr]; trivial
        · rw [if_neg hr]; exact fun _ => hr
      · rw [if_neg hk]
        by_cases hcl : clause (inst t u a).Kind = true
        · rw [if_pos hcl]
          by_cases hr : (add M s.1 s.2.1 s.2.2 (inst t u a) 24).1 = 0
          · rw [if_pos hr]; trivial
          · rw [if_neg hr]; exact fun _ => hr
        · rw [if_neg hcl]; simp
theorem add_stop {M : Maps} {c : Int} {o : List Item} {q : List Str} {y : Item} {most : Int} : (add M c o q y most).2.1 = true → (add M c o q y most).1 ≠ 0 := by
  unfold add
  by_cases hc : 600 < c + 1
  · rw [if_pos hc]; simp
  rw [if_neg hc]
  by_cases hm : most < (y.Name.length : Int)
  · rw [if_pos hm]; simp
  rw [if_neg hm]
  by_cases hk : clause y.Kind = true
  · rw [if_pos hk]; cases dfn M y <;> simp
  · rw [if_neg hk]; simp
def one (M : Maps) (c : Int) (o : List Item) (y : Item) : R := if y.Kind = 14 then incl M 600 c o [] y else add M c o [] y y.Name.length
end Go.Proofs.Inc
namespace Go.Proofs.Inc
open Go.Aw
def Pl (x : Item) : Prop := defines x.Kind = false ∧ x.Kind ≠ 14 ∧ (clause x.Kind = true → x.Within.Name = [] ∧ x.Grace.Name = [] ∧ x.Sum = [])
theorem clause_nd {k : Int} (h : clause k = true) : defines k = false ∧ k ≠ 14 := by
  simp only [clause, decide_eq_true_eq] at h
  simp only [defines, decide_eq_false_iff_not]
  omega
def NoN (M : Maps) : Prop := ∀ n d, mlook n M.s = some d → d.Name = []
theorem dcl_s {M : Maps} {y : Item} (h : NoN M) : NoN (dcl M y).2 := by
  unfold dcl
  by_cases h13 : y.Kind = 13
  · rw [if_pos h13]; cases mlook y.Name M.t <;> exact h
  rw [if_neg h13]
  by_cases h6 : y.Kind = 6
  · rw [if_pos h6]
    cases hm : mlook y.Name M.s with
    | none =>
      intro n d hd
      simp only [mlook_mset] at hd
      split at hd
      · cases hd; rfl
      · exact h n d hd
    | some _ => exact h
  rw [if_neg h6]
  by_cases h7 : y.Kind = 7
  · rw [if_pos h7]; cases mlook y.Name M.m <;> exact h
  rw [if_neg h7]; exact h
theorem dcls_s : ∀ (l : List Item) {M : Maps}, NoN M → NoN (dcls M l).2
  | [], M, h => h
  | y :: l, M, h => dcls_s l (dcl_s h)
structure Kept (y z : Item) : Prop where
  kind : z.Kind = y.Kind
  name : z.Name = y.Name
  at_ : z.At = y.At
  conds : z.Conds = y.Conds
  names : z.Names = y.Names
  dates : z.Dates = y.Dates
  items : z.Items = y.Items
theorem Kept.refl (y : Item) : Kept y y := ⟨rfl, rfl, rfl, rfl, rfl, rfl, rfl⟩
theorem Kept.trans {x y z : Item} (h : Kept x y) (k : Kept y z) : Kept x z := ⟨k.1.trans h.1, k.2.trans h.2, k.3.trans h.3, k.4.trans h.4, k.5.trans h.5, k.6.trans h.6, k.7.trans h.7⟩
theorem dfn1_k {M : Maps} {y z : Item} (hM : NoN M) (h : dfn1 M y = some z) : Kept y z ∧ z.Within.Name = [] := by
  unfold dfn1 at h
  split at h
  · rename_i hn; cases h; exact ⟨.refl _, hn⟩
  · obtain ⟨d, hd, rfl⟩ := Option.map_eq_some_iff.1 h
    exact ⟨⟨rfl, rfl, rfl, rfl, rfl, rfl, rfl⟩, hM _ _ hd⟩
theorem dfn2_k {M : Maps} {y z : Item} (hM : NoN M) (h : dfn2 M y = some z) : Kept y z ∧ z.Within = y.Within ∧ z.Grace.Name = [] := by
  unfold dfn2 at h
  split at h
  · rename_i hn; cases h; exact ⟨.refl _, rfl, hn⟩
  · obtain ⟨d, hd, rfl⟩ := Option.map_eq_some_iff.1 h
    exact ⟨⟨rfl, rfl, rfl, rfl, rfl, rfl, rfl⟩, rfl, hM _ _ hd⟩
theorem dfn3_k {M : Maps} {y z : Item} (h : dfn3 M y = some z) : Kept y z ∧ z.Within = y.Within ∧ z.Grace = y.Grace ∧ z.Sum = [] := by
  unfold dfn3 at h
  split at h
  · rename_i hn; cases h; exact ⟨.refl _, rfl, rfl, hn⟩
  · obtain ⟨d, hd, rfl⟩ := Option.map_eq_some_iff.1 h
    exact ⟨⟨rfl, rfl, rfl, rfl, rfl, rfl, rfl⟩, rfl, rfl, rfl⟩
theorem dfn_k {M : Maps} {y z : Item} (hM : NoN M) (h : dfn M y = some z) : Kept y z ∧ z.Within.Name = [] ∧ z.Grace.Name = [] ∧ z.Sum = [] := by
  obtain ⟨b, hb, h3⟩ := Option.bind_eq_some_iff.1 h
  obtain ⟨a, ha, h2⟩ := Option.bind_eq_some_iff.1 hb
  obtain ⟨k1, e1⟩ := dfn1_k hM ha
  obtain ⟨k2, e2, e2'⟩ := dfn2_k hM h2
  obtain ⟨k3, e3, e3', e3''⟩ := dfn3_k h3
  exact ⟨(k1.trans k2).trans k3, by rw [e3, e2, e1], by rw [e3', e2'], e3''⟩
theorem incl_out (M : Maps) (Q P : Item → Prop)
    (hQ : ∀ u t y, Q u → mlook u.Of M.t = some t → y ∈ t.Items → u.Name.length ≤ 24 → (inst t u y).Kind = 14 → Q (inst t u y))
    (hP : ∀ u t y z, Q u → mlook u.Of M.t = some t → y ∈ t.Items → u.Name.length ≤ 24 → (inst t u y).Name.length ≤ 24 → clause (inst t u y).Kind = true → dfn M (inst t u y) = some z → P z) :
    ∀ (k : Nat) (c : Int) (o : List Item) (q : List Str) (u : Item), Q u → ∃ o2, (incl M k c o q u).2.2.2.1 = o ++ o2 ∧ ∀ z, z ∈ o2 → P z
  | 0, c, o, q, u, _ => ⟨[], by simp [incl], by simp⟩
  | k + 1, c, o, q, u, hu => by
    unfold incl
    have base : ∃ o2, o = o ++ o2 ∧ ∀ z, z ∈ o2 → P z := ⟨[], by simp, by simp⟩
    by_cases hc : 600 < c + 1
    · rw [if_pos hc]; exact base
    rw [if_neg hc]
    cases ht : mlook u.Of M.t with
    | none => exact base
    | some t =>
      simp only
      by_cases hn : t.Names.length ≠ u.Names.length
      · rw [if_pos hn]; exact base
      rw [if_neg hn]
      by_cases hq : (find q u.Of).isSome = true
      · rw [if_pos hq]; exact base
      rw [if_neg hq]
      by_cases hm : 24 < u.Name.length
      · rw [if_pos hm]; exact base
      rw [if_neg hm]
      refine runL_inv (Inv := fun (s : Int × List Item × List Str) => ∃ o2, s.2.1 = o ++ o2 ∧ ∀ z, z ∈ o2 → P z) (Q := fun (r : R) => ∃ o2, r.2.2.2.1 = o ++ o2 ∧ ∀ z, z ∈ o2 → P z) t.Items (fun i s a ha hs => ?_) (fun s hs => hs) 0 _ base
      obtain ⟨o1, e1, p1⟩ := hs
      have grow : ∀ r : R, (∃ o2, r.2.2.2.1 = s.2.1 ++ o2 ∧ ∀ z, z ∈ o2 → P z) → ∃ o2, r.2.2.2.1 = o ++ o2 ∧ ∀ z, z ∈ o2 → P z := fun r ⟨o2, e2, p2⟩ => ⟨o1 ++ o2, by rw [e2, e1, List.append_assoc], fun z hz => by
        rcases List.mem_append.1 hz with h | h
        · exact p1 z h
        · exact p2 z h⟩
      unfold stepI
      by_cases hk : (inst t u a).Kind = 14
      · rw [if_pos hk]
        have := grow _ (incl_out M Q P hQ hP k s.1 s.2.1 s.2.2 (inst t u a) (hQ u t a hu ht ha (by omega) hk))
        by_cases hr : (incl M k s.1 s.2.1 s.2.2 (inst t u a)).1 = 0
        · rw [if_pos hr]; exact this
        · rw [if_neg hr]; exact this
      · rw [if_neg hk]
        by_cases hcl : clause (inst t u a).Kind = true
        · rw [if_pos hcl]
          have : ∃ o2, (add M s.1 s.2.1 s.2.2 (inst t u a) 24).2.2.2.1 = s.2.1 ++ o2 ∧ ∀ z, z ∈ o2 → P z := by
            unfold add
            have base' : ∃ o2, s.2.1 = s.2.1 ++ o2 ∧ ∀ z, z ∈ o2 → P z := ⟨[], by simp, by simp⟩
            by_cases hc : 600 < s.1 + 1
            · rw [if_pos hc]; exact base'
            rw [if_neg hc]
            by_cases hm2 : (24 : Int) < ((inst t u a).Name.length : Int)
            · rw [if_pos hm2]; exact base'
            rw [if_neg hm2, if_pos hcl]
            cases hd : dfn M (inst t u a) with
            | none => exact base'
            | some z => exact ⟨[z], rfl, fun x hx => by rw [List.mem_singleton.1 hx]; exact hP u t a z hu ht ha (by omega) (by omega) hcl hd⟩
          have := grow _ this
          by_cases hr : (add M s.1 s.2.1 s.2.2 (inst t u a) 24).1 = 0
          · rw [if_pos hr]; exact this
          · rw [if_neg hr]; exact this
        · rw [if_neg hcl]
          exact ⟨o1, e1, p1⟩
theorem top_out (M : Maps) (P : Item → Prop) (hI : ∀ c o u, (u.Kind = 14) → (∃ e, (e, u) ∈ ([] : List (Int × Item)) ∨ True) → ∃ o2, (incl M 600 c o [] u).2.2.2.1 = o ++ o2 ∧ ∀ z, z ∈ o2 → P z)
    : ∀ (l : List (Int × Item)) (c : Int) (o : List Item) (F : List Fault), (∀ p, p ∈ l → defines p.2.Kind = false → p.2.Kind ≠ 14 → (clause p.2.Kind = true → ∀ z, dfn M p.2 = some z → P z) ∧ (clause p.2.Kind = false → P p.2)) → (∀ z, z ∈ o → P z) → ∀ z, z ∈ (top M c o F l).1 → P z
  | [], c, o, F, _, ho => ho
  | p :: l, c, o, F, hl, ho => by
    have hl' := fun p' hp' => hl p' (List.mem_cons_of_mem _ hp')
    unfold top
    by_cases hd : defines p.2.Kind = true
    · rw [if_pos hd]; exact top_out M P hI l c o _ hl' ho
    rw [if_neg hd]
    have step : ∀ r : R, (∃ o2, r.2.2.2.1 = o ++ o2 ∧ ∀ z, z ∈ o2 → P z) → ∀ F', ∀ z, z ∈ (if r.2.1 = true then (r.2.2.2.1, F') else top M r.2.2.1 r.2.2.2.1 F' l).1 → P z := by
      intro r ⟨o2, e2, p2⟩ F'
      have hall : ∀ z, z ∈ r.2.2.2.1 → P z := fun z hz => by
        rw [e2] at hz
        rcases List.mem_append.1 hz with h | h
        · exact ho z h
        · exact p2 z h
      by_cases hs : r.2.1 = true
      · rw [if_pos hs]; exact hall
      · rw [if_neg hs]; exact top_out M P hI l _ _ _ hl' hall
    by_cases h14 : p.2.Kind = 14
    · simp only [if_pos h14]
      exact step _ (hI c o p.2 h14 ⟨0, .inr trivial⟩) _
    · simp only [if_neg h14]
      refine step _ ?_ _
      obtain ⟨h1, h2⟩ := hl p (List.mem_cons_self ..) (by simpa using hd) h14
      have base : ∃ o2, o = o ++ o2 ∧ ∀ z, z ∈ o2 → P z := ⟨[], by simp, by simp⟩
      unfold add
      by_cases hc : 600 < c + 1
      · rw [if_pos hc]; exact base
      rw [if_neg hc, if_neg (by omega)]
      by_cases hcl : clause p.2.Kind = true
      · rw [if_pos hcl]
        cases hz : dfn M p.2 with
        | none => exact base
        | some z => exact ⟨[z], rfl, fun x hx => by rw [List.mem_singleton.1 hx]; exact h1 hcl z hz⟩
      · rw [if_neg hcl]
        exact ⟨[p.2], rfl, fun x hx => by rw [List.mem_singleton.1 hx]; exact h2 (by simpa using hcl)⟩
theorem inst_len (t u y : Item) : (inst t u y).Conds.length = y.Conds.length ∧ (inst t u y).Names.length = y.Names.length ∧ (inst t u y).Dates = y.Dates ∧ (inst t u y).Items = y.Items := by
  unfold inst
  by_cases hc : clause y.Kind = true
  · rw [if_pos hc]; simp
  rw [if_neg hc]
  by_cases h14 : y.Kind = 14
  · rw [if_pos h14]; simp
  · rw [if_neg h14]; simp
theorem Kept.dq {y z : Item} (h : Kept y z) (hy : Dq y) : Dq z := .mk z (by rw [h.conds]; exact hy.conds) (by rw [h.names]; exact hy.names) (by rw [h.dates]; exact hy.dates) (by rw [h.items]; exact hy.items) (by rw [h.items]; exact hy.sub)
theorem inst_dq {t u y : Item} (hy : Dq y) : Dq (inst t u y) := by
  obtain ⟨h1, h2, h3, h4⟩ := inst_len t u y
  exact .mk _ (by rw [h1]; exact hy.conds) (by rw [h2]; exact hy.names) (by rw [h3]; exact hy.dates) (by rw [h4]; exact hy.items) (by rw [h4]; exact hy.sub)
def Pz (K : Nat) (z : Item) : Prop := Pl z ∧ Dq z ∧ z.Names.length ≤ NB ∧ z.Items.length ≤ NB ∧ iszl z.Items ≤ K ∧ ∀ y, y ∈ z.Items → Dp 1048576 y
theorem pz_of {M : Maps} {y z : Item} {K : Nat} (hK : iszl y.Items ≤ K) (hM : NoN M) (hc : clause y.Kind = true) (h : dfn M y = some z) (hq : Dq y) (hs : ∀ x, x ∈ y.Items → Dp 1048576 x) : Pz K z := by
  obtain ⟨k, e1, e2, e3⟩ := dfn_k hM h
  obtain ⟨c1, c2⟩ := clause_nd hc
  have hz := k.dq hq
  exact ⟨⟨by rw [k.kind]; exact c1, by rw [k.kind]; exact c2, fun _ => ⟨e1, e2, e3⟩⟩, hz, hz.names, hz.items, by rw [k.items]; exact hK, by rw [k.items]; exact hs⟩
theorem expand_pz {p : Source} (hdp : ∀ x, x ∈ p.Items → Dp 1048576 x) : ∀ z, z ∈ (expand p).1.Items → Pz (iszl p.Items) z := by
  unfold expand
  by_cases hs : 600 < iszl p.Items
  · rw [if_pos hs]; simp [noSource]
  rw [if_neg hs]
  simp only
  split
  · have hno : NoN (dcls M0 p.Items).2 := dcls_s p.Items (fun n d h => by simp [M0, mlook] at h)
    refine top_out _ (Pz (iszl p.Items)) (fun c o u hu _ => ?_) _ _ _ _ (fun q hq hd h14 => ?_) (by simp)
    · refine incl_out _ (fun _ => True) (Pz (iszl p.Items)) (fun _ _ _ _ _ _ _ _ => trivial) (fun u t y z _ ht hy _ _ hc hz => ?_) 600 c o [] u trivial
      have htm : t ∈ p.Items := by
        rcases dcls_t ht with h | h
        · simp [M0, mlook] at h
        · exact h
      have hy' := (hdp t htm).sub y hy
      have k1 := iszl_mem htm
      have k2 := iszl_mem hy
      exact pz_of (by rw [(inst_len t u y).2.2.2]; omega) hno hc hz (inst_dq hy'.dq) (by rw [(inst_len t u y).2.2.2]; exact hy'.sub)
    · have hm : q.2 ∈ p.Items := (List.of_mem_zip hq).2
      have hy' := hdp _ hm
      have k1 := iszl_mem hm
      exact ⟨fun hc z hz => pz_of (by omega) hno hc hz hy'.dq hy'.sub, fun hc => ⟨⟨hd, h14, fun h => by rw [h] at hc; cases hc⟩, hy'.dq, hy'.names, hy'.items, by omega, hy'.sub⟩⟩
  · simp [noSource]
theorem top_len (M : Maps) : ∀ (l : List (Int × Item)) (c : Int) (o : List Item) (F : List Fault), 0 ≤ c → c ≤ 600 → (o.length : Int) ≤ c → (top M c o F l).2 = [] → F = [] ∧ (top M c o F l).1.length ≤ 600
  | [], c, o, F, h0, hc, ho, h => ⟨h, by simp only [top]; omega⟩
  | p :: l, c, o, F, h0, hc, ho, h => by
    revert h
    unfold top
    have fnil : ∀ (e : Int), (if e = 0 then F else F ++ [(⟨e, p.2.At⟩ : Fault)]) = [] → F = [] ∧ e = 0 := fun e => by
      by_cases he : e = 0
      · simp [he]
      · rw [if_neg he]; simp
    by_cases hd : defines p.2.Kind = true
    · rw [if_pos hd]
      intro h
      obtain ⟨h1, h2⟩ := top_len M l c o _ h0 hc ho h
      exact ⟨(fnil _ h1).1, h2⟩
    rw [if_neg hd]
    have step : ∀ r : R, Fine c r → (r.2.1 = true → r.1 ≠ 0) → (if r.2.1 = true then (r.2.2.2.1, (if r.1 = 0 then F else F ++ [(⟨r.1, p.2.At⟩ : Fault)])) else top M r.2.2.1 r.2.2.2.1 (if r.1 = 0 then F else F ++ [(⟨r.1, p.2.At⟩ : Fault)]) l).2 = [] →
        F = [] ∧ (if r.2.1 = true then (r.2.2.2.1, (if r.1 = 0 then F else F ++ [(⟨r.1, p.2.At⟩ : Fault)])) else top M r.2.2.1 r.2.2.2.1 (if r.1 = 0 then F else F ++ [(⟨r.1, p.2.At⟩ : Fault)]) l).1.length ≤ 600 := by
      intro r hf hst
      by_cases hs : r.2.1 = true
      · rw [if_pos hs]
        intro h
        exact absurd (fnil _ h).2 (hst hs)
      · rw [if_neg hs]
        intro h
        obtain ⟨f1, f2, f3⟩ := hf (by simpa using hs)
        obtain ⟨h1, h2⟩ := top_len M l _ _ _ (by omega) f2 f3 h
        exact ⟨(fnil _ h1).1, h2⟩
    by_cases h14 : p.2.Kind = 14
    · simp only [if_pos h14]
      exact step _ (incl_fine M 600 c o [] p.2 ⟨h0, ho, by simpa using h0⟩) (incl_stop M 600 c o [] p.2)
    · simp only [if_neg h14]
      exact step _ (add_fine ho) add_stop
theorem expand_len {p : Source} (h : (expand p).2 = []) : (expand p).1.Items.length ≤ 600 ∧ (expand p).1.Name = p.Name ∧ (expand p).1.From = p.From ∧ (expand p).1.Days = p.Days := by
  unfold expand at h ⊢
  by_cases hs : 600 < iszl p.Items
  · rw [if_pos hs] at h; simp at h
  rw [if_neg hs] at h ⊢
  simp only at h ⊢
  split at h
  · rename_i hr
    rw [if_pos hr]
    exact ⟨(top_len _ _ 0 [] [] (by omega) (by omega) (by simp) hr).2, rfl, rfl, rfl⟩
  · rename_i hr; exact absurd h hr
theorem expand_faults {p : Source} (h : (expand p).2 ≠ []) : (expand p).1 = noSource := by
  unfold expand at h ⊢
  by_cases hs : 600 < iszl p.Items
  · rw [if_pos hs]
  rw [if_neg hs] at h ⊢
  simp only at h ⊢
  split
  · rename_i hr; rw [if_pos hr] at h; simp at h
  · rfl
theorem iszl_all {K : Nat} : ∀ (l : List Item), (∀ x, x ∈ l → iszl x.Items ≤ K) → iszl l ≤ l.length * (1 + K)
  | [], _ => by simp [iszl_nil]
  | x :: l, h => by
    have h1 := h x (List.mem_cons_self ..)
    have h2 := iszl_all l (fun y hy => h y (List.mem_cons_of_mem _ hy))
    rw [iszl_cons, List.length_cons, Nat.succ_mul]
    omega
end Go.Proofs.Inc
namespace Go.Proofs.Inc
open Go.Aw
theorem s13_eq {N : Nat} {k : Int} : s13 N k = some (clause k) := by
  simp only [s13, clause]
  by_cases h1 : k = 9
  · simp [h1]
  by_cases h2 : k = 10
  · simp [h2]
  by_cases h3 : k = 11
  · simp [h3]
  by_cases h4 : k = 12
  · simp [h4]
  rw [if_neg h1, if_neg h2, if_neg h3]
  simp only [h4, decide_false]
  exact congrArg some (decide_eq_false (by omega)).symm
end Go.Proofs.Inc
namespace Go.Proofs.Inc
open Go.Aw
theorem s37_refl {N : Nat} {l : List Str} (hN : l.length < N) (hl : l.length ≤ NB) : s37 N l l = some true := by
  have hb : iter (fun p => s37_b1 N l l p) N 0 = some _ := iter_list (fun (_ : Unit) i => i) () l (fun i _ a => .inl ()) (fun _ => .brk ()) (fun _ _ => True) (fun i s a hi _ => by
    obtain ⟨ha, hlt⟩ := getI hi
    refine ⟨?_, fun _ _ => trivial⟩
    simp only [s37_b1]
    rw [if_pos (by omega), grd_pos (by omega), grd_pos (by omega), if_pos trivial, wr_succ (by unfold NB at hl; omega)]) (fun s _ => by
    simp only [s37_b1]
    rw [if_neg (by omega)]) hN trivial
  simp only [s37]
  rw [if_pos trivial, hb, runL_fold]
  rfl
theorem same_refl : ∀ (N : Nat), (∀ x, Dq x → NB + 1 + 2 * isz x < N → s31 N x x = some true) ∧ ∀ l : List Item, (∀ x, x ∈ l → Dq x) → l.length ≤ NB → NB + 2 + 2 * iszl l < N → s20 N l l = some true
  | 0 => ⟨fun x _ h => by omega, fun l _ _ h => by omega⟩
  | N + 1 => by
    obtain ⟨ih1, ih2⟩ := same_refl N
    constructor
    · intro x hx hN
      have hsz := isz_eq x
      have hc := hx.conds
      have hd := hx.dates
      have hb3 : iter (fun p => s31_b3 N x x p) N 0 = some _ := iter_list (fun (_ : Unit) i => i) () x.Conds (fun i _ a => .inl ()) (fun _ => .brk ()) (fun _ _ => True) (fun i s a hi _ => by
        obtain ⟨ha, hlt⟩ := getI hi
        refine ⟨?_, fun _ _ => trivial⟩
        simp only [s31_b3]
        rw [if_pos (by omega), grd_pos (by omega), grd_pos (by omega), if_pos trivial, wr_succ (by unfold NB at hc; omega)]) (fun s _ => by
        simp only [s31_b3]
        rw [if_neg (by omega)]) (by omega) trivial
      have hb1 : iter (fun p => s31_b1 N x x p) N 0 = some _ := iter_list (fun (_ : Unit) i => i) () x.Dates (fun i _ a => .inl ()) (fun _ => .brk ()) (fun _ _ => True) (fun i s a hi _ => by
        obtain ⟨ha, hlt⟩ := getI hi
        refine ⟨?_, fun _ _ => trivial⟩
        simp only [s31_b1]
        rw [if_pos (by omega), grd_pos (by omega), grd_pos (by omega), if_pos trivial, wr_succ (by unfold NB at hd; omega)]) (fun s _ => by
        simp only [s31_b1]
        rw [if_neg (by omega)]) (by omega) trivial
      rw [runL_fold] at hb3 hb1
      have hn := s37_refl (N := N) (l := x.Names) (by have := hx.names; omega) hx.names
      have hr := ih2 x.Items hx.sub hx.items (by omega)
      simp only [s31, s31_body, s31_k2, if_true, hb3, hb1, hn, hr, Option.bind_some, Ou.on, beq_self_eq_true, cond_true]
    · intro l hl hlen hN
      have hb : iter (fun p => s20_b1 N l l (s31 N) p) N 0 = some _ := iter_list (fun (_ : Unit) i => i) () l (fun i _ a => .inl ()) (fun _ => .brk ()) (fun _ _ => True) (fun i s a hi _ => by
        obtain ⟨ha, hlt⟩ := getI hi
        refine ⟨?_, fun _ _ => trivial⟩
        have hm := List.mem_of_getElem? hi
        have := iszl_mem hm
        have he := isz_eq a
        simp only [s20_b1]
        rw [if_pos (by omega), grd_pos (by omega), grd_pos (by omega), toNat_nat, ha, ih1 a (hl a hm) (by omega), wr_succ (by unfold NB at hlen; omega)]
        rfl) (fun s _ => by
        simp only [s20_b1]
        rw [if_neg (by omega)]) (by omega) trivial
      simp only [s20, s20_body]
      rw [if_pos trivial, hb, runL_fold]
      rfl
end Go.Proofs.Inc
namespace Go.Proofs.Inc
open Go.Aw
theorem s14_refl {N : Nat} {p : Source} (h : ∀ x, x ∈ p.Items → Dq x) (hl : p.Items.length ≤ NB) (hN : NB + 2 + 2 * iszl p.Items < N) : s14 N p p = some true := by
  simp only [s14]
  rw [if_pos trivial, if_pos trivial, if_pos trivial, (same_refl N).2 p.Items h hl hN]
  rfl
end Go.Proofs.Inc
namespace Go.Proofs.Inc
open Go.Aw
def chg (f t a : Str) : Str := if a = f then (if a = [] then a else t) else a
theorem s30_eq {N : Nat} {a f t : Str} : s30 N a f t = some (chg f t a) := by
  simp only [s30, chg]
  by_cases h : a = f
  · rw [if_pos h, if_pos h]; by_cases h2 : a = [] <;> simp [h2]
  · rw [if_neg h, if_neg h]
def rnm (f t : Str) (y : Item) : Item :=
  if clause y.Kind then { y with Of := chg f t y.Of, Act := chg f t y.Act, By := chg f t y.By, Until := chg f t y.Until, Unit := chg f t y.Unit, Sum := chg f t y.Sum, To := chg f t y.To, Within := { y.Within with Name := chg f t y.Within.Name }, Grace := { y.Grace with Name := chg f t y.Grace.Name }, Conds := y.Conds.map fun c => { c with Name := chg f t c.Name } }
  else if y.Kind = 14 then { y with Names := y.Names.map (chg f t) } else y
def rnt (f t : Str) (x : Item) : Item := { x with Names := x.Names.map (chg f t), Items := x.Items.map (rnm f t) }
theorem s18_eq {N : Nat} {x : Item} {f t : Str} (hN : NB < N) (hx : Dp 1099511627776 x) : s18 N x f t = some (rnt f t x) := by
  have hn := hx.names
  have hi := hx.items
  have h1 : iter (fun q => s18_b6 N x f t q.1 q.2) N ([], 0) = some _ := iter_list (fun (s : List Str) i => (s, i)) [] x.Names (fun _ s a => .inl (s ++ [chg f t a])) (fun s => s) (fun i s => s.length ≤ i) (fun i s a h hs => by
    obtain ⟨ha, hlt⟩ := getI h
    unfold NB at hn
    refine ⟨?_, fun s' e => by cases e; simp; omega⟩
    simp only [s18_b6]
    rw [if_pos (by omega), grd_pos (by omega), toNat_nat, ha, s30_eq, wr_succ (by omega)]
    simp only [Option.bind_some]
    rw [grd_pos (by omega)]) (fun s _ => by
    simp only [s18_b6]
    rw [if_neg (by omega)]) (by omega) (by simp)
  rw [runL_map] at h1
  have h2 : iter (fun q => s18_b4 N x f t q.1 q.2) N ([], 0) = some _ := iter_list (fun (s : List Item) i => (s, i)) [] x.Items (fun _ s a => .inl (s ++ [rnm f t a])) (fun s => s) (fun i s => s.length ≤ i) (fun i s a h hs => by
    obtain ⟨ha, hlt⟩ := getI h
    have hy := hx.sub a (List.mem_of_getElem? h)
    have yc := hy.conds
    have yn := hy.names
    unfold NB at hi yc yn
    refine ⟨?_, fun s' e => by cases e; simp; omega⟩
    have hcond : iter (fun q => s18_b3 N x f t (i : Int) q.1 q.2) N ([], 0) = some _ := iter_list (fun (s : List Named) j => (s, j)) [] a.Conds (fun _ s c => .inl (s ++ [({ c with Name := chg f t c.Name } : Named)])) (fun s => s) (fun i s => s.length ≤ i) (fun j s c h hs => by
      obtain ⟨hc, hlt'⟩ := getI h
      refine ⟨?_, fun s' e => by cases e; simp; omega⟩
      simp only [s18_b3, toNat_nat, ha]
      rw [if_pos (by omega), grd_pos (by omega), hc, s30_eq, wr_succ (by omega)]
      simp only [Option.bind_some]
      rw [grd_pos (by omega)]) (fun s _ => by
      simp only [s18_b3, toNat_nat, ha]
      rw [if_neg (by omega)]) (by unfold NB at hN; omega) (by simp)
    rw [runL_map] at hcond
    simp only [s18_b4]
    rw [if_pos (by omega), grd_pos (by omega), toNat_nat, ha, s13_eq]
    simp only [Option.bind_some, s30_eq]
    by_cases hk : clause a.Kind = true
    · have h14 := (clause_nd hk).2
      rw [hk]
      simp only [cond_true]
      rw [hcond]
      simp only [Option.bind_some, s18_k2]
      rw [if_neg h14, grd_pos (by omega), wr_succ (by omega)]
      simp [rnm, hk]
    · have hk' : clause a.Kind = false := by simpa using hk
      rw [hk']
      simp only [cond_false, s18_k2]
      by_cases h14 : a.Kind = 14
      · have hnm : iter (fun q => s18_b1 N f t a q.1 q.2) N ([], 0) = some _ := iter_list (fun (s : List Str) j => (s, j)) [] a.Names (fun _ s c => .inl (s ++ [chg f t c])) (fun s => s) (fun i s => s.length ≤ i) (fun j s c h hs => by
          obtain ⟨hc, hlt'⟩ := getI h
          refine ⟨?_, fun s' e => by cases e; simp; omega⟩
          simp only [s18_b1]
          rw [if_pos (by omega), grd_pos (by omega), toNat_nat, hc, s30_eq, wr_succ (by omega)]
          simp only [Option.bind_some]
          rw [grd_pos (by omega)]) (fun s _ => by
          simp only [s18_b1]
          rw [if_neg (by omega)]) (by unfold NB at hN; omega) (by simp)
        rw [runL_map] at hnm
        rw [if_pos h14, hnm]
        simp only [Option.bind_some]
        rw [grd_pos (by omega), wr_succ (by omega)]
        unfold rnm
        rw [if_neg hk, if_pos h14]
        simp
      · rw [if_neg h14, grd_pos (by omega), wr_succ (by omega)]
        simp [rnm, hk', h14]) (fun s _ => by
    simp only [s18_b4]
    rw [if_neg (by omega)]) (by omega) (by simp)
  rw [runL_map] at h2
  simp only [s18, s18_k5]
  rw [h1]
  simp only [Option.bind_some]
  rw [h2]
  rfl
theorem s28_eq {N : Nat} {l : List Str} {n : Str} (hN : NB < N) (hl : l.length ≤ NB) (hn : n ≠ []) : s28 N l n = some (match find l n with | some i => (i : Int) | none => -1) := by
  have hb : iter (fun p => s28_b1 N l n p) N 0 = some _ := iter_list (fun (_ : Unit) i => i) () l (fun i _ a => if decide (n = a) then .inr (.ret (i : Int)) else .inl ()) (fun _ => .brk ()) (fun _ _ => True) (fun i s a hi _ => by
    obtain ⟨ha, hlt⟩ := getI hi
    refine ⟨?_, fun _ _ => trivial⟩
    simp only [s28_b1, NB] at *
    rw [if_pos (by omega), if_neg hn, grd_pos (by omega), toNat_nat, ha, wr_succ (by omega)]
    by_cases h : n = a
    · simp [h]
    · simp [h, Ne.symm h]) (fun s _ => by
    simp only [s28_b1]
    rw [if_neg (by omega)]) (by omega) trivial
  simp only [s28]
  rw [hb, runL_find]
  simp only [Option.bind_some, find]
  cases l.findIdx? (fun a => decide (n = a)) with
  | none => rfl
  | some j => simp [Ou.on]
theorem s29_def {N : Nat} {n : Str} (hN : n.length < N) (hl : n.length ≤ 1099511627776) : ∃ v, s29 N n = some v := by
  have hb : iter (fun p => s29_b1 N n p) N 0 = some _ := iter_list (fun (_ : Unit) i => i) () n (fun i _ a => if (a.toNat : Int) = 46 then .inr (.ret (n.take i)) else .inl ()) (fun _ => .brk ()) (fun _ _ => True) (fun i s a hi _ => by
    obtain ⟨ha, hlt⟩ := getI hi
    refine ⟨?_, fun _ _ => trivial⟩
    simp only [s29_b1]
    have hd : List.getD n i 0 = a := by simp [List.getD, hi]
    rw [if_pos (by omega), grd_pos (by omega), toNat_nat, hd, wr_succ (by omega)]
    by_cases h : (a.toNat : Int) = 46
    · rw [if_pos h, if_pos h, grd_pos (by omega)]
    · rw [if_neg h, if_neg h]) (fun s _ => by
    simp only [s29_b1]
    rw [if_neg (by omega)]) hN trivial
  simp only [s29]
  rw [hb]
  simp only [Option.bind_some]
  generalize runL _ _ 0 () n = r
  cases r with
  | brk a => exact ⟨_, rfl⟩
  | ret b => exact ⟨_, rfl⟩
structure Fresh (n : Str) (x : Item) : Prop where
  of : x.Of ≠ n
  act : x.Act ≠ n
  by_ : x.By ≠ n
  until_ : x.Until ≠ n
  unit : x.Unit ≠ n
  sum : x.Sum ≠ n
  to : x.To ≠ n
  within : x.Within.Name ≠ n
  grace : x.Grace.Name ≠ n
  names : find x.Names n = none
  conds : ∀ c, c ∈ x.Conds → c.Name ≠ n
theorem iter_ex {α : Type} {body : Int → Option (Int ⊕ Ou Unit Bool)} {ok : α → Prop} (L : Nat) : ∀ (l : List α) (i : Nat), i + l.length = L → (∀ (j : Nat) a, l[j]? = some a → body ((i + j : Nat) : Int) = some (.inr (.ret true)) ∨ (body ((i + j : Nat) : Int) = some (.inl ((i + j + 1 : Nat) : Int)) ∧ ok a)) →
    body (L : Int) = some (.inr (.brk ())) → ∀ {N : Nat}, l.length < N → iter body N (i : Int) = some (.ret true) ∨ (iter body N (i : Int) = some (.brk ()) ∧ ∀ a, a ∈ l → ok a)
  | [], i, hL, _, he, N, hN => by
    obtain ⟨M, rfl⟩ : ∃ M, N = M + 1 := ⟨N - 1, by simp at hN; omega⟩
    simp only [List.length_nil, Nat.add_zero] at hL
    subst hL
    exact .inr ⟨iter_end he, fun a h => by cases h⟩
  | a :: l, i, hL, hb, he, N, hN => by
    obtain ⟨M, rfl⟩ : ∃ M, N = M + 1 := ⟨N - 1, by simp at hN; omega⟩
    rcases hb 0 a rfl with h | ⟨h, hok⟩
    · exact .inl (iter_end h)
    · rw [Nat.add_zero] at h
      rw [iter_step h]
      rcases iter_ex (ok := ok) L l (i + 1) (by simp only [List.length_cons] at hL; omega) (fun j b hj => by
        have := hb (j + 1) b (by simpa using hj)
        rw [show i + (j + 1) = i + 1 + j by omega] at this
        exact this) he (N := M) (by simp only [List.length_cons] at hN; omega) with h1 | ⟨h1, h2⟩
      · exact .inl h1
      · exact .inr ⟨h1, fun b hb => by
          rcases List.mem_cons.1 hb with rfl | hb
          · exact hok
          · exact h2 b hb⟩
theorem s17_fresh {N : Nat} {x : Item} {n : Str} {B : Nat} (hN : NB < N) (hB : B < N) (hB2 : B ≤ 1099511627776) (hn : n ≠ []) (hx : Dp B x) : ∃ b, s17 N x n = some b ∧ (b = false → find x.Names n = none ∧ ∀ y, y ∈ x.Items → Fresh n y) := by
  simp only [s17]
  rw [s28_eq hN hx.names hn]
  simp only [Option.bind_some]
  cases hf : find x.Names n with
  | some i => exact ⟨true, by simp only; rw [if_pos (by omega)], fun h => by cases h⟩
  | none =>
    simp only
    rw [if_neg (by omega)]
    have hi := hx.items
    have h := iter_ex (ok := Fresh n) (body := fun p => s17_b2 N x n p) x.Items.length x.Items 0 (by simp) (fun j a hj => by
      obtain ⟨ha, hlt⟩ := getI hj
      have hy := hx.sub a (List.mem_of_getElem? hj)
      have yc := hy.conds
      unfold NB at hi yc
      rw [Nat.zero_add]
      have hcl := iter_ex (ok := fun c : Named => c.Name ≠ n) (body := fun p => s17_b1 N x n (j : Int) p) a.Conds.length a.Conds 0 (by simp) (fun k c hk => by
        obtain ⟨hc, hlt'⟩ := getI hk
        have hcn := hy.cname c (List.mem_of_getElem? hk)
        rw [Nat.zero_add]
        obtain ⟨v, hv⟩ := s29_def (N := N) (n := c.Name) (by omega) (by omega)
        simp only [s17_b1, toNat_nat, ha]
        rw [if_pos (by omega), grd_pos (by omega), hc, hv, wr_succ (by omega)]
        simp only [Option.bind_some]
        by_cases h1 : c.Name = n
        · rw [if_pos h1]; exact .inl rfl
        rw [if_neg h1]
        by_cases h2 : v = n
        · rw [if_pos h2]; exact .inl rfl
        · rw [if_neg h2]; exact .inr ⟨rfl, h1⟩) (by
        simp only [s17_b1, toNat_nat, ha]
        rw [if_neg (by omega)]) (N := N) (by unfold NB at hN; omega)
      rw [show ((0 : Nat) : Int) = 0 by rfl] at hcl
      simp only [s17_b2]
      rw [if_pos (by omega), grd_pos (by omega), toNat_nat, ha, s28_eq hN hy.names hn, wr_succ (by omega)]
      simp only [Option.bind_some]
      by_cases c1 : a.Name = n
      · rw [if_pos c1]; exact .inl rfl
      rw [if_neg c1]
      by_cases c2 : a.Of = n
      · rw [if_pos c2]; exact .inl rfl
      rw [if_neg c2]
      by_cases c3 : a.Act = n
      · rw [if_pos c3]; exact .inl rfl
      rw [if_neg c3]
      by_cases c4 : a.By = n
      · rw [if_pos c4]; exact .inl rfl
      rw [if_neg c4]
      by_cases c5 : a.Until = n
      · rw [if_pos c5]; exact .inl rfl
      rw [if_neg c5]
      by_cases c6 : a.Unit = n
      · rw [if_pos c6]; exact .inl rfl
      rw [if_neg c6]
      by_cases c7 : a.Sum = n
      · rw [if_pos c7]; exact .inl rfl
      rw [if_neg c7]
      by_cases c8 : a.To = n
      · rw [if_pos c8]; exact .inl rfl
      rw [if_neg c8]
      by_cases c9 : a.Within.Name = n
      · rw [if_pos c9]; exact .inl rfl
      rw [if_neg c9]
      by_cases c10 : a.Grace.Name = n
      · rw [if_pos c10]; exact .inl rfl
      rw [if_neg c10]
      cases hfn : find a.Names n with
      | some i => simp only; rw [if_pos (by omega)]; exact .inl rfl
      | none =>
        simp only
        rw [if_neg (by omega)]
        rcases hcl with h | ⟨h, h'⟩
        · rw [h]; exact .inl rfl
        · rw [h]; exact .inr ⟨rfl, ⟨c2, c3, c4, c5, c6, c7, c8, c9, c10, hfn, h'⟩⟩) (by
      simp only [s17_b2]
      rw [if_neg (by omega)]) (N := N) (by omega)
    rw [show ((0 : Nat) : Int) = 0 by rfl] at h
    rcases h with h | ⟨h, h'⟩
    · exact ⟨true, by rw [h]; rfl, fun h => by cases h⟩
    · exact ⟨false, by rw [h]; rfl, fun _ => ⟨trivial, h'⟩⟩
section
variable {f n : Str} (hf : f ≠ []) (hn : n ≠ [])
theorem chg_ne (hf : f ≠ []) (hn : n ≠ []) {s : Str} : chg f n s = [] ↔ s = [] := by
  unfold chg
  by_cases h : s = f
  · rw [if_pos h, if_neg (by rw [h]; exact hf)]
    exact ⟨fun h' => absurd h' hn, fun h' => absurd (h.symm.trans h') hf⟩
  · rw [if_neg h]
theorem chg_inj (hf : f ≠ []) {s a : Str} (hs : s ≠ n) (ha : a ≠ n) : chg f n s = chg f n a ↔ s = a := by
  unfold chg
  by_cases h : s = f
  · rw [if_pos h, if_neg (by rw [h]; exact hf)]
    by_cases h2 : a = f
    · rw [if_pos h2, if_neg (by rw [h2]; exact hf)]; simp [h, h2]
    · rw [if_neg h2]
      exact ⟨fun h' => absurd h'.symm ha, fun h' => absurd (h'.symm.trans h) h2⟩
  · rw [if_neg h]
    by_cases h2 : a = f
    · rw [if_pos h2, if_neg (by rw [h2]; exact hf)]
      exact ⟨fun h' => absurd h' hs, fun h' => absurd (h'.trans h2) h⟩
    · rw [if_neg h2]
theorem find_mem {l : List Str} {s : Str} : find l s = none ↔ s ∉ l := by
  unfold find
  rw [List.findIdx?_eq_none_iff]
  constructor
  · intro h hs; simpa using h s hs
  · intro h x hx; simp; exact fun e => h (e ▸ hx)
theorem find_chg (hf : f ≠ []) {s : Str} (hs : s ≠ n) : ∀ {l : List Str}, n ∉ l → find (l.map (chg f n)) (chg f n s) = find l s
  | [], _ => rfl
  | a :: l, h => by
    have ih := find_chg hf hs (l := l) (fun h' => h (List.mem_cons_of_mem _ h'))
    have ha : a ≠ n := fun e => h (e ▸ List.mem_cons_self ..)
    unfold find at ih ⊢
    rw [List.map_cons, List.findIdx?_cons, List.findIdx?_cons, ih]
    simp only [chg_inj hf hs ha]
theorem hit_chg (hf : f ≠ []) (hn : n ≠ []) {s : Str} (hs : s ≠ n) {l : List Str} (h : n ∉ l) : hit (l.map (chg f n)) (chg f n s) = hit l s := by
  unfold hit
  rw [find_chg hf hs h]
  simp only [ne_eq, chg_ne hf hn]
theorem rep_chg (hf : f ≠ []) (hn : n ≠ []) {s : Str} (hs : s ≠ n) {l args : List Str} (h : n ∉ l) (hfl : f ∈ l) : rep (l.map (chg f n)) args (chg f n s) = rep l args s := by
  unfold rep
  rw [find_chg hf hs h]
  by_cases h0 : s = []
  · rw [if_pos h0, if_pos ((chg_ne hf hn).2 h0), h0]
    unfold chg
    rw [if_neg (fun e => hf e.symm)]
  · rw [if_neg h0, if_neg (fun e => h0 ((chg_ne hf hn).1 e))]
    cases hfi : find l s with
    | some i => rfl
    | none =>
      simp only
      have : s ≠ f := fun e => (find_mem.1 hfi) (e ▸ hfl)
      unfold chg
      rw [if_neg this]
theorem rnm_same (f n : Str) (y : Item) : (rnm f n y).Kind = y.Kind ∧ (rnm f n y).Name = y.Name ∧ (rnm f n y).At = y.At ∧ (rnm f n y).Items = y.Items ∧ (rnm f n y).Dates = y.Dates ∧ (rnm f n y).Conds.length = y.Conds.length ∧ (rnm f n y).Names.length = y.Names.length := by
  unfold rnm
  by_cases hc : clause y.Kind = true
  · rw [if_pos hc]; simp
  rw [if_neg hc]
  by_cases h14 : y.Kind = 14
  · rw [if_pos h14]; simp
  · rw [if_neg h14]; simp
structure Good (f n : Str) (x : Item) : Prop where
  new : n ∉ x.Names
  old : f ∈ x.Names
  fresh : ∀ y, y ∈ x.Items → Fresh n y
theorem loc_rnt (x : Item) (s : Str) : loc (rnt f n x) s = loc x s := by
  unfold loc rnt
  simp only [List.any_map]
  congr 1
  funext y
  obtain ⟨h1, h2, _⟩ := rnm_same f n y
  simp only [Function.comp, means, h1, h2]
theorem inst_rnt (hf : f ≠ []) (hn : n ≠ []) {x u y : Item} (hx : Good f n x) (hy : Fresh n y) : inst (rnt f n x) u (rnm f n y) = inst x u y := by
  have hr : ∀ s, s ≠ n → rep (rnt f n x).Names u.Names (chg f n s) = rep x.Names u.Names s := fun s hs => rep_chg hf hn hs hx.new hx.old
  have hh : ∀ s, s ≠ n → hit (rnt f n x).Names (chg f n s) = hit x.Names s := fun s hs => hit_chg hf hn hs hx.new
  obtain ⟨k1, _⟩ := rnm_same f n y
  unfold inst
  rw [k1]
  by_cases hc : clause y.Kind = true
  · rw [if_pos hc, if_pos hc]
    have hcs : (rnm f n y).Conds.map (cnd (rnt f n x) u) = y.Conds.map (cnd x u) := by
      unfold rnm
      rw [if_pos hc]
      simp only [List.map_map]
      refine List.map_congr_left fun c hc' => ?_
      have hcn := hy.conds c hc'
      simp only [Function.comp, cnd, hh _ hcn, hr _ hcn, loc_rnt]
      by_cases hhit : hit x.Names c.Name = true
      · rw [if_pos hhit, if_pos hhit]
      · have hne : c.Name ≠ f := fun e => hhit (by
          unfold hit
          rw [e]
          have := mt find_mem.1 (fun h => h hx.old)
          cases hfi : find x.Names f with
          | none => exact absurd hfi this
          | some i => simp [hf])
        have hch : chg f n c.Name = c.Name := by unfold chg; rw [if_neg hne]
        rw [if_neg hhit, if_neg hhit, hch]
    rw [hcs]
    unfold rnm
    rw [if_pos hc]
    simp only [hr _ hy.of, hr _ hy.act, hr _ hy.by_, hr _ hy.until_, hr _ hy.unit, hr _ hy.sum, hr _ hy.to, hr _ hy.within, hr _ hy.grace]
  · rw [if_neg hc, if_neg hc]
    by_cases h14 : y.Kind = 14
    · rw [if_pos h14, if_pos h14]
      have hns : (rnm f n y).Names.map (rep (rnt f n x).Names u.Names) = y.Names.map (rep x.Names u.Names) := by
        unfold rnm
        rw [if_neg hc, if_pos h14]
        simp only [List.map_map]
        refine List.map_congr_left fun s hs => ?_
        exact hr s (fun e => (find_mem.1 hy.names) (e ▸ hs))
      rw [hns]
      unfold rnm
      rw [if_neg hc, if_pos h14]
    · rw [if_neg h14, if_neg h14]
      unfold rnm
      rw [if_neg hc, if_neg h14]
theorem dup_chg (hf : f ≠ []) : ∀ (l : List Str) (b : Bool) (m m' : List (Str × Bool)), n ∉ l → (∀ a, a ≠ n → mlook (chg f n a) m' = mlook a m) → ((l.map (chg f n)).foldl dupS (b, m')).1 = (l.foldl dupS (b, m)).1
  | [], b, m, m', _, _ => rfl
  | a :: l, b, m, m', h, hm => by
    have ha : a ≠ n := fun e => h (e ▸ List.mem_cons_self ..)
    simp only [List.map_cons, List.foldl_cons, dupS, hm a ha]
    refine dup_chg hf l _ _ _ (fun h' => h (List.mem_cons_of_mem _ h')) (fun s hs => ?_)
    rw [mlook_mset, mlook_mset, hm s hs]
    simp only [chg_inj hf hs ha]
def RT (f n : Str) (x x' : Item) : Prop := x' = x ∨ (x.Kind = 13 ∧ x' = rnt f n x ∧ Good f n x)
structure RM (f n : Str) (M M' : Maps) : Prop where
  s : M'.s = M.s
  m : M'.m = M.m
  t : ∀ a, (mlook a M.t = none ∧ mlook a M'.t = none) ∨ ∃ x x', mlook a M.t = some x ∧ mlook a M'.t = some x' ∧ RT f n x x'
theorem dcl_rel (hf : f ≠ []) {M M' : Maps} {y y' : Item} (hM : RM f n M M') (hy : RT f n y y') : (dcl M' y').1 = (dcl M y).1 ∧ RM f n (dcl M y).2 (dcl M' y').2 := by
  have hk : y'.Kind = y.Kind ∧ y'.Name = y.Name ∧ dupB y'.Names = dupB y.Names := by
    rcases hy with rfl | ⟨_, rfl, hg⟩
    · exact ⟨rfl, rfl, rfl⟩
    · exact ⟨rfl, rfl, dup_chg hf y.Names false [] [] hg.new (fun a _ => rfl)⟩
  obtain ⟨k1, k2, k3⟩ := hk
  unfold dcl
  rw [k1, k2]
  by_cases h13 : y.Kind = 13
  · rw [if_pos h13, if_pos h13]
    rcases hM.t y.Name with ⟨e1, e2⟩ | ⟨x, x', e1, e2, _⟩
    · rw [e1, e2, k3]
      refine ⟨rfl, hM.s, hM.m, fun a => ?_⟩
      simp only [mlook_mset]
      by_cases ha : a = y.Name
      · rw [if_pos ha, if_pos ha]; exact .inr ⟨y, y', rfl, rfl, hy⟩
      · rw [if_neg ha, if_neg ha]; exact hM.t a
    · rw [e1, e2]; exact ⟨rfl, hM⟩
  rw [if_neg h13, if_neg h13]
  have hyy : y' = y := by
    rcases hy with h | ⟨h, _⟩
    · exact h
    · exact absurd h h13
  subst hyy
  rw [hM.s, hM.m]
  by_cases h6 : y'.Kind = 6
  · rw [if_pos h6, if_pos h6]
    cases mlook y'.Name M.s with
    | none => exact ⟨rfl, RM.mk rfl (by simp [hM.m]) (by simpa using hM.t)⟩
    | some _ => exact ⟨rfl, hM⟩
  rw [if_neg h6, if_neg h6]
  by_cases h7 : y'.Kind = 7
  · rw [if_pos h7, if_pos h7]
    cases mlook y'.Name M.m with
    | none => exact ⟨rfl, RM.mk (by simp [hM.s]) rfl (by simpa using hM.t)⟩
    | some _ => exact ⟨rfl, hM⟩
  rw [if_neg h7, if_neg h7]
  exact ⟨rfl, hM⟩
inductive All2 {α β : Type} (R : α → β → Prop) : List α → List β → Prop
  | nil : All2 R [] []
  | cons {a : α} {b : β} {l : List α} {m : List β} (h : R a b) (t : All2 R l m) : All2 R (a :: l) (b :: m)
theorem dcls_rel (hf : f ≠ []) {l l' : List Item} (h : All2 (RT f n) l l') : ∀ {M M' : Maps}, RM f n M M' → (dcls M' l').1 = (dcls M l).1 ∧ RM f n (dcls M l).2 (dcls M' l').2 := by
  induction h with
  | nil => intro M M' hM; exact ⟨rfl, hM⟩
  | cons hy _ ih =>
    intro M M' hM
    obtain ⟨e1, e2⟩ := dcl_rel hf hM hy
    obtain ⟨e3, e4⟩ := ih e2
    exact ⟨by simp only [dcls, e1, e3], e4⟩
theorem dfn_rel {M M' : Maps} (hM : RM f n M M') (y : Item) : dfn M' y = dfn M y := by
  unfold dfn
  have e1 : dfn1 M' y = dfn1 M y := by unfold dfn1; rw [hM.s]
  have e2 : dfn2 M' = dfn2 M := by funext z; unfold dfn2; rw [hM.s]
  have e3 : dfn3 M' = dfn3 M := by funext z; unfold dfn3; rw [hM.m]
  rw [e1, e2, e3]
theorem add_rel {M M' : Maps} (hM : RM f n M M') (c : Int) (o : List Item) (q : List Str) (y : Item) (most : Int) : add M' c o q y most = add M c o q y most := by
  unfold add
  rw [dfn_rel hM]
theorem runL_congr {α β σ ρ : Type} {g : α → β} {F : Nat → σ → β → σ ⊕ ρ} {G : Nat → σ → α → σ ⊕ ρ} {fin : σ → ρ} : ∀ (l : List α) (i : Nat) (s : σ), (∀ i s a, a ∈ l → F i s (g a) = G i s a) → runL F fin i s (l.map g) = runL G fin i s l
  | [], i, s, _ => rfl
  | a :: l, i, s, h => by
    rw [List.map_cons, runL, runL, h i s a (List.mem_cons_self ..)]
    cases G i s a with
    | inl s' => exact runL_congr l (i + 1) s' (fun i s b hb => h i s b (List.mem_cons_of_mem _ hb))
    | inr r => rfl
theorem incl_rel (hf : f ≠ []) (hn : n ≠ []) {M M' : Maps} (hM : RM f n M M') : ∀ (k : Nat) (c : Int) (o : List Item) (q : List Str) (u : Item), incl M' k c o q u = incl M k c o q u
  | 0, c, o, q, u => rfl
  | k + 1, c, o, q, u => by
    have ih := incl_rel hf hn hM k
    unfold incl
    by_cases hc : 600 < c + 1
    · rw [if_pos hc, if_pos hc]
    rw [if_neg hc, if_neg hc]
    rcases hM.t u.Of with ⟨e1, e2⟩ | ⟨x, x', e1, e2, hx⟩
    · rw [e1, e2]
    · rw [e1, e2]
      simp only
      have hstep : ∀ (t : Item) (s : Int × List Item × List Str) (a : Item), stepI (incl M' k) M' t u s a = stepI (incl M k) M t u s a := fun t s a => by
        unfold stepI
        simp only [ih, add_rel hM]
      rcases hx with rfl | ⟨_, rfl, hg⟩
      · simp only [hstep]
      · have hl : (rnt f n x).Names.length = x.Names.length := by simp [rnt]
        rw [hl]
        have hrun : ∀ fin : Int × List Item × List Str → R, runL (fun _ s a => stepI (incl M' k) M' (rnt f n x) u s a) fin 0 (c + 1, o, q ++ [u.Of]) (rnt f n x).Items = runL (fun _ s a => stepI (incl M k) M x u s a) fin 0 (c + 1, o, q ++ [u.Of]) x.Items := fun fin => by
          show runL _ fin 0 _ (x.Items.map (rnm f n)) = _
          refine runL_congr x.Items 0 _ (fun i s a ha => ?_)
          rw [hstep]
          unfold stepI
          rw [inst_rnt hf hn hg (hg.fresh a ha)]
        rw [hrun]
theorem top_rel (hf : f ≠ []) (hn : n ≠ []) {M M' : Maps} (hM : RM f n M M') {l l' : List Item} (h : All2 (RT f n) l l') : ∀ (es : List Int) (c : Int) (o : List Item) (F : List Fault), top M' c o F (es.zip l') = top M c o F (es.zip l) := by
  induction h with
  | nil => intro es c o F; simp [top]
  | cons hy _ ih =>
    intro es c o F
    cases es with
    | nil => simp [top]
    | cons e es =>
      rename_i y y' l l' _
      simp only [List.zip_cons_cons]
      unfold top
      rcases hy with rfl | ⟨h13, rfl, hg⟩
      · simp only [ih, incl_rel hf hn hM, add_rel hM]
      · have hd : defines y.Kind = true := by rw [h13]; rfl
        have hd' : defines (rnt f n y).Kind = true := hd
        simp only [hd, hd', if_true, ih]
        rfl
theorem isz_rnt (x : Item) : iszl (rnt f n x).Items = iszl x.Items := by
  show iszl (x.Items.map (rnm f n)) = iszl x.Items
  induction x.Items with
  | nil => rfl
  | cons y l ih => rw [List.map_cons, iszl_cons, iszl_cons, ih, (rnm_same f n y).2.2.2.1]
theorem iszl_rel {l l' : List Item} (h : All2 (RT f n) l l') : iszl l' = iszl l := by
  induction h with
  | nil => rfl
  | cons hy _ ih =>
    rw [iszl_cons, iszl_cons, ih]
    rcases hy with rfl | ⟨_, rfl, _⟩
    · rfl
    · rw [isz_rnt]
theorem expand_rel (hf : f ≠ []) (hn : n ≠ []) {p p' : Source} (h1 : p'.Name = p.Name) (h2 : p'.From = p.From) (h3 : p'.Days = p.Days) (h : All2 (RT f n) p.Items p'.Items) : expand p' = expand p := by
  unfold expand
  obtain ⟨e1, e2⟩ := dcls_rel hf h (M := M0) (M' := M0) ⟨rfl, rfl, fun a => .inl ⟨rfl, rfl⟩⟩
  rw [iszl_rel h]
  simp only [e1, top_rel hf hn e2 h, h1, h2, h3]
end
theorem all2_set {R : Item → Item → Prop} (hr : ∀ x, R x x) {x' : Item} : ∀ {l : List Item} {k : Nat} {x : Item}, l[k]? = some x → R x x' → All2 R l (l.set k x')
  | [], k, x, h, _ => by simp at h
  | y :: l, 0, x, h, hx => by
    simp only [List.getElem?_cons_zero, Option.some.injEq] at h
    subst h
    refine .cons hx ?_
    clear hx
    induction l with
    | nil => exact .nil
    | cons z l ih => exact .cons (hr z) ih
  | y :: l, k + 1, x, h, hx => .cons (hr y) (all2_set hr (by simpa using h) hx)
theorem rnt_dp {B : Nat} {f n : Str} {x : Item} (hn : n.length ≤ 100) (hx : Dp B x) : Dp (B + 100) (rnt f n x) := by
  have hch : ∀ s : Str, s.length ≤ B → (chg f n s).length ≤ B + 100 := fun s hs => by
    unfold chg
    by_cases h : s = f
    · rw [if_pos h]
      by_cases h2 : s = []
      · rw [if_pos h2]; omega
      · rw [if_neg h2]; omega
    · rw [if_neg h]; omega
  refine .mk _ (by have := hx.name; simp only [rnt]; omega) hx.conds (fun c hc => by have := hx.cname c hc; omega) (by simpa [rnt] using hx.names) hx.dates (by simpa [rnt] using hx.items) (fun z hz => ?_)
  obtain ⟨y, hy, rfl⟩ := List.mem_map.1 hz
  have hyd := hx.sub y hy
  obtain ⟨r1, r2, r3, r4, r5, r6, r7⟩ := rnm_same f n y
  refine .mk _ (by rw [r2]; have := hyd.name; omega) (by rw [r6]; exact hyd.conds) (fun c hc => ?_) (by rw [r7]; exact hyd.names) (by rw [r5]; exact hyd.dates) (by rw [r4]; exact hyd.items) (fun w hw => by rw [r4] at hw; exact (hyd.sub w hw).mono (by omega))
  unfold rnm at hc
  by_cases hk : clause y.Kind = true
  · rw [if_pos hk] at hc
    obtain ⟨d, hd, rfl⟩ := List.mem_map.1 hc
    exact hch _ (hyd.cname d hd)
  · rw [if_neg hk] at hc
    by_cases h14 : y.Kind = 14
    · rw [if_pos h14] at hc
      have := hyd.cname c hc; omega
    · rw [if_neg h14] at hc
      have := hyd.cname c hc; omega
theorem s19_refl {N : Nat} {l : List Fault} (hN : l.length < N) (hl : l.length ≤ NB) : s19 N l l = some true := by
  have hb : iter (fun p => s19_b1 N l l p) N 0 = some _ := iter_list (fun (_ : Unit) i => i) () l (fun i _ a => .inl ()) (fun _ => .brk ()) (fun _ _ => True) (fun i s a hi _ => by
    obtain ⟨ha, hlt⟩ := getI hi
    refine ⟨?_, fun _ _ => trivial⟩
    simp only [s19_b1]
    rw [if_pos (by omega), grd_pos (by omega), grd_pos (by omega), if_pos trivial, wr_succ (by unfold NB at hl; omega)]) (fun s _ => by
    simp only [s19_b1]
    rw [if_neg (by omega)]) hN trivial
  simp only [s19]
  rw [if_pos trivial, hb, runL_fold]
  rfl
theorem top_flen (M : Maps) : ∀ (l : List (Int × Item)) (c : Int) (o : List Item) (F : List Fault), (top M c o F l).2.length ≤ F.length + l.length
  | [], c, o, F => by simp [top]
  | p :: l, c, o, F => by
    have hF : ∀ e : Int, (if e = 0 then F else F ++ [(⟨e, p.2.At⟩ : Fault)]).length ≤ F.length + 1 := fun e => by
      split
      · omega
      · simp
    unfold top
    by_cases hd : defines p.2.Kind = true
    · rw [if_pos hd]
      have h1 := top_flen M l c o (if p.1 = 0 then F else F ++ [⟨p.1, p.2.At⟩])
      have h2 := hF p.1
      simp only [List.length_cons]
      omega
    rw [if_neg hd]
    have step : ∀ r : R, (if r.2.1 = true then (r.2.2.2.1, (if r.1 = 0 then F else F ++ [(⟨r.1, p.2.At⟩ : Fault)])) else top M r.2.2.1 r.2.2.2.1 (if r.1 = 0 then F else F ++ [(⟨r.1, p.2.At⟩ : Fault)]) l).2.length ≤ F.length + (l.length + 1) := fun r => by
      have h2 := hF r.1
      by_cases hs : r.2.1 = true
      · rw [if_pos hs]; simp only; omega
      · rw [if_neg hs]
        have h1 := top_flen M l r.2.2.1 r.2.2.2.1 (if r.1 = 0 then F else F ++ [⟨r.1, p.2.At⟩])
        omega
    exact step (one M c o p.2)
theorem expand_flen (p : Source) : (expand p).2.length ≤ p.Items.length + 1 := by
  unfold expand
  split
  · simp
  · simp only
    split
    · simp
    · have := top_flen (dcls M0 p.Items).2 ((dcls M0 p.Items).1.zip p.Items) 0 [] []
      rw [List.length_zip, dcls_len] at this
      simp only [List.length_nil] at this
      simp only
      omega
theorem par_bulk {p : Source} {k j : Int} {n : Str} (h : bulkL [.agg (Source.cs p), .int .u16 k, .int .u8 j, .str n] ≤ 1048576) : bulkL [.agg (Source.cs p)] ≤ 1048576 := by
  simp only [bulkL, bulk_agg, bulk_int, bulk_str] at h ⊢
  omega
theorem s6_true {p : Source} {k j : Int} {n : Str} (hk : 0 ≤ k ∧ k ≤ 65535) (hj : 0 ≤ j ∧ j ≤ 255) (hb : bulkL [.agg (Source.cs p), .int .u16 k, .int .u8 j, .str n] ≤ 1048576) : s6 8388608 p k j n = some true := by
  obtain ⟨hsz, hdp⟩ := items_dp (source_bulk (par_bulk hb))
  obtain ⟨b, e10, hb10⟩ := s10_def (N := 8388608) (s := p) (lim := 200) (by omega) (by omega) (by omega)
  simp only [s6, s9_true, Option.bind_some]
  rw [show ((200 : Nat) : Int) = 200 by rfl] at e10
  rw [e10]
  simp only [Option.bind_some]
  cases b with
  | false => rfl
  | true =>
    simp only [cond_true]
    have hs200 := hb10 rfl
    have hlen := iszl_len p.Items
    by_cases h0 : (p.Items.length : Int) = 0
    · rw [if_pos h0]
    rw [if_neg h0]
    by_cases h100 : (100 : Int) < n.length
    · rw [if_pos h100]
    rw [if_neg h100]
    by_cases hn : n = []
    · rw [if_pos hn]
    rw [if_neg hn, grd_pos h0]
    obtain ⟨K, rfl⟩ := Int.eq_ofNat_of_zero_le hk.1
    obtain ⟨J, rfl⟩ := Int.eq_ofNat_of_zero_le hj.1
    rw [wr (n := (K : Int)) (by omega) (by omega), wr (n := (J : Int)) (by omega) (by omega)]
    have ht1 : Int.tmod (K : Int) (p.Items.length : Int) = ((K % p.Items.length : Nat) : Int) := rfl
    rw [ht1]
    have hlt1 : K % p.Items.length < p.Items.length := Nat.mod_lt _ (by omega)
    rw [grd_pos (by omega)]
    simp only [toNat_nat]
    obtain ⟨a, ha⟩ : ∃ a, p.Items[K % p.Items.length]? = some a := ⟨_, List.getElem?_eq_getElem hlt1⟩
    obtain ⟨ha', _⟩ := getI ha
    rw [ha']
    have ham := List.mem_of_getElem? ha
    have had := hdp a ham
    by_cases h13 : a.Kind = 13
    · rw [if_pos h13]
      by_cases hz : (a.Names.length : Int) = 0
      · rw [if_pos hz]
      rw [if_neg hz]
      obtain ⟨b2, f17, hfr⟩ := s17_fresh (N := 8388608) (n := n) (B := 1048576) (by unfold NB; omega) (by omega) (by omega) hn had
      rw [f17]
      simp only [Option.bind_some]
      cases b2 with
      | true => rfl
      | false =>
        obtain ⟨g1, g2⟩ := hfr rfl
        simp only [cond_false]
        rw [grd_pos hz]
        have ht2 : Int.tmod (J : Int) (a.Names.length : Int) = ((J % a.Names.length : Nat) : Int) := rfl
        rw [ht2]
        have hlt2 : J % a.Names.length < a.Names.length := Nat.mod_lt _ (by omega)
        rw [grd_pos (by omega)]
        simp only [toNat_nat]
        obtain ⟨f, hf⟩ : ∃ f, a.Names[J % a.Names.length]? = some f := ⟨_, List.getElem?_eq_getElem hlt2⟩
        obtain ⟨hf', _⟩ := getI hf
        rw [hf']
        by_cases hfe : f = []
        · rw [if_pos hfe]
        rw [if_neg hfe, grd_pos (by omega), s18_eq (by unfold NB; omega) (had.mono (by omega))]
        simp only [Option.bind_some]
        have hgood : Good f n a := ⟨find_mem.1 g1, List.mem_of_getElem? hf, g2⟩
        obtain ⟨p', hp'⟩ : ∃ q : Source, q = ⟨p.Name, p.From, p.Days, p.Items.set (K % p.Items.length) (rnt f n a)⟩ := ⟨_, rfl⟩
        rw [← hp']
        have h2 : All2 (RT f n) p.Items p'.Items := by
          rw [hp']
          exact all2_set (fun x => .inl rfl) ha (.inr ⟨h13, rfl, hgood⟩)
        have hex : expand p' = expand p := expand_rel hfe hn (by rw [hp']) (by rw [hp']) (by rw [hp']) h2
        have hsz' : iszl p'.Items = iszl p.Items := iszl_rel h2
        have hdp' : ∀ x, x ∈ p'.Items → Dp 1048676 x := fun x hx => by
          rw [hp'] at hx
          rcases List.mem_or_eq_of_mem_set hx with h | h
          · exact (hdp x h).mono (by omega)
          · rw [h]; exact rnt_dp (by omega) had
        rw [s11_eq (bdS_of (B := 1048576) (by omega) (by omega) hdp) (by unfold NB; omega) (by omega)]
        simp only [Option.bind_some]
        rw [s11_eq (bdS_of (B := 1048676) (by omega) (by omega) hdp') (by unfold NB; omega) (by omega), hex]
        simp only [Option.bind_some, cond_true]
        have hfl := expand_flen p
        rw [s19_refl (by omega) (by unfold NB; omega)]
        simp only [Option.bind_some, cond_true]
        have hpz := expand_pz hdp
        have hol : (expand p).1.Items.length ≤ 600 := by
          by_cases hff : (expand p).2 = []
          · exact (expand_len hff).1
          · rw [expand_faults hff]; simp [noSource]
        have hos : iszl (expand p).1.Items ≤ 600 * 201 := Nat.le_trans (iszl_all (K := iszl p.Items) _ (fun x hx => (hpz x hx).2.2.2.2.1)) (Nat.mul_le_mul hol (by omega))
        rw [s14_refl (fun x hx => (hpz x hx).2.1) (by unfold NB; omega) (by unfold NB; omega)]
        rfl
    · rw [if_neg h13]
theorem law6 (a0 : Source) (o0 : Source.ok a0) (a1 : Int) (o1 : 0 ≤ a1 ∧ a1 ≤ 65535) (a2 : Int) (o2 : 0 ≤ a2 ∧ a2 ≤ 255) (a3 : List UInt8) (o3 : List.length a3 ≤ 9223372036854775807) (hb : bulkL [.agg (Source.cs a0), .int .u16 a1, .int .u8 a2, .str a3] ≤ 1048576) :
    PureC Try.prog 6 [.agg (Source.cs a0), .int .u16 a1, .int .u8 a2, .str a3] (.bool true) := c6 8388608 a0 a1 a2 a3 true (s6_true o1 o2 hb)
end Go.Proofs.Inc
