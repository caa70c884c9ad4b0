/- Effects depend on what is looked at, and name no slot that is not named. -/
import Derived.Test.YtpgnhajindbhlaaFwR
set_option autoImplicit false
namespace Go.Fw
def Eff.fits (e : Eff) (c : Cl) (lev : Nat) (dst : Option Tmp) : Prop :=
  match c with
  | .pure => e.up = none
  | .mem _ _ false => e.up = none
  | .mem l t true => e.nw = false ∧ ∃ ob, e.up = some (l, t, ob)
  | .new => e.nw = true ∧ ∃ d ob, dst = some d ∧ e.up = some (lev, d, ob)
def Eff.free (e : Eff) (l t : Nat) : Prop := e.r.purge l t = e.r ∧ ∀ u, e.up = some u → u.2.2.purge l t = u.2.2
def AVal.fr (l t : Nat) (x : AVal) : Prop := x.purge l t = x
theorem clLoad_ptr {P : Program} {H : Hp} {ty : TypeId} {l t off : Nat} {c : Cl} (h : clLoad P H ty (.ptr l t off) = some c) : c = .mem l t false := by
  simp only [clLoad] at h
  cases hO : H l t with
  | box cs =>
    rw [hO] at h
    simp only at h
    cases hb : ((aggOf P ty).any (fun g => !g) || allD cs) with
    | false => rw [hb] at h; cases h
    | true => rw [hb] at h; simp only [cond_true, Option.some.injEq] at h; exact h.symm
  | _ => rw [hO] at h; cases h
theorem cls1_congr {P : Program} {H H' : Hp} {op : Op} {xs : List AVal} {c : Cl} (h : cls1 P H op xs = some c) (hH : ∀ l t w, c = .mem l t w → H' l t = H l t) : cls1 P H' op xs = some c := by
  cases op with
  | load ty x =>
    replace h := f1_some h; obtain ⟨x, rfl, h⟩ := h
    show clLoad P H' ty x = some c
    cases x with
    | ptr l t off =>
      have e := clLoad_ptr h
      simp only [clLoad] at h ⊢
      rw [hH l t false e]
      exact h
    | _ => exact h
  | _ => exact h
theorem ev1_congr {P : Program} {H H' : Hp} {lev : Nat} {dst : Option Tmp} {ty : TypeId} {op : Op} {xs : List AVal} {c : Cl} (h : cls1 P H op xs = some c) (hH : ∀ l t w, c = .mem l t w → H' l t = H l t) : ev1 P H' lev dst ty op xs = ev1 P H lev dst ty op xs := by
  cases op with
  | load ty x =>
    replace h := f1_some h; obtain ⟨x, rfl, h⟩ := h
    show loadV P H' ty x = loadV P H ty x
    cases x with
    | ptr l t off => simp only [loadV, hH l t false (clLoad_ptr h)]
    | elt l t k i j => cases h; simp only [loadV, hH l t false rfl]
    | _ => rfl
  | store ty x y =>
    replace h := f2_some h; obtain ⟨x, y, rfl, h⟩ := h
    show storeV P H' lev ty x y = storeV P H lev ty x y
    cases x with
    | ptr l t off => cases h; simp only [storeV, hH l t true rfl]
    | elt l t k i j =>
      simp only [clStore] at h
      cases hd : isD y with
      | false => rw [hd] at h; cases h
      | true => rw [hd] at h; cases h; simp only [storeV, hH l t true rfl]
    | _ => rfl
  | indexAddr ty x y =>
    replace h := f2_some h; obtain ⟨x, y, rfl, h⟩ := h
    show idxV P H' ty x y = idxV P H ty x y
    cases x with
    | ref l t k => cases h; simp only [idxV, hH l t false rfl]
    | d d => cases d <;> rfl
    | _ => cases h
  | makeFunc fv first caps => cases fv <;> rfl
  | call c => obtain ⟨cal, a, b⟩ := c; cases cal <;> rfl
  | _ => rfl
/-- The kinds of operations that make objects. -/
def newK : Op → Bool
  | .assign x => isNilS x
  | .alloc _ => true
  | .buildSlice _ _ _ => true
  | _ => false
theorem pv_fits {e : Eff} {r : AVal} {dst : Option Tmp} {lev : Nat} (h : pv r = e) : e.fits .pure lev dst := by subst h; rfl
theorem pv_fits2 {e : Eff} {r : AVal} {dst : Option Tmp} {lev l t : Nat} (h : pv r = e) : e.fits (.mem l t false) lev dst := by subst h; rfl
theorem load_up {P : Program} {H : Hp} {ty : TypeId} {x : AVal} {e : Eff} (h : loadV P H ty x = some e) : e.up = none := by
  unfold loadV at h
  obtain ⟨n, _, h⟩ := Option.bind_eq_some_iff.1 h
  obtain ⟨g, _, h⟩ := Option.bind_eq_some_iff.1 h
  have ld : ∀ {cs : List DVal}, ((ldData g n cs).map fun y => pv (.d y)) = some e → e.up = none := fun h => by obtain ⟨y, _, rfl⟩ := Option.map_eq_some_iff.1 h; rfl
  cases x with
  | ptr l t off =>
    simp only at h
    cases hO : H l t with
    | box cs =>
      rw [hO] at h
      simp only [boxV] at h
      cases g with
      | false => simp only [cond_false] at h; obtain ⟨y, _, rfl⟩ := Option.map_eq_some_iff.1 h; rfl
      | true =>
        simp only [cond_true] at h
        cases hb : Nat.ble n (cs.drop off).length with
        | false => rw [hb] at h; cases h
        | true => rw [hb] at h; cases h; rfl
    | _ => rw [hO] at h; cases h
  | cptr cs => exact ld h
  | elt l t k i j =>
    simp only at h
    have key : ∀ xs : List DVal, (bif Nat.beq k xs.length then (xs[i]?).bind fun e => (ldData g n (e.cells.drop j)).map fun y => pv (.d y) else none) = some e → e.up = none := fun xs h => by
      cases hb : Nat.beq k xs.length with
      | false => rw [hb] at h; cases h
      | true => rw [hb] at h; obtain ⟨y, _, h⟩ := Option.bind_eq_some_iff.1 h; exact ld h
    cases hO : H l t with
    | arr sz xs => rw [hO] at h; exact key xs h
    | frz xs => rw [hO] at h; exact key xs h
    | _ => rw [hO] at h; cases h
  | _ => cases h
theorem idx_up {P : Program} {H : Hp} {t : TypeId} {x y : AVal} {e : Eff} (h : idxV P H t x y = some e) : e.up = none := by
  unfold idxV at h
  obtain ⟨el, _, h⟩ := Option.bind_eq_some_iff.1 h
  obtain ⟨n, _, h⟩ := Option.bind_eq_some_iff.1 h
  obtain ⟨z, _, h⟩ := Option.bind_eq_some_iff.1 h
  cases hb : decide (0 ≤ z) with
  | false => rw [hb] at h; cases h
  | true =>
    rw [hb] at h
    simp only [cond_true] at h
    have key : ∀ (b : Bool) (r : AVal), (bif b then some (pv r) else none) = some e → e.up = none := fun b r h => by cases b <;> cases h; rfl
    cases x with
    | d d =>
      cases d with
      | list xs => simp only at h; obtain ⟨y, _, h⟩ := Option.bind_eq_some_iff.1 h; exact key _ _ h
      | _ => cases h
    | ref l s k =>
      simp only at h
      cases hO : H l s with
      | arr sz xs => rw [hO] at h; exact key _ _ h
      | frz xs => rw [hO] at h; simp only [idxO] at h; obtain ⟨y, _, h⟩ := Option.bind_eq_some_iff.1 h; exact key _ _ h
      | _ => rw [hO] at h; cases h
    | _ => cases h
theorem map_pv {α : Type} {o : Option α} {f : α → AVal} {e : Eff} (h : (o.map fun r => pv (f r)) = some e) : ∃ r, e = pv (f r) ∧ o = some r := by
  obtain ⟨r, h1, h2⟩ := Option.map_eq_some_iff.1 h
  exact ⟨r, h2.symm, h1⟩
theorem biV_pv {P : Program} {b : Builtin} {ts : Array TypeId} {ty : TypeId} {cs : Array Bool} {xs : List AVal} {e : Eff} (h : biV P b ts ty cs xs = some e) : ∃ r, e = pv (ofConst r) := by
  unfold biV at h
  obtain ⟨us, _, h⟩ := Option.bind_eq_some_iff.1 h
  obtain ⟨r, h, _⟩ := map_pv h
  exact ⟨r, h⟩
theorem callBV_pv {P : Program} {ty : TypeId} {b : Builtin} {os : List Operand} {xs : List AVal} {ts : List TypeId} {e : Eff} (h : callBV P ty b os xs ts = some e) : ∃ r, e = pv r ∧ ∀ l t, r.purge l t = r := by
  have cst : ∀ (r : Value) (l t : Nat), (ofConst r).purge l t = ofConst r := fun r l t => by
    unfold ofConst
    split
    · rfl
    · rename_i cs; cases cs.all (·.oneCell') <;> rfl
    · rfl
    · rfl
  unfold callBV at h
  split at h
  · rename_i o x t
    cases hs : isStr P t with
    | true => rw [hs] at h; obtain ⟨r, rfl⟩ := biV_pv h; exact ⟨_, rfl, cst r⟩
    | false =>
      rw [hs] at h
      obtain ⟨el, _, h⟩ := Option.bind_eq_some_iff.1 h
      obtain ⟨n, rfl, _⟩ := map_pv h
      exact ⟨_, rfl, fun _ _ => rfl⟩
  · obtain ⟨r, rfl⟩ := biV_pv h; exact ⟨_, rfl, cst r⟩
  · obtain ⟨r, rfl⟩ := biV_pv h; exact ⟨_, rfl, cst r⟩
  · cases h
theorem fr_const (r : Value) (l t : Nat) : (ofConst r).purge l t = ofConst r := by
  unfold ofConst
  split
  · rfl
  · rename_i cs; cases cs.all (·.oneCell') <;> rfl
  · rfl
  · rfl
theorem fr_slot {x : AVal} {l t l' t' : Nat} (h : (bif l' == l && t' == t then AVal.any else x) = x) (hx : x ≠ .any) : ¬ (l' = l ∧ t' = t) := by
  rintro ⟨rfl, rfl⟩
  simp at h
  exact hx h.symm
theorem ne_slot {x : AVal} {l t l' t' : Nat} (h : ¬ (l' = l ∧ t' = t)) : (bif l' == l && t' == t then AVal.any else x) = x := by
  have e2 : (l' == l && t' == t) = false := by simpa using h
  rw [e2]; rfl
theorem load_free {P : Program} {H : Hp} {ty : TypeId} {x : AVal} {e : Eff} {l t : Nat} (he : loadV P H ty x = some e) (hH : ∀ l' t' off, x = .ptr l' t' off → (H l' t').purge l t = H l' t') : e.r.purge l t = e.r := by
  unfold loadV at he
  obtain ⟨n, _, he⟩ := Option.bind_eq_some_iff.1 he
  obtain ⟨g, _, he⟩ := Option.bind_eq_some_iff.1 he
  have ld : ∀ {cs : List DVal}, ((ldData g n cs).map fun y => pv (.d y)) = some e → e.r.purge l t = e.r := fun h => by obtain ⟨y, _, rfl⟩ := Option.map_eq_some_iff.1 h; rfl
  have key : ∀ (xs : List DVal) (k i j : Nat), (bif Nat.beq k xs.length then (xs[i]?).bind fun e => (ldData g n (e.cells.drop j)).map fun y => pv (.d y) else none) = some e → e.r.purge l t = e.r := fun xs k i j h => by
    cases hb : Nat.beq k xs.length with
    | false => rw [hb] at h; cases h
    | true => rw [hb] at h; obtain ⟨y, _, h⟩ := Option.bind_eq_some_iff.1 h; exact ld h
  cases x with
  | ptr l2 t2 off =>
    simp only at he
    cases hO : H l2 t2 with
    | box cs =>
      have hp := hH l2 t2 off rfl
      rw [hO] at he hp
      simp only [boxV] at he
      simp only [AObj.purge, AObj.box.injEq, AVal.purgeL_eq] at hp
      cases g with
      | false =>
        simp only [cond_false] at he
        obtain ⟨y, hy, rfl⟩ := Option.map_eq_some_iff.1 he
        rw [List.head?_drop] at hy
        have := congrArg (fun q => q[off]?) hp
        simp only [List.getElem?_map, hy, Option.map_some, Option.some.injEq] at this
        exact this
      | true =>
        simp only [cond_true] at he
        cases hb : Nat.ble n (cs.drop off).length with
        | false => rw [hb] at he; cases he
        | true => rw [hb] at he; cases he; rfl
    | _ => rw [hO] at he; cases he
  | cptr cs => exact ld he
  | elt l2 t2 k i j =>
    simp only at he
    cases hO : H l2 t2 with
    | arr sz xs => rw [hO] at he; exact key xs k i j he
    | frz xs => rw [hO] at he; exact key xs k i j he
    | _ => rw [hO] at he; cases he
  | _ => cases he
theorem idx_free {P : Program} {H : Hp} {ty : TypeId} {x y : AVal} {e : Eff} {l t : Nat} (h : idxV P H ty x y = some e) (hx : x.purge l t = x) : e.r.purge l t = e.r := by
  unfold idxV at h
  obtain ⟨el, _, h⟩ := Option.bind_eq_some_iff.1 h
  obtain ⟨n, _, h⟩ := Option.bind_eq_some_iff.1 h
  obtain ⟨z, _, h⟩ := Option.bind_eq_some_iff.1 h
  cases hb : decide (0 ≤ z) with
  | false => rw [hb] at h; cases h
  | true =>
    rw [hb] at h
    simp only [cond_true] at h
    cases x with
    | d d =>
      cases d with
      | list xs => simp only at h; obtain ⟨y, _, h⟩ := Option.bind_eq_some_iff.1 h; cases hb2 : Nat.beq y.cells.length n <;> rw [hb2] at h <;> cases h; rfl
      | _ => cases h
    | ref l2 t2 k =>
      have hs := fr_slot (x := .ref l2 t2 k) (by simpa [AVal.purge] using hx) (by simp)
      simp only at h
      cases hO : H l2 t2 with
      | arr sz xs =>
        rw [hO] at h
        simp only [idxO] at h
        generalize (Nat.beq k xs.length && Nat.beq sz n && Nat.blt z.toNat k) = b at h
        cases b <;> cases h
        exact ne_slot hs
      | frz xs =>
        rw [hO] at h; simp only [idxO] at h
        obtain ⟨y, _, h⟩ := Option.bind_eq_some_iff.1 h
        generalize (Nat.beq k xs.length && Nat.beq y.cells.length n) = b at h
        cases b <;> cases h; rfl
      | _ => rw [hO] at h; cases h
    | _ => cases h
/-- What is to be known of an operation's effect. -/
structure EffOk (H : Hp) (lev : Nat) (dst : Option Tmp) (xs : List AVal) (c : Cl) (e : Eff) : Prop where
  fits : e.fits c lev dst
  slot : ∀ l t, (∀ x ∈ xs, x.purge l t = x) → ∀ l' t' w, c = .mem l' t' w → ¬ (l' = l ∧ t' = t)
  free : ∀ l t, (∀ x ∈ xs, x.purge l t = x) → (∀ l' t' w, c = .mem l' t' w → (H l' t').purge l t = H l' t') → (c = .new → ¬ (l = lev ∧ dst = some t)) → e.free l t
theorem EffOk.pure {H : Hp} {lev : Nat} {dst : Option Tmp} {xs : List AVal} {r : AVal} (hr : ∀ l t, (∀ x ∈ xs, x.purge l t = x) → r.purge l t = r) : EffOk H lev dst xs .pure (pv r) :=
  ⟨rfl, fun _ _ _ _ _ _ h => (by cases h), fun l t hx _ _ => ⟨hr l t hx, fun u hu => (by cases hu)⟩⟩
theorem EffOk.read {H : Hp} {lev : Nat} {dst : Option Tmp} {xs : List AVal} {e : Eff} {l t : Nat} (hu : e.up = none) (hs : ∀ l' t', (∀ x ∈ xs, x.purge l' t' = x) → ¬ (l = l' ∧ t = t'))
    (hr : ∀ l' t', (∀ x ∈ xs, x.purge l' t' = x) → (H l t).purge l' t' = H l t → e.r.purge l' t' = e.r) : EffOk H lev dst xs (.mem l t false) e :=
  ⟨hu, fun l' t' hx _ _ _ h => (by cases h; exact hs l' t' hx), fun l' t' hx hH _ => ⟨hr l' t' hx (hH l t false rfl), fun u hu' => (by rw [hu] at hu'; cases hu')⟩⟩
theorem EffOk.new {H : Hp} {lev d : Nat} {xs : List AVal} {r : AVal} {ob : AObj} (hr : ∀ l t, ¬ (lev = l ∧ d = t) → r.purge l t = r) (ho : ∀ l t, ob.purge l t = ob) : EffOk H lev (some d) xs .new ⟨r, some (lev, d, ob), true⟩ :=
  ⟨⟨rfl, d, ob, rfl, rfl⟩, fun _ _ _ _ _ _ h => (by cases h), fun l t _ _ hne => ⟨hr l t fun ⟨a, b⟩ => hne rfl ⟨a.symm, by rw [b]⟩, fun u hu => (by cases hu; exact ho l t)⟩⟩
theorem ev1_eff {P : Program} {H : Hp} {lev : Nat} {dst : Option Tmp} {ty : TypeId} {op : Op} {xs : List AVal} {c : Cl} {e : Eff} (h : cls1 P H op xs = some c) (he : ev1 P H lev dst ty op xs = some e) : EffOk H lev dst xs c e := by
  cases op with
  | move x => cases h; replace he := f1_some he; obtain ⟨x, rfl, he⟩ := he; cases he; exact .pure fun l t hx => hx x (by simp)
  | assign o =>
    replace he := f1_some he; obtain ⟨x, rfl, he⟩ := he
    simp only [cls1, Option.some.injEq] at h
    cases hn : isNilS o with
    | false => rw [hn] at he h; cases he; cases h; exact .pure fun l t hx => hx x (by simp)
    | true =>
      rw [hn] at he h
      cases h
      cases dst with
      | none => cases he
      | some d =>
        simp only [onDstE, cond_true] at he
        obtain ⟨el, _, he⟩ := Option.bind_eq_some_iff.1 he
        obtain ⟨n, _, rfl⟩ := Option.map_eq_some_iff.1 he
        exact .new (fun l t hne => ne_slot hne) (fun _ _ => rfl)
  | pick a b d =>
    cases h
    replace he := f3_some he; obtain ⟨x, y, z, rfl, he⟩ := he
    obtain ⟨b, _, rfl⟩ := Option.map_eq_some_iff.1 he
    refine .pure fun l t hx => ?_
    cases b
    · exact hx z (by simp)
    · exact hx y (by simp)
  | nilCheck x =>
    cases h
    replace he := f1_some he; obtain ⟨x, rfl, he⟩ := he
    have hr : e = pv x := by cases x <;> cases he <;> rfl
    subst hr
    exact .pure fun l t hx => hx x (by simp)
  | binOp op t a b u =>
    cases h
    replace he := f2_some he; obtain ⟨x, y, rfl, he⟩ := he
    obtain ⟨u, _, he⟩ := Option.bind_eq_some_iff.1 he
    obtain ⟨v, _, he⟩ := Option.bind_eq_some_iff.1 he
    obtain ⟨r, rfl, _⟩ := map_pv he
    exact .pure fun l t _ => fr_const r l t
  | unOp op t a =>
    cases h
    replace he := f1_some he; obtain ⟨x, rfl, he⟩ := he
    obtain ⟨u, _, he⟩ := Option.bind_eq_some_iff.1 he
    obtain ⟨r, rfl, _⟩ := map_pv he
    exact .pure fun l t _ => fr_const r l t
  | index t a b =>
    cases h
    replace he := f2_some he; obtain ⟨x, y, rfl, he⟩ := he
    obtain ⟨u, _, he⟩ := Option.bind_eq_some_iff.1 he
    obtain ⟨v, _, he⟩ := Option.bind_eq_some_iff.1 he
    obtain ⟨r, rfl, _⟩ := map_pv he
    exact .pure fun l t _ => fr_const r l t
  | fieldAddr s a f =>
    cases h
    replace he := f1_some he; obtain ⟨x, rfl, he⟩ := he
    obtain ⟨p, _, he⟩ := Option.bind_eq_some_iff.1 he
    obtain ⟨n, _, he⟩ := Option.bind_eq_some_iff.1 he
    cases hb : Nat.beq n 0 with
    | true => rw [hb] at he; cases he
    | false =>
      rw [hb] at he
      simp only [cond_false] at he
      cases x with
      | ptr l' t' off =>
        cases he
        exact .pure fun l t hx => ne_slot (fr_slot (x := .ptr l' t' off) (by simpa [AVal.purge] using hx _ (List.mem_singleton.2 rfl)) (by simp))
      | elt l' t' k i j =>
        cases he
        exact .pure fun l t hx => ne_slot (fr_slot (x := .elt l' t' k i j) (by simpa [AVal.purge] using hx _ (List.mem_singleton.2 rfl)) (by simp))
      | cptr cs =>
        simp only [fieldAV] at he
        cases hb2 : Nat.ble p.1 cs.length with
        | false => rw [hb2] at he; cases he
        | true => rw [hb2] at he; cases he; exact .pure fun l t _ => rfl
      | _ => cases he
  | field s a f =>
    cases h
    replace he := f1_some he; obtain ⟨x, rfl, he⟩ := he
    obtain ⟨p, _, he⟩ := Option.bind_eq_some_iff.1 he
    obtain ⟨n, _, he⟩ := Option.bind_eq_some_iff.1 he
    obtain ⟨g, _, he⟩ := Option.bind_eq_some_iff.1 he
    unfold fieldV at he
    split at he
    · obtain ⟨y, _, rfl⟩ := Option.map_eq_some_iff.1 he
      exact .pure fun l t _ => rfl
    · cases he
  | extract a i =>
    cases h
    replace he := f1_some he; obtain ⟨x, rfl, he⟩ := he
    unfold extV at he
    split at he
    · rename_i ys
      obtain ⟨y, hy, rfl⟩ := Option.map_eq_some_iff.1 he
      refine .pure fun l t hx => ?_
      have hz := hx _ (List.mem_singleton.2 rfl)
      simp only [AVal.purge, AVal.tup.injEq, AVal.purgeL_eq] at hz
      have := congrArg (fun q => q[i]?) hz
      simp only [List.getElem?_map, hy, Option.map_some, Option.some.injEq] at this
      exact this
    · cases he
  | makeFunc fv first caps =>
    cases h
    cases fv with
    | func f =>
      simp only [ev1] at he
      cases hb : first.toList.isEmpty with
      | false => rw [hb] at he; cases he
      | true =>
        rw [hb] at he
        cases he
        refine .pure fun l t hx => ?_
        simp only [AVal.purge, AVal.purgeL_eq, AVal.clo.injEq, true_and]
        exact (List.map_congr_left hx).trans (List.map_id' xs)
    | _ => cases he
  | alloc t =>
    cases h
    cases dst with
    | none => cases he
    | some d =>
      simp only [ev1, onDstE] at he
      obtain ⟨vs, _, he⟩ := Option.bind_eq_some_iff.1 he
      cases hb : vs.all (·.oneCell') with
      | false => rw [hb] at he; cases he
      | true =>
        rw [hb] at he
        cases he
        refine .new (fun l t hne => ne_slot hne) (fun l t => ?_)
        simp only [AObj.purge, AObj.box.injEq, AVal.purgeL_eq, List.map_map]
        apply List.map_congr_left
        intro v _
        have hcc : ∀ l t, (cellC v).purge l t = cellC v := fun l t => by unfold cellC; split <;> rfl
        simp [Function.comp, hcc]
  | build t ps =>
    simp only [cls1] at h
    cases ha : allD xs with
    | false => rw [ha] at h; cases h
    | true =>
      rw [ha] at h
      cases h
      simp only [ev1] at he
      obtain ⟨zs, _, he⟩ := Option.bind_eq_some_iff.1 he
      obtain ⟨pl, _, he⟩ := Option.bind_eq_some_iff.1 he
      cases hb : zs.all (·.oneCell') with
      | false => rw [hb] at he; cases he
      | true =>
        rw [hb] at he
        obtain ⟨cs, _, rfl⟩ := Option.map_eq_some_iff.1 he
        exact .pure fun l t _ => rfl
  | buildSlice t len ps =>
    simp only [cls1] at h
    cases ha : allD xs with
    | false => rw [ha] at h; cases h
    | true =>
      rw [ha] at h
      cases h
      cases dst with
      | none => cases he
      | some d =>
        simp only [ev1, onDstE] at he
        obtain ⟨el, _, he⟩ := Option.bind_eq_some_iff.1 he
        obtain ⟨i, _, he⟩ := Option.bind_eq_some_iff.1 he
        obtain ⟨z, _, he⟩ := Option.bind_eq_some_iff.1 he
        generalize (z.cells.toList.all (·.oneCell') && Nat.beq z.cells.size i.size && Nat.blt 0 i.size && Nat.ble (len * i.size) 16777216 && (zipI ps.toList (xs.map datum)).all (fun p => Nat.blt p.1 len && Nat.beq p.2.cells.length i.size)) = b at he
        cases b with
        | false => cases he
        | true =>
          cases he
          exact .new (fun l t hne => ne_slot hne) (fun _ _ => rfl)
  | load ty a =>
    replace h := f1_some h; obtain ⟨x, rfl, h⟩ := h
    have he : loadV P H ty x = some e := he
    have hup := load_up he
    cases x with
    | ptr l2 t2 off =>
      have hc := clLoad_ptr h
      subst hc
      exact .read hup (fun l' t' hx => fr_slot (x := .ptr l2 t2 off) (by simpa [AVal.purge] using hx _ (List.mem_singleton.2 rfl)) (by simp)) fun l t _ hH => load_free he fun _ _ _ h => (by cases h; exact hH)
    | elt l2 t2 k i j =>
      cases h
      exact .read hup (fun l' t' hx => fr_slot (x := .elt l2 t2 k i j) (by simpa [AVal.purge] using hx _ (List.mem_singleton.2 rfl)) (by simp)) fun l t _ hH => load_free he fun _ _ _ h => (by cases h)
    | cptr cs =>
      cases h
      exact ⟨hup, fun _ _ _ _ _ _ h => (by cases h), fun l t _ hH _ => ⟨load_free he fun _ _ _ h => (by cases h), fun u hu => (by rw [hup] at hu; cases hu)⟩⟩
    | _ => cases h
  | store ty a b =>
    replace h := f2_some h; obtain ⟨x, y, rfl, h⟩ := h
    have he : storeV P H lev ty x y = some e := he
    cases x with
    | ptr l2 t2 off =>
      cases h
      simp only [storeV] at he
      cases hO : H l2 t2 with
      | box cs =>
        rw [hO] at he
        simp only [stBoxV] at he
        obtain ⟨ys, hys, he⟩ := Option.bind_eq_some_iff.1 he
        generalize ((szOf P ty).any (Nat.beq ys.length) && Nat.ble l2 lev && AVal.belL (l2 + 1) ys && Nat.ble (off + ys.length) cs.length) = bb at he
        cases bb with
        | false => cases he
        | true =>
          cases he
          refine ⟨⟨rfl, _, rfl⟩, fun l t hx l' t' w hc => ?_, fun l t hx hH _ => ⟨rfl, fun u hu => ?_⟩⟩
          · cases hc
            exact fr_slot (x := .ptr l2 t2 off) (by simpa [AVal.purge] using hx _ (List.mem_cons_self)) (by simp)
          · cases hu
            have hp := hH l2 t2 true rfl
            rw [hO] at hp
            simp only [AObj.purge, AObj.box.injEq, AVal.purgeL_eq] at hp ⊢
            have h1 : (cs.take off).map (AVal.purge l t) = cs.take off := by rw [List.map_take, hp]
            have h2 : (cs.drop (off + ys.length)).map (AVal.purge l t) = cs.drop (off + ys.length) := by rw [List.map_drop, hp]
            have hy := hx y (by simp)
            have h3 : ys.map (AVal.purge l t) = ys := by
              cases y with
              | d d =>
                cases d with
                | agg ds => simp only [avCells, Option.some.injEq] at hys; subst hys; simp [AVal.purge]
                | _ => simp only [avCells, Option.some.injEq] at hys; subst hys; simp [AVal.purge]
              | any => cases hys
              | tup _ => cases hys
              | _ => simp only [avCells, Option.some.injEq] at hys; subst hys; simp only [List.map_cons, List.map_nil, hy]
            simp only [List.map_append, h1, h2, h3]
      | _ => rw [hO] at he; cases he
    | elt l2 t2 k i j =>
      simp only [clStore] at h
      cases hd : isD y with
      | false => rw [hd] at h; cases h
      | true =>
        rw [hd] at h
        cases h
        simp only [storeV] at he
        cases hO : H l2 t2 with
        | arr sz zs =>
          rw [hO] at he
          simp only [stEltV] at he
          obtain ⟨el, hel, he⟩ := Option.bind_eq_some_iff.1 he
          generalize ((szOf P ty).any (Nat.beq (datum y).cells.length) && Nat.beq k zs.length && Nat.ble l2 lev && Nat.ble (j + (datum y).cells.length) sz) = bb at he
          cases bb with
          | false => cases he
          | true =>
            cases he
            refine ⟨⟨rfl, _, rfl⟩, fun l t hx l' t' w hc => ?_, fun l t hx hH _ => ⟨rfl, fun u hu => ?_⟩⟩
            · cases hc
              exact fr_slot (x := .elt l2 t2 k i j) (by simpa [AVal.purge] using hx _ (List.mem_cons_self)) (by simp)
            · cases hu; rfl
        | _ => rw [hO] at he; cases he
    | _ => cases h
  | indexAddr ty a b =>
    replace h := f2_some h; obtain ⟨x, y, rfl, h⟩ := h
    have he : idxV P H ty x y = some e := he
    have hup := idx_up he
    cases x with
    | d d =>
      cases h
      exact ⟨hup, fun _ _ _ _ _ _ h => (by cases h), fun l t hx _ _ => ⟨idx_free he (hx _ (List.mem_cons_self)), fun u hu => (by rw [hup] at hu; cases hu)⟩⟩
    | ref l2 t2 k =>
      cases h
      exact .read hup (fun l' t' hx => fr_slot (x := .ref l2 t2 k) (by simpa [AVal.purge] using hx _ (List.mem_cons_self)) (by simp)) fun l t hx _ => idx_free he (hx _ (List.mem_cons_self))
    | _ => cases h
  | slice t a lo hi mx =>
    replace h := fc_some h; obtain ⟨x, r, rfl, h⟩ := h
    have hc : c = .pure := by
      unfold clSlice at h
      split at h
      · cases hb : (isStr P t || isD x) <;> rw [hb] at h <;> cases h; rfl
      · cases h
    subst hc
    simp only [ev1, fc] at he
    cases hs : isStr P t with
    | true =>
      rw [hs] at he
      simp only [cond_true, slSV] at he
      obtain ⟨u, _, he⟩ := Option.bind_eq_some_iff.1 he
      obtain ⟨u1, _, he⟩ := Option.bind_eq_some_iff.1 he
      obtain ⟨u2, _, he⟩ := Option.bind_eq_some_iff.1 he
      obtain ⟨r, rfl, _⟩ := map_pv he
      exact .pure fun l t _ => fr_const r l t
    | false =>
      rw [hs] at he
      simp only [cond_false, slLV] at he
      obtain ⟨u, _, he⟩ := Option.bind_eq_some_iff.1 he
      obtain ⟨n, _, he⟩ := Option.bind_eq_some_iff.1 he
      cases hx : datum x with
      | list xs =>
        rw [hx] at he
        simp only at he
        obtain ⟨u1, _, he⟩ := Option.bind_eq_some_iff.1 he
        obtain ⟨u2, _, he⟩ := Option.bind_eq_some_iff.1 he
        generalize (decide (0 ≤ u1) && decide (u1 ≤ u2) && decide (u2 ≤ xs.length) && allLen n xs) = b at he
        cases b <;> cases he
        exact .pure fun l t _ => rfl
      | _ => rw [hx] at he; cases he
  | call cl =>
    have hc : c = .pure := by
      obtain ⟨cal, args, ats⟩ := cl
      simp only [cls1] at h
      unfold clCall at h
      split at h <;> cases h <;> rfl
    subst hc
    obtain ⟨cal, args, ats⟩ := cl
    cases cal with
    | builtin b =>
      obtain ⟨r, rfl, hr⟩ := callBV_pv he
      exact .pure fun l t _ => hr l t
    | _ => cases he
  | _ => cases h
theorem cls1_newK {P : Program} {H : Hp} {op : Op} {xs : List AVal} (h : cls1 P H op xs = some .new) : newK op = true := by
  cases op with
  | assign o => simp only [cls1, Option.some.injEq] at h; cases hn : isNilS o with
    | false => rw [hn] at h; cases h
    | true => exact hn
  | alloc t => rfl
  | buildSlice t n ps => rfl
  | load ty a =>
    replace h := f1_some h; obtain ⟨x, rfl, h⟩ := h
    cases x with
    | ptr l t off => cases clLoad_ptr h
    | _ => cases h
  | store ty a b =>
    replace h := f2_some h; obtain ⟨x, y, rfl, h⟩ := h
    cases x with
    | elt l t k i j => simp only [clStore] at h; cases hd : isD y <;> rw [hd] at h <;> cases h
    | _ => cases h
  | indexAddr t a b =>
    replace h := f2_some h; obtain ⟨x, y, rfl, h⟩ := h
    cases x <;> cases h
  | slice t a lo hi mx =>
    replace h := fc_some h; obtain ⟨x, r, rfl, h⟩ := h
    unfold clSlice at h
    split at h
    · cases hb : (isStr P t || isD x) <;> rw [hb] at h <;> cases h
    · cases h
  | build t ps => simp only [cls1] at h; cases ha : allD xs <;> rw [ha] at h <;> cases h
  | call c => simp only [cls1] at h; unfold clCall at h; split at h <;> cases h
  | _ => cases h
end Go.Fw
