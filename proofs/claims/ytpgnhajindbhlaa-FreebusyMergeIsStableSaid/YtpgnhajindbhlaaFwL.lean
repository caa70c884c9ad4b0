/- Parts of slices; texts and bytes; empty slices. -/
import Derived.Test.YtpgnhajindbhlaaFwK
import Derived.Laws.IdiomStrings
import Derived.Laws.Slices
set_option autoImplicit false
namespace Go.Fw
/-- A slice variable is set to nil: an array of one's own, empty. -/
def stNilSlice (P : Program) (σ : St) (d : Nat) (t : TypeId) : Option St :=
  (elemOf' P t).bind fun e => (szOf P e).map fun n => σ.alloc d (.arr n []) (.ref σ.lev d 0)
theorem nilSlice_ok {P : Program} {σ σ' : St} {o : Oper} {t : TypeId} {d : Nat} (ho : o.op = .assign (.const (.slice none 0 0))) (hdd : o.dst = some d) (hd : okDst σ.n o.dst = true) (h : stNilSlice P σ d t = some σ') : OpOk P o σ σ' := by
  intro E a w K hR
  unfold stNilSlice at h
  obtain ⟨e, he, h⟩ := Option.bind_eq_some_iff.1 h
  obtain ⟨n, hn, rfl⟩ := Option.map_eq_some_iff.1 h
  rw [hdd] at hd ⊢
  obtain ⟨K', hK'⟩ := hR.arr (d := d) (sz := n) (xs := []) (ad := none) (cap := 0) (w' := w) hd (Ch.refl _ w) (by simp) (Nat.le_refl _) ⟨rfl, rfl⟩ (by simp)
  exact ⟨.slice none 0 0, w, K', .inl (by simp [execOp, ho, Act.eval]), hK'⟩

/-! ### Parts -/
def optInt (σ : St) (d : Int) : Option Operand → Option Int
  | none => some d
  | some x => intOfA (evO σ x)
def stSliceL (P : Program) (σ : St) (dst : Option Tmp) (t : TypeId) (x : AVal) (lo hi : Option Operand) : Option St :=
  (elemOf' P t).bind fun e => (szOf P e).bind fun n => (frzV σ x).bind fun p =>
  match p.1 with
  | .list xs => (optInt σ 0 lo).bind fun l => (optInt σ xs.length hi).bind fun h =>
    bif decide (0 ≤ l) && decide (l ≤ h) && decide (h ≤ xs.length) && allLen n xs then some (p.2.put dst (.d (.list ((xs.drop l.toNat).take (h.toNat - l.toNat))))) else none
  | _ => none
theorem optInt_eq {E : Env} {σ : St} {a : Act} {w : World} {K : Kt} {d z : Int} {x : Option Operand} (hR : Rel E σ a w K) (h : optInt σ d x = some z) : (x = none ∧ z = d) ∨ ∃ y k, x = some y ∧ a.eval y = .int k z := by
  cases x with
  | none => simp only [optInt, Option.some.injEq] at h; exact .inl ⟨rfl, h.symm⟩
  | some y =>
    simp only [optInt] at h
    obtain ⟨k, hk⟩ := intOfA_eq h (hR.ev y)
    exact .inr ⟨y, k, rfl, hk⟩
theorem run_sliceBounds {P : Program} {E : Env} {σ : St} {a : Act} {w : World} {K : Kt} {l h : Int} {len cap : Nat} {lo hi : Option Operand} (hR : Rel E σ a w K) (h1 : optInt σ 0 lo = some l) (h2 : optInt σ len hi = some h) (h0 : 0 ≤ l) (hlh : l ≤ h) (hhl : h ≤ len) (hc : len ≤ cap) :
    (Instr.sliceBounds true len cap (lo.map a.eval) (hi.map a.eval) none).run P w = .ok (l.toNat, h.toNat, cap) w := by
  have b1 : 0 ≤ h := by omega
  have b2 : h ≤ cap := by omega
  rcases optInt_eq hR h1 with ⟨rfl, rfl⟩ | ⟨y1, k1, rfl, e1⟩
  · rcases optInt_eq hR h2 with ⟨rfl, rfl⟩ | ⟨y2, k2, rfl, e2⟩
    · simp [Instr.sliceBounds]
    · simp [Instr.sliceBounds, e2, Instr.sliceBound, asIntOf, b1, b2]
  · have b3 : l ≤ (h.toNat : Int) := by omega
    rcases optInt_eq hR h2 with ⟨rfl, rfl⟩ | ⟨y2, k2, rfl, e2⟩
    · simp at b3
      simp [Instr.sliceBounds, e1, Instr.sliceBound, asIntOf, h0, b3]
    · simp [Instr.sliceBounds, e1, e2, Instr.sliceBound, asIntOf, h0, b1, b2]
      have b4 : l ≤ h := hlh
      have e9 : max h 0 = h := by omega
      simp [e9]
      intro hbad
      omega
theorem flat_drop {sz : Nat} : ∀ {xs : List DVal} (_ : ∀ x ∈ xs, x.cells.length = sz) (l : Nat), (xs.drop l).flatMap DVal.cells = (xs.flatMap DVal.cells).drop (l * sz)
  | [], _, l => by simp
  | x :: r, hs, 0 => by simp
  | x :: r, hs, l + 1 => by
    have hx := hs x (by simp)
    simp only [List.drop_succ_cons, List.flatMap_cons]
    rw [flat_drop (fun y hy => hs y (List.mem_cons_of_mem _ hy)) l, Nat.succ_mul, Nat.add_comm, ← hx, List.drop_length_add_append]
theorem flat_take {sz : Nat} : ∀ {xs : List DVal} (_ : ∀ x ∈ xs, x.cells.length = sz) (l : Nat), (xs.take l).flatMap DVal.cells = (xs.flatMap DVal.cells).take (l * sz)
  | [], _, l => by simp
  | x :: r, hs, 0 => by simp
  | x :: r, hs, l + 1 => by
    have hx := hs x (by simp)
    simp only [List.take_succ_cons, List.flatMap_cons]
    rw [flat_take (fun y hy => hs y (List.mem_cons_of_mem _ hy)) l, Nat.succ_mul, Nat.add_comm, ← hx, List.take_length_add_append]
theorem Rd.part {bad : Nat → Prop} {w : World} {xs : List DVal} {a : Option Addr} {cap n l m : Nat} (h : Rd bad w (.list xs) (.slice a xs.length cap)) (hs : ∀ x ∈ xs, x.cells.length = n) (hlm : l + m ≤ xs.length) :
    Rd bad w (.list ((xs.drop l).take m)) (.slice (if cap = l then a else a.map (·.add (l * n))) m (cap - l)) := by
  generalize hG : Value.slice a xs.length cap = G at h
  cases h with
  | list hs' hc hw h1 h2 ha =>
    rename_i a' cap' sz b o f
    simp only [Value.slice.injEq] at hG
    obtain ⟨rfl, _, rfl⟩ := hG
    have hlen : ((xs.drop l).take m).length = m := by rw [List.length_take, List.length_drop]; omega
    have hss : ∀ x ∈ (xs.drop l).take m, x.cells.length = n := fun x hx => hs x (List.mem_of_mem_drop (List.mem_of_mem_take hx))
    have hfl : ((xs.drop l).take m).flatMap DVal.cells = ((xs.flatMap DVal.cells).drop (l * n)).take (m * n) := by
      rw [flat_take (fun x hx => hs x (List.mem_of_mem_drop hx)), flat_drop hs]
    have key : ∀ j c, (((xs.drop l).take m).flatMap DVal.cells)[j]? = some c → (xs.flatMap DVal.cells)[l * n + j]? = some c := fun j c hc => by
      rw [hfl, List.getElem?_take] at hc
      split at hc
      · rwa [List.getElem?_drop] at hc
      · cases hc
    have := Rd.list (bad := bad) (w := w) (xs := (xs.drop l).take m) (a := if cap = l then a else a.map (·.add (l * n))) (cap := cap - l) (sz := n) (b := b) (o := o + l * n) (f := fun j => f (l * n + j)) hss (by rw [hlen]; omega) (fun j hj => by
      have := hw _ (List.getElem?_eq_some_iff.1 (key j _ (List.getElem?_eq_getElem hj))).1
      rwa [← Nat.add_assoc] at this) (fun j hj => h1 _ (List.getElem?_eq_some_iff.1 (key j _ (List.getElem?_eq_getElem hj))).1) (fun j c hc => h2 _ c (key j c hc)) (fun hne => by
      have hm : m ≠ 0 := fun e => hne (by rw [e, List.take_zero])
      have hxs : xs ≠ [] := fun e => by rw [e] at hlm; simp at hlm; omega
      rw [if_neg (by omega), ha hxs]
      simp [Addr.addo])
    rw [hlen] at this
    exact this
theorem sliceL_ok {P : Program} {σ σ' : St} {o : Oper} {t : TypeId} {x : Operand} {lo hi : Option Operand} (ho : o.op = .slice t x lo hi none) (hd : okDst σ.n o.dst = true) (h : stSliceL P σ o.dst t (evO σ x) lo hi = some σ') : OpOk P o σ σ' := by
  intro E a w K hR
  unfold stSliceL at h
  obtain ⟨e, he, h⟩ := Option.bind_eq_some_iff.1 h
  obtain ⟨n, hn, h⟩ := Option.bind_eq_some_iff.1 h
  obtain ⟨⟨y, σ1⟩, hf, h⟩ := Option.bind_eq_some_iff.1 h
  obtain ⟨F, G⟩ := frzV_ok hR hf
  have hrd := G _ (hR.ev x)
  cases y with
  | list xs =>
    simp only at h
    obtain ⟨l, hl, h⟩ := Option.bind_eq_some_iff.1 h
    obtain ⟨hh, hhi, h⟩ := Option.bind_eq_some_iff.1 h
    cases hc : (decide (0 ≤ l) && decide (l ≤ hh) && decide (hh ≤ xs.length) && allLen n xs) with
    | false => rw [hc] at h; cases h
    | true =>
      rw [hc] at h
      simp only [cond_true, Option.some.injEq] at h
      subst h
      simp only [Bool.and_eq_true, decide_eq_true_eq] at hc
      obtain ⟨⟨⟨c1, c2⟩, c3⟩, c4⟩ := hc
      have hs := allLen_iff.1 c4
      obtain ⟨av, cap, hv, hcap⟩ : ∃ av cap, a.eval x = .slice av xs.length cap ∧ xs.length ≤ cap := by
        generalize hG : a.eval x = G at hrd
        cases hrd with
        | list _ hc => exact ⟨_, _, rfl, hc⟩
      rw [hv] at hrd
      have hb := run_sliceBounds (P := P) hR hl hhi c1 c2 c3 hcap
      refine ⟨.slice (if cap = l.toNat then av else av.map (·.add (l.toNat * n))) (hh.toNat - l.toNat) (cap - l.toNat), w, K, .inl ?_, (F.rel a hR).put_pure (by rw [F.n]; exact hd) (.d (hrd.part hs (by omega))) rfl⟩
      have hu := elemOf_eq he
      simp only [execOp, ho, Instr.sliceAt, Sem.run_bind, run_underlying hu, Result.andThen_ok, Instr.slice, hv, Option.map_none, hb, run_sizeOf hn, Sem.run_pure]
  | _ => simp at h
/-- A part of a text. -/
def optV (σ : St) : Option Operand → Option (Option Value)
  | none => some none
  | some x => (toV (evO σ x)).map some
noncomputable def sliceV (P : Program) (t : TypeId) (u : Value) (l h : Option Value) : Option Value := pr P (Instr.sliceAt t u l h none)
noncomputable def stSliceS (P : Program) (σ : St) (dst : Option Tmp) (t : TypeId) (x : AVal) (lo hi : Option Operand) : Option St :=
  (toV x).bind fun u => (optV σ lo).bind fun l => (optV σ hi).bind fun h => (sliceV P t u l h).map fun r => σ.put dst (ofConst r)
theorem optV_eq {E : Env} {σ : St} {a : Act} {w : World} {K : Kt} {x : Option Operand} {v : Option Value} (hR : Rel E σ a w K) (h : optV σ x = some v) : x.map a.eval = v := by
  cases x with
  | none => simp only [optV, Option.some.injEq] at h; subst h; rfl
  | some y =>
    simp only [optV] at h
    obtain ⟨u, hu, rfl⟩ := Option.map_eq_some_iff.1 h
    simp [toV_eq hu (hR.ev y)]
theorem sliceS_ok {P : Program} {σ σ' : St} {o : Oper} {t : TypeId} {x : Operand} {lo hi : Option Operand} (ho : o.op = .slice t x lo hi none) (hd : okDst σ.n o.dst = true) (h : stSliceS P σ o.dst t (evO σ x) lo hi = some σ') : OpOk P o σ σ' := by
  intro E a w K hR
  unfold stSliceS at h
  obtain ⟨u, hu, h⟩ := Option.bind_eq_some_iff.1 h
  obtain ⟨l, hl, h⟩ := Option.bind_eq_some_iff.1 h
  obtain ⟨hh, hhi, h⟩ := Option.bind_eq_some_iff.1 h
  obtain ⟨r, hr, rfl⟩ := Option.map_eq_some_iff.1 h
  refine ⟨r, w, K, .inl ?_, hR.put_pure hd (Rv.const r) (bel_const _ r)⟩
  simp only [execOp, ho, toV_eq hu (hR.ev x), optV_eq hR hl, optV_eq hR hhi, Option.map_none]
  simp [pr_run P _ r w hr]

/-! ### Texts and bytes -/
def isU8 (P : Program) (t : TypeId) : Bool := match P.underlying t with | some (.slice e) => (match P.underlying e with | some (.int .u8) => true | _ => false) | _ => false
def isStr (P : Program) (t : TypeId) : Bool := match P.underlying t with | some .string => true | _ => false
theorem isU8_eq {P : Program} {t : TypeId} (h : isU8 P t = true) : ∃ e, P.underlying t = some (.slice e) ∧ P.underlying e = some (.int .u8) := by
  unfold isU8 at h
  split at h
  · split at h
    · exact ⟨_, by assumption, by assumption⟩
    · cases h
  · cases h
theorem isStr_eq {P : Program} {t : TypeId} (h : isStr P t = true) : P.underlying t = some .string := by
  unfold isStr at h
  split at h
  · assumption
  · cases h
def stToBytes (P : Program) (σ : St) (d : Nat) (src dst : TypeId) (x : AVal) : Option St :=
  match x with
  | .d (.v (.string s)) => bif isStr P src && isU8 P dst then some (σ.alloc d (.arr 1 (s.data.toList.map byteD)) (.ref σ.lev d s.size)) else none
  | _ => none
theorem flat_bytes (l : List UInt8) : (l.map byteD).flatMap DVal.cells = l.map byteD := by
  induction l with
  | nil => rfl
  | cons c r ih => simp [List.flatMap_cons, ih, byteD, DVal.cells]
theorem toBytes_ok {P : Program} {σ σ' : St} {o : Oper} {src dst : TypeId} {x : Operand} {d : Nat} (ho : o.op = .convert src dst x) (hdd : o.dst = some d) (hd : okDst σ.n o.dst = true) (h : stToBytes P σ d src dst (evO σ x) = some σ') : OpOk P o σ σ' := by
  intro E a w K hR
  have hx := hR.ev x
  unfold stToBytes at h
  rw [hdd] at hd ⊢
  split at h
  · rename_i s he
    rw [he] at hx
    have hv : a.eval x = .string s := toV_eq (x := .d (.v (.string s))) rfl hx
    cases hc : (isStr P src && isU8 P dst) with
    | false => rw [hc] at h; cases h
    | true =>
      rw [hc] at h
      simp only [cond_true, Option.some.injEq] at h
      subst h
      simp only [Bool.and_eq_true] at hc
      obtain ⟨e, h1, h2⟩ := isU8_eq hc.2
      have hrun := run_bytes_of_string (P := P) w src dst e s (isStr_eq hc.1) h1 h2
      have hsl : (s.data.toList.map byteD).length = s.size := by simp
      have hge := grownCap_ge w s.size 0 e
      have hbl : (bytesRow s (grownCap w s.size 0 e)).size = grownCap w s.size 0 e := by
        simp only [bytesRow, Array.size_append, Array.size_map, Array.size_replicate]
        have : s.data.size = s.size := rfl
        omega
      obtain ⟨K', hK'⟩ := hR.arr (d := d) (sz := 1) (xs := s.data.toList.map byteD) (ad := some ⟨w.heap.size, 0, none⟩) (cap := grownCap w s.size 0 e)
        (w' := w.drew.alloc (.cells (bytesRow s (grownCap w s.size 0 e)) e ((bytesRow s (grownCap w s.size 0 e)).size, (bytesRow s (grownCap w s.size 0 e)).size + 1))) hd (Ch.none_trans (Ch.drew w) (Ch.alloc _ _))
        (fun y hy => by obtain ⟨c, _, rfl⟩ := List.mem_map.1 hy; rfl) (by rw [hsl]; exact hge)
        ⟨rfl, (bytesRow s (grownCap w s.size 0 e)).toList, e, ((bytesRow s (grownCap w s.size 0 e)).size, (bytesRow s (grownCap w s.size 0 e)).size + 1), by rw [← heap_alloc_new w.drew]; rfl, by simp only [Array.length_toList]; omega, by simp only [Array.length_toList]; omega, fun j c hcj => by
          rw [flat_bytes, List.getElem?_map] at hcj
          obtain ⟨q, hq, rfl⟩ := Option.map_eq_some_iff.1 hcj
          refine ⟨.int .u8 q.toNat, ?_, rfl, .v rfl⟩
          have hlt := (List.getElem?_eq_some_iff.1 hq).1
          simp only [bytesRow, Array.toList_append, Array.toList_map, Nat.zero_add]
          rw [List.getElem?_append_left (by simpa using hlt), List.getElem?_map, hq]
          rfl⟩ (by simp)
      rw [hsl] at hK'
      exact ⟨_, _, K', .inl (by simp only [execOp, ho, hv]; simp [hrun]), hK'⟩
  · cases h
def bytesOf : List DVal → Option (List UInt8)
  | [] => some []
  | .v (.int .u8 n) :: r => (bytesOf r).bind fun bs => bif decide (0 ≤ n) && decide (n < 256) then some (UInt8.ofNat n.toNat :: bs) else none
  | _ :: _ => none
theorem bytesOf_eq : ∀ {ys : List DVal} {bs : List UInt8}, bytesOf ys = some bs → ys = bs.map byteD
  | [], bs, h => by simp only [bytesOf, Option.some.injEq] at h; subst h; rfl
  | y :: r, bs, h => by
    unfold bytesOf at h
    split at h
    · rename_i e; cases e
    · rename_i n r' e
      simp only [List.cons.injEq] at e
      obtain ⟨rfl, rfl⟩ := e
      obtain ⟨bs', h1, h2⟩ := Option.bind_eq_some_iff.1 h
      cases hc : (decide (0 ≤ n) && decide (n < 256)) with
      | false => rw [hc] at h2; cases h2
      | true =>
        rw [hc] at h2
        simp only [cond_true, Option.some.injEq] at h2
        subst h2
        simp only [Bool.and_eq_true, decide_eq_true_eq] at hc
        rw [bytesOf_eq h1]
        simp only [List.map_cons, byteD, List.cons.injEq, and_true, DVal.v.injEq, Value.int.injEq, true_and]
        rw [UInt8.toNat_ofNat_of_lt' (by simp; omega)]
        omega
    · cases h
theorem bytesOf_map (bs : List UInt8) : bytesOf (bs.map byteD) = some bs := by
  induction bs with
  | nil => rfl
  | cons b r ih =>
    have := b.toNat_lt
    simp only [List.map_cons, byteD, bytesOf]
    rw [ih]
    have h256 : (b.toNat : Int) < 256 := by simp at this; omega
    simp [h256]
def stToStr (P : Program) (σ : St) (dst : Option Tmp) (src ty : TypeId) (x : AVal) : Option St :=
  (srcL σ x).bind fun ys => (bytesOf ys).bind fun bs => bif isU8 P src && isStr P ty && (match x with | .d (.v _) => false | _ => true) then some (σ.put dst (.d (.v (.string ⟨bs.toArray⟩)))) else none
theorem srcL_len {σ : St} {x : AVal} {ys : List DVal} (h : srcL σ x = some ys) (hn : ∀ s, x ≠ .d (.v s)) : lenA x = some ys.length := by
  unfold srcL at h
  split at h
  · simp only [Option.some.injEq] at h; subst h; rfl
  · exact (hn _ rfl).elim
  · simp only [Option.some.injEq] at h; subst h; rfl
  · rename_i l t n
    split at h
    · rename_i sz xs e
      cases hc : Nat.beq n xs.length with
      | false => rw [hc] at h; cases h
      | true => rw [hc] at h; simp only [cond_true, Option.some.injEq] at h; subst h; rw [beq_eq hc]; rfl
    · rename_i xs e
      cases hc : Nat.beq n xs.length with
      | false => rw [hc] at h; cases h
      | true => rw [hc] at h; simp only [cond_true, Option.some.injEq] at h; subst h; rw [beq_eq hc]; rfl
    · cases h
  · cases h
theorem toStr_ok {P : Program} {σ σ' : St} {o : Oper} {src ty : TypeId} {x : Operand} (ho : o.op = .convert src ty x) (hd : okDst σ.n o.dst = true) (h : stToStr P σ o.dst src ty (evO σ x) = some σ') : OpOk P o σ σ' := by
  intro E a w K hR
  unfold stToStr at h
  obtain ⟨ys, hys, h⟩ := Option.bind_eq_some_iff.1 h
  obtain ⟨bs, hbs, h⟩ := Option.bind_eq_some_iff.1 h
  have hx := hR.ev x
  have hys0 := bytesOf_eq hbs
  clear hbs
  cases hc : (isU8 P src && isStr P ty && (match evO σ x with | .d (.v _) => false | _ => true)) with
  | false => rw [hc] at h; cases h
  | true =>
    rw [hc] at h
    simp only [cond_true, Option.some.injEq] at h
    subst h
    subst hys0
    simp only [Bool.and_eq_true] at hc
    obtain ⟨⟨c1, c2⟩, c3⟩ := hc
    have hne : ∀ s, evO σ x ≠ .d (.v s) := fun s e => by rw [e] at c3; cases c3
    obtain ⟨av, cap, hv⟩ := lenA_eq (srcL_len hys hne) hx
    obtain ⟨vs, hS⟩ := src_ok (P := P) (n := 1) hR hys hx (fun y hy => by obtain ⟨c, _, rfl⟩ := List.mem_map.1 hy; rfl)
    have hvs : vs = bs.map fun b => .int .u8 (b.toNat : Int) := by
      have hrel := hS.rel
      rw [flat_bytes] at hrel
      apply List.ext_getElem?
      intro j
      rcases Nat.lt_or_ge j vs.length with q | q
      · have hl := hrel.1
        rw [List.length_map] at hl
        have hb : j < bs.length := by omega
        have := hrel.2 j _ _ (List.getElem?_eq_getElem (by simpa using hb)) (List.getElem?_eq_getElem q)
        rw [List.getElem_map] at this
        rw [List.getElem?_eq_getElem q, List.getElem?_map, List.getElem?_eq_getElem hb]
        generalize vs[j] = u at this
        cases this
        rfl
      · have hl := hrel.1
        rw [List.length_map] at hl
        rw [List.getElem?_eq_none q, List.getElem?_eq_none (by simp; omega)]
    obtain ⟨e, h1, h2⟩ := isU8_eq c1
    have hrun : (convert src ty (a.eval x)).run P w = .ok (.string ⟨bs.toArray⟩) w := by
      rw [hv, run_convert_bytes_string w src ty e _ _ _ h1 h2 (isStr_eq c2)]
      have hr := hS.run w rfl
      rw [hv] at hr
      cases av with
      | none =>
        simp only [Builtin.firstCells, Sem.run_pure, Result.ok.injEq, and_true] at hr
        have : vs = [] := by
          have := congrArg Array.toList hr
          simpa using this.symm
        rw [this] at hvs
        have hb0 : bs = [] := by
          cases bs with
          | nil => rfl
          | cons _ _ => simp at hvs
        subst hb0
        rfl
      | some ad =>
        simp only [Builtin.firstCells, List.length_map, Nat.mul_one] at hr
        rw [hvs] at hr
        have hl : (loadCells ad bs.length).run P w = .ok ((bs.map (fun b => (b.toNat : Int))).map (Value.int .u8)).toArray w := by
          rw [hr]
          simp [List.map_map, Function.comp_def]
        rw [List.length_map, run_bytesToString w ad bs.length cap _ hl, foldl_push_byteCells]
        have he0 : ByteArray.empty.data = #[] := rfl
        rw [he0]
        simp
    exact ⟨_, w, K, .inl (by simp only [execOp, ho]; simp [hrun]), hR.put_pure hd (.d (.v rfl)) rfl⟩
end Go.Fw
