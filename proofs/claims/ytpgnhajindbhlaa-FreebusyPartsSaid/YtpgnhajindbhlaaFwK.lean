/- Literals of structs and slices; made slices. -/
import Derived.Test.YtpgnhajindbhlaaFwJ
import Derived.Laws.Tables
import Derived.Great.FillDense
import Derived.Laws.MakeOwn
set_option autoImplicit false
namespace Go.Fw
def fillD (place : Nat → Option (Nat × Nat)) : List DVal → List (Nat × DVal) → Option (List DVal)
  | cs, [] => some cs
  | cs, (i, y) :: r =>
    match place i with
    | none => none
    | some (off, size) => bif Nat.beq y.cells.length size && Nat.ble (off + size) cs.length then fillD place (cs.take off ++ y.cells ++ cs.drop (off + size)) r else none
theorem foldl_seg (off : Nat) (l : List Value) (cs : Array Value) (h : off + l.length ≤ cs.size) :
    ((l.zipIdx 0).foldl (fun cs (x : Value × Nat) => cs.setIfInBounds (off + x.2) x.1) cs).toList = cs.toList.take off ++ l ++ cs.toList.drop (off + l.length) := by
  obtain ⟨h1, h2⟩ := Great.foldl_set off l 0 cs
  apply List.ext_getElem?
  intro k
  rw [Array.getElem?_toList, h2 k]
  have ht : (cs.toList.take off).length = off := by rw [List.length_take, Array.length_toList]; omega
  by_cases hk : off + 0 ≤ k ∧ k < off + 0 + l.length ∧ k < cs.size
  · rw [if_pos hk, List.append_assoc, List.getElem?_append_right (by omega), List.getElem?_append_left (by omega), ht]
    congr 1
  · rw [if_neg hk]
    rcases Nat.lt_or_ge k off with q | q
    · rw [List.append_assoc, List.getElem?_append_left (by omega), List.getElem?_take_of_lt q, Array.getElem?_toList]
    · rcases Nat.lt_or_ge k (off + l.length) with q2 | q2
      · omega
      · rw [List.getElem?_append_right (by rw [List.length_append]; omega), List.length_append, ht, List.getElem?_drop, Array.getElem?_toList]
        congr 1
        omega
theorem fill_ok {bad : Nat → Prop} {w : World} {place : Nat → Option (Nat × Nat)} : ∀ (ps : List (Nat × DVal)) (pvs : List (Nat × Value)) (cs cs' : List DVal) (vs : Array Value), P2 (Rd bad w) cs vs.toList → (∀ u ∈ vs.toList, u.oneCell' = true) →
    P2 (fun p q => q.1 = p.1 ∧ Rd bad w p.2 q.2) ps pvs → fillD place cs ps = some cs' → ∃ vs', Instr.fill place vs pvs = some vs' ∧ P2 (Rd bad w) cs' vs'.toList ∧ (∀ u ∈ vs'.toList, u.oneCell' = true)
  | [], pvs, cs, cs', vs, hp, h1, hq, h => by
    obtain rfl : pvs = [] := List.length_eq_zero_iff.1 (by simpa using hq.1)
    simp only [fillD, Option.some.injEq] at h
    subst h
    exact ⟨vs, rfl, hp, h1⟩
  | (i, y) :: r, pvs, cs, cs', vs, hp, h1, hq, h => by
    cases pvs with
    | nil => have := hq.1; simp at this
    | cons q qs =>
      obtain ⟨i', v⟩ := q
      obtain ⟨h0, hrd⟩ := hq.2 0 (i, y) (i', v) rfl rfl
      simp only at h0 hrd
      subst h0
      simp only [fillD] at h
      cases hpl : place i' with
      | none => rw [hpl] at h; cases h
      | some p =>
        obtain ⟨off, size⟩ := p
        rw [hpl] at h
        simp only at h
        cases hc : (Nat.beq y.cells.length size && Nat.ble (off + size) cs.length) with
        | false => rw [hc] at h; cases h
        | true =>
          rw [hc] at h
          simp only [cond_true] at h
          simp only [Bool.and_eq_true] at hc
          have e1 := beq_eq hc.1
          have e2 := Nat.le_of_ble_eq_true hc.2
          obtain ⟨hP, hone⟩ := cells_of_rd hrd
          have hlv : v.cells.toList.length = size := by rw [hP.1, e1]
          have hvs : vs.size = cs.length := by have := hp.1; simpa using this
          have hseg := foldl_seg off v.cells.toList vs (by rw [hlv]; omega)
          rw [hlv] at hseg
          have hfold : v.cells.zipIdx.foldl (fun cs x => cs.setIfInBounds (off + x.2) x.1) vs = (v.cells.toList.zipIdx 0).foldl (fun cs (x : Value × Nat) => cs.setIfInBounds (off + x.2) x.1) vs := by
            rw [← Array.foldl_toList, Array.toList_zipIdx]
          obtain ⟨vs', g1, g2, g3⟩ := fill_ok r qs _ cs' _ (by rw [hseg]; exact ((hp.take off).append hP).append (hp.drop (off + size))) (by
            rw [hseg]
            intro u hu
            simp only [List.mem_append] at hu
            rcases hu with (hu | hu) | hu
            · exact h1 u (List.mem_of_mem_take hu)
            · obtain ⟨j, hj⟩ := List.mem_iff_getElem?.1 hu
              exact hone j u hj
            · exact h1 u (List.mem_of_mem_drop hu)) ⟨by have := hq.1; simpa using this, fun j a b ha hb => hq.2 (j + 1) a b (by simpa using ha) (by simpa using hb)⟩ h
          refine ⟨vs', ?_, g2, g3⟩
          unfold Instr.fill
          simp only [hpl]
          have hsz : v.cells.size = size := by simpa using hlv
          rw [if_neg (by simp only [hsz, ne_eq, not_true_eq_false, Bool.or_eq_true, decide_eq_true_eq, false_or]; simp; omega), hfold]
          exact g1

theorem P2.const {bad : Nat → Prop} {w : World} {vs : List Value} (h : ∀ u ∈ vs, u.oneCell' = true) : P2 (Rd bad w) (vs.map constD) vs := by
  refine ⟨by simp, fun j c u hc hu => ?_⟩
  rw [List.getElem?_map, hu] at hc
  simp only [Option.map_some, Option.some.injEq] at hc
  subst hc
  exact Rd.const (h u (List.mem_of_getElem? hu))
def placesOf (P : Program) (t : TypeId) : Option (List (Nat × Nat)) :=
  match P.underlying t with
  | some (.struct fs) => fs.toList.mapM fun f => (P.info? f.type).map fun i => (f.offset, i.size)
  | _ => none
def zipI (ps : List (Nat × Operand)) (ys : List DVal) : List (Nat × DVal) := (ps.map (·.1)).zip ys
def stBuild (P : Program) (σ : St) (dst : Option Tmp) (t : TypeId) (parts : Array (Nat × Operand)) : Option St :=
  (zeroC P t).bind fun zs => (placesOf P t).bind fun places => (frzL σ (parts.toList.map fun p => evO σ p.2)).bind fun q =>
  bif zs.all (·.oneCell') then (fillD (places[·]?) (zs.map constD) (zipI parts.toList q.1)).map fun cs => q.2.put dst (.d (.agg cs)) else none
theorem parts_rel {E : Env} {σ σ1 : St} {a : Act} {w : World} {K : Kt} {parts : List (Nat × Operand)} {ys : List DVal} (hR : Rel E σ a w K) (hq : frzL σ (parts.map fun p => evO σ p.2) = some (ys, σ1)) :
    Frz E w K σ σ1 ∧ P2 (fun p q => q.1 = p.1 ∧ Rd (badOf E.S0 K σ1.H) w p.2 q.2) (zipI parts ys) (parts.map fun p => (p.1, a.eval p.2)) := by
  obtain ⟨F, hl, G⟩ := frzL_ok hR hq
  simp only [List.length_map] at hl
  refine ⟨F, by simp [zipI, hl], fun j x y hx hy => ?_⟩
  rw [zipI, List.getElem?_zip_eq_some, List.getElem?_map] at hx
  obtain ⟨hx1, hx2⟩ := hx
  obtain ⟨p, hp, hp1⟩ := Option.map_eq_some_iff.1 hx1
  rw [List.getElem?_map, hp] at hy
  simp only [Option.map_some, Option.some.injEq] at hy
  subst hy
  exact ⟨hp1, G j _ x.2 _ (by rw [List.getElem?_map, hp]; rfl) hx2 (hR.ev p.2)⟩
theorem build_ok {P : Program} {σ σ' : St} {o : Oper} {t : TypeId} {parts : Array (Nat × Operand)} (ho : o.op = .build t parts) (hd : okDst σ.n o.dst = true) (h : stBuild P σ o.dst t parts = some σ') : OpOk P o σ σ' := by
  intro E a w K hR
  unfold stBuild at h
  obtain ⟨zs, hzs, h⟩ := Option.bind_eq_some_iff.1 h
  obtain ⟨places, hpl, h⟩ := Option.bind_eq_some_iff.1 h
  obtain ⟨⟨ys, σ1⟩, hq, h⟩ := Option.bind_eq_some_iff.1 h
  cases hall : zs.all (·.oneCell') with
  | false => rw [hall] at h; cases h
  | true =>
    rw [hall] at h
    simp only [cond_true] at h
    obtain ⟨cs, hcs, rfl⟩ := Option.map_eq_some_iff.1 h
    obtain ⟨F, hp⟩ := parts_rel hR hq
    obtain ⟨z, hz, rfl⟩ := Option.map_eq_some_iff.1 hzs
    obtain ⟨it, hit, hitz⟩ := Option.bind_eq_some_iff.1 hz
    have h1 : ∀ u ∈ z.cells.toList, u.oneCell' = true := List.all_eq_true.1 hall
    obtain ⟨vs', g1, g2, g3⟩ := fill_ok _ _ _ cs z.cells (P2.const h1) h1 hp hcs
    have hb : P.built t (parts.map fun (i, x) => (i, a.eval x)).toList = some vs' := by
      unfold placesOf at hpl
      unfold Program.built
      cases hu : P.underlying t with
      | none => rw [hu] at hpl; cases hpl
      | some d =>
        rw [hu] at hpl
        cases d with
        | struct fs =>
          simp only at hpl
          simp only [hit, hitz, hpl]
          have e : (fun x : Nat => places.toArray[x]?) = fun x => places[x]? := by funext x; simp
          rw [e, Array.toList_map]
          exact g1
        | _ => cases hpl
    have hrun := run_build (P := P) w t _ vs' hb
    refine ⟨.agg vs', w, K, .inl ?_, (F.rel a hR).put_pure (by rw [F.n]; exact hd) (.d ?_) rfl⟩
    · simp only [execOp, ho]
      simp [hrun]
    · have := Rd.agg (bad := badOf E.S0 K σ1.H) (w := w) (cs := cs) (vs := vs'.toList) g2.1 (fun j x hx => g3 x (List.mem_of_getElem? hx)) g2.2
      simpa using this

def zeroD (z : Value) : DVal := match z with | .agg cs => .agg (cs.toList.map constD) | z => constD z
def setAll : List DVal → List (Nat × DVal) → List DVal
  | es, [] => es
  | es, (i, y) :: r => setAll (es.set i y) r
def stBuildSlice (P : Program) (σ : St) (d : Nat) (t : TypeId) (len : Nat) (parts : Array (Nat × Operand)) : Option St :=
  (elemOf' P t).bind fun e => (P.info? e).bind fun i => (i.zero).bind fun z => (frzL σ (parts.toList.map fun p => evO σ p.2)).bind fun q =>
  bif z.cells.toList.all (·.oneCell') && Nat.beq z.cells.size i.size && Nat.blt 0 i.size && Nat.ble (len * i.size) 16777216 && (zipI parts.toList q.1).all (fun p => Nat.blt p.1 len && Nat.beq p.2.cells.length i.size) then
    (let es := setAll (List.replicate len (zeroD z)) (zipI parts.toList q.1)
     some (q.2.alloc d (.arr i.size es) (.ref q.2.lev d len))) else none
theorem zeroD_cells {z : Value} (h : z.cells.toList.all (·.oneCell') = true) : (zeroD z).cells = z.cells.toList.map constD := by
  unfold zeroD
  cases z with
  | agg cs => rfl
  | slice a n c =>
    have : (Value.slice a n c).cells.toList = [.slice a n c] := rfl
    rw [this]
    simp only [List.map_cons, List.map_nil]
    unfold constD
    split <;> rfl
  | _ => rfl
theorem setAll_len : ∀ (ps : List (Nat × DVal)) (es : List DVal), (setAll es ps).length = es.length
  | [], _ => rfl
  | (i, y) :: r, es => by rw [setAll, setAll_len r]; simp
theorem setAll_fill {sz : Nat} : ∀ (ps : List (Nat × DVal)) (es : List DVal), (∀ x ∈ es, x.cells.length = sz) → (∀ p ∈ ps, p.1 < es.length ∧ p.2.cells.length = sz) →
    fillD (fun i => some (i * sz, sz)) (es.flatMap DVal.cells) ps = some ((setAll es ps).flatMap DVal.cells) ∧ (∀ x ∈ setAll es ps, x.cells.length = sz)
  | [], es, hs, _ => ⟨rfl, hs⟩
  | (i, y) :: r, es, hs, hp => by
    obtain ⟨h1, h2⟩ := hp (i, y) (by simp)
    simp only at h1 h2
    have hi : es[i]? = some es[i] := List.getElem?_eq_getElem h1
    have hset := flat_set (e' := y) hs hi 0 y.cells (by omega) (by
      have hh := hs es[i] (List.getElem_mem h1)
      rw [List.take_zero, List.drop_of_length_le (by omega)]
      simp)
    have hs' : ∀ x ∈ es.set i y, x.cells.length = sz := fun x hx => by
      rcases List.mem_or_eq_of_mem_set hx with hx | hx
      · exact hs x hx
      · subst hx; exact h2
    obtain ⟨g1, g2⟩ := setAll_fill r (es.set i y) hs' (fun p hp' => by
      have := hp p (List.mem_cons_of_mem _ hp')
      simpa using this)
    refine ⟨?_, g2⟩
    have hmul : i * sz + sz ≤ es.length * sz := by
      have := Nat.mul_le_mul_right sz h1
      rwa [Nat.succ_mul] at this
    simp only [fillD]
    have hc : (Nat.beq y.cells.length sz && Nat.ble (i * sz + sz) (es.flatMap DVal.cells).length) = true := by
      rw [h2, flat_len hs]
      simp [Nat.ble_eq]
      omega
    rw [hc]
    simp only [cond_true]
    rw [Nat.add_zero, h2] at hset
    rw [← hset]
    exact g1
theorem flat_replicate (z : DVal) : ∀ n, (List.replicate n z).flatMap DVal.cells = (List.replicate n z.cells).flatten
  | 0 => rfl
  | n + 1 => by simp [List.replicate_succ, flat_replicate z n]
theorem flatten_get (l : List Value) : ∀ (n k : Nat), k < n * l.length → (List.replicate n l).flatten[k]? = l[k % l.length]?
  | 0, k, h => by simp at h
  | n + 1, k, h => by
    rw [List.replicate_succ, List.flatten_cons]
    rcases Nat.lt_or_ge k l.length with q | q
    · rw [List.getElem?_append_left q, Nat.mod_eq_of_lt q]
    · rw [List.getElem?_append_right q, flatten_get l n (k - l.length) (by rw [Nat.succ_mul] at h; omega), ← Nat.mod_eq_sub_mod q]
theorem range_zero (z : Array Value) (n : Nat) (h0 : 0 < z.size) : ((Array.range (n * z.size)).map (z[· % z.size]!)).toList = (List.replicate n z.toList).flatten := by
  apply List.ext_getElem?
  intro k
  rcases Nat.lt_or_ge k (n * z.size) with q | q
  · rw [flatten_get _ _ _ (by simpa using q)]
    have hm := Nat.mod_lt k h0
    simp [q]
    rw [getElem!_pos z (k % z.size) hm, Array.getElem?_eq_getElem hm]
  · have e : (List.replicate n z.toList).flatten.length = n * z.size := by simp
    rw [List.getElem?_eq_none (by simpa using q), List.getElem?_eq_none (by omega)]
theorem map_flatten_replicate {α β : Type} (f : α → β) (l : List α) (n : Nat) : (List.replicate n l).flatten.map f = (List.replicate n (l.map f)).flatten := by
  simp [List.map_flatten]
theorem buildSlice_ok {P : Program} {σ σ' : St} {o : Oper} {t : TypeId} {len d : Nat} {parts : Array (Nat × Operand)} (ho : o.op = .buildSlice t len parts) (hdd : o.dst = some d) (hd : okDst σ.n o.dst = true) (h : stBuildSlice P σ d t len parts = some σ') : OpOk P o σ σ' := by
  intro E a w K hR
  unfold stBuildSlice at h
  obtain ⟨e, he, h⟩ := Option.bind_eq_some_iff.1 h
  obtain ⟨i, hi, h⟩ := Option.bind_eq_some_iff.1 h
  obtain ⟨z, hz, h⟩ := Option.bind_eq_some_iff.1 h
  obtain ⟨⟨ys, σ1⟩, hq, h⟩ := Option.bind_eq_some_iff.1 h
  simp only at h
  rw [hdd] at hd ⊢
  cases hc : (z.cells.toList.all (·.oneCell') && Nat.beq z.cells.size i.size && Nat.blt 0 i.size && Nat.ble (len * i.size) 16777216 && (zipI parts.toList ys).all (fun p => Nat.blt p.1 len && Nat.beq p.2.cells.length i.size)) with
  | false => rw [hc] at h; cases h
  | true =>
    rw [hc] at h
    simp only [cond_true, Option.some.injEq] at h
    subst h
    simp only [Bool.and_eq_true] at hc
    obtain ⟨⟨⟨⟨c1, c2⟩, c3⟩, c4⟩, c5⟩ := hc
    have hzs := beq_eq c2
    have hpos : 0 < i.size := by simpa [Nat.blt_eq] using c3
    have hle := Nat.le_of_ble_eq_true c4
    obtain ⟨F, hp⟩ := parts_rel hR hq
    have h1 : ∀ u ∈ z.cells.toList, u.oneCell' = true := List.all_eq_true.1 c1
    have hzc := zeroD_cells c1
    have hes : ∀ x ∈ List.replicate len (zeroD z), x.cells.length = i.size := fun x hx => by
      rw [List.eq_of_mem_replicate hx, hzc]
      simpa using hzs
    obtain ⟨g1, g2⟩ := setAll_fill (sz := i.size) (zipI parts.toList ys) (List.replicate len (zeroD z)) hes (fun p hp' => by
      have := List.all_eq_true.1 c5 p hp'
      simp only [Bool.and_eq_true, Nat.blt_eq] at this
      exact ⟨by simpa using this.1, beq_eq this.2⟩)
    have hsl := setAll_len (zipI parts.toList ys) (List.replicate len (zeroD z))
    rw [List.length_replicate] at hsl
    have hz0 : ∀ u ∈ (List.replicate len z.cells.toList).flatten, u.oneCell' = true := fun u hu => by
      obtain ⟨l, hl, hul⟩ := List.mem_flatten.1 hu
      rw [List.eq_of_mem_replicate hl] at hul
      exact h1 u hul
    have hrng := range_zero z.cells len (by omega)
    rw [hzs] at hrng
    have hP0 : P2 (Rd (badOf E.S0 K σ1.H) w) ((List.replicate len (zeroD z)).flatMap DVal.cells) ((Array.range (len * i.size)).map (z.cells[· % z.cells.size]!)).toList := by
      rw [hzs, hrng, flat_replicate, hzc, ← map_flatten_replicate]
      exact P2.const hz0
    have hone0 : ∀ u ∈ ((Array.range (len * i.size)).map (z.cells[· % z.cells.size]!)).toList, u.oneCell' = true := by
      rw [hzs, hrng]; exact hz0
    obtain ⟨vs', f1, f2, f3⟩ := fill_ok _ _ _ _ _ hP0 hone0 hp g1
    have hrun : (Instr.buildSlice t len (parts.map fun (i, x) => (i, a.eval x))).run P w = .ok (.slice (some ⟨w.heap.size, 0, none⟩) len len) (w.alloc (.cells vs' e)) := by
      have hsmall : ¬ 16777216 < len * i.size := by omega
      have f1' : Instr.fill (fun j => some (j * i.size, i.size)) ((Array.range (len * i.size)).map (z.cells[· % z.cells.size]!)) (parts.map fun (i, x) => (i, a.eval x)).toList = some vs' := by
        rw [Array.toList_map]; exact f1
      by_cases h0 : len * i.size = 0
      · have e0 : (Array.range (len * i.size)).map (z.cells[· % z.cells.size]!) = #[] := by
          apply Array.ext'
          simp [h0]
        rw [e0] at f1'
        simp only [Instr.buildSlice, Sem.run_bind, run_underlying (elemOf_eq he), Result.andThen_ok]
        simp [sizeOf, typeInfo, hi, h0]
        simp only [Array.toList_map] at f1'
        have e9 : (Array.range 0).map (fun _ => (default : Value)) = #[] := by
          apply Array.ext'
          simp
        simp [e9, f1', newRow]
      · simp only [Instr.buildSlice, Sem.run_bind, run_underlying (elemOf_eq he), Result.andThen_ok]
        simp [sizeOf, typeInfo, zeroValue, hi, hz, hsmall, h0]
        simp only [Array.toList_map] at f1'
        simp [f1', newRow]
    have hR1 := F.rel a hR
    have hf2l : vs'.toList.length = len * i.size := by rw [f2.1, flat_len g2, hsl]
    obtain ⟨K', hK'⟩ := hR1.arr (d := d) (sz := i.size) (xs := setAll (List.replicate len (zeroD z)) (zipI parts.toList ys)) (ad := some ⟨w.heap.size, 0, none⟩) (cap := len) (w' := w.alloc (.cells vs' e)) (by rw [F.n]; exact hd) (Ch.alloc _ _) g2 (by omega)
      ⟨rfl, vs'.toList, e, (0, 0), by rw [heap_alloc_new], by simp, by simp only; omega, fun j c hcj => by
        have hlt : j < vs'.toList.length := by rw [f2.1]; exact (List.getElem?_eq_some_iff.1 hcj).1
        exact ⟨vs'.toList[j], by rw [Nat.zero_add, List.getElem?_eq_getElem hlt], f3 _ (List.getElem_mem hlt), f2.2 j c _ hcj (List.getElem?_eq_getElem hlt)⟩⟩ (by simp)
    rw [hsl] at hK'
    exact ⟨_, _, K', .inl (by simp only [execOp, ho]; simp [hrun]), hK'⟩

def stMakeSlice (P : Program) (σ : St) (d : Nat) (t : TypeId) (l c : AVal) : Option St :=
  (elemOf' P t).bind fun e => (P.info? e).bind fun i => (i.zero).bind fun z => (intOfA l).bind fun n => (intOfA c).bind fun m =>
  bif z.cells.toList.all (·.oneCell') && Nat.beq z.cells.size i.size && Nat.blt 0 i.size && decide (0 ≤ n) && decide (n ≤ m) && decide ((i.bytes : Int) * m ≤ 140737488355328) && decide (m ≤ 140737488355328) then
    some (σ.alloc d (.arr i.size (List.replicate n.toNat (zeroD z))) (.ref σ.lev d n.toNat)) else none
theorem makeSlice_ok {P : Program} {σ σ' : St} {o : Oper} {t : TypeId} {d : Nat} {l c : Operand} (ho : o.op = .makeSlice t l c) (hdd : o.dst = some d) (hd : okDst σ.n o.dst = true) (h : stMakeSlice P σ d t (evO σ l) (evO σ c) = some σ') : OpOk P o σ σ' := by
  intro E a w K hR
  unfold stMakeSlice at h
  obtain ⟨e, he, h⟩ := Option.bind_eq_some_iff.1 h
  obtain ⟨i, hi, h⟩ := Option.bind_eq_some_iff.1 h
  obtain ⟨z, hz, h⟩ := Option.bind_eq_some_iff.1 h
  obtain ⟨n, hn, h⟩ := Option.bind_eq_some_iff.1 h
  obtain ⟨m, hm, h⟩ := Option.bind_eq_some_iff.1 h
  obtain ⟨kl, hl⟩ := intOfA_eq hn (hR.ev l)
  obtain ⟨kc, hcc⟩ := intOfA_eq hm (hR.ev c)
  rw [hdd] at hd ⊢
  cases hc : (z.cells.toList.all (·.oneCell') && Nat.beq z.cells.size i.size && Nat.blt 0 i.size && decide (0 ≤ n) && decide (n ≤ m) && decide ((i.bytes : Int) * m ≤ 140737488355328) && decide (m ≤ 140737488355328)) with
  | false => rw [hc] at h; cases h
  | true =>
    rw [hc] at h
    simp only [cond_true, Option.some.injEq] at h
    subst h
    simp only [Bool.and_eq_true, decide_eq_true_eq] at hc
    obtain ⟨⟨⟨⟨⟨⟨c1, c2⟩, c3⟩, c4⟩, c5⟩, c6⟩, c7⟩ := hc
    have hzs := beq_eq c2
    have hpos : 0 < i.size := by simpa [Nat.blt_eq] using c3
    have h1 : ∀ u ∈ z.cells.toList, u.oneCell' = true := List.all_eq_true.1 c1
    have hzc := zeroD_cells c1
    have hrun := run_make (P := P) w t e i z (elemOf_eq he) hi hz kl kc n m c4 c5 (by omega) (by omega)
    have hes : ∀ x ∈ List.replicate n.toNat (zeroD z), x.cells.length = i.size := fun x hx => by
      rw [List.eq_of_mem_replicate hx, hzc]
      simpa using hzs
    have hrng := range_zero z.cells m.toNat (by omega)
    rw [hzs] at hrng
    have hmade : (madeCells z.cells (m.toNat * i.size)).toList = (List.replicate m.toNat z.cells.toList).flatten := by
      unfold madeCells
      rw [hzs]
      exact hrng
    have hlen : (madeCells z.cells (m.toNat * i.size)).toList.length = m.toNat * i.size := by rw [hmade]; simp [hzs]
    have hnm : n.toNat ≤ m.toNat := by omega
    have hone : ∀ u ∈ (madeCells z.cells (m.toNat * i.size)).toList, u.oneCell' = true := by
      rw [hmade]
      intro u hu
      obtain ⟨l', hl', hul⟩ := List.mem_flatten.1 hu
      rw [List.eq_of_mem_replicate hl'] at hul
      exact h1 u hul
    obtain ⟨K', hK'⟩ := hR.arr (d := d) (sz := i.size) (xs := List.replicate n.toNat (zeroD z)) (ad := some ⟨w.heap.size, 0, none⟩) (cap := m.toNat) (w' := w.alloc (.cells (madeCells z.cells (m.toNat * i.size)) e)) hd (Ch.alloc _ _) hes (by simpa using hnm)
      ⟨rfl, _, e, (0, 0), by rw [heap_alloc_new], by simp, by simp only; omega, fun j c hcj => by
        rw [flat_replicate, hzc] at hcj
        have hj : j < n.toNat * i.size := by
          have := (List.getElem?_eq_some_iff.1 hcj).1
          simpa [hzs] using this
        have hmul := Nat.mul_le_mul_right i.size hnm
        have hlt : j < (madeCells z.cells (m.toNat * i.size)).toList.length := by omega
        refine ⟨(madeCells z.cells (m.toNat * i.size)).toList[j], by rw [Nat.zero_add, List.getElem?_eq_getElem hlt], hone _ (List.getElem_mem hlt), ?_⟩
        have e1 : (madeCells z.cells (m.toNat * i.size)).toList[j]? = z.cells.toList[j % z.cells.toList.length]? := by
          rw [hmade, flatten_get _ _ _ (by simpa [hzs] using (by omega : j < m.toNat * i.size))]
        rw [← map_flatten_replicate, List.getElem?_map, flatten_get _ _ _ (by simpa [hzs] using hj)] at hcj
        obtain ⟨u, hu, rfl⟩ := Option.map_eq_some_iff.1 hcj
        rw [hu, List.getElem?_eq_getElem hlt] at e1
        simp only [Option.some.injEq] at e1
        rw [e1]
        exact Rd.const (h1 u (List.mem_of_getElem? hu))⟩ (by simp)
    rw [List.length_replicate] at hK'
    exact ⟨_, _, K', .inl (by simp only [execOp, ho, hl, hcc]; simp [hrun]), hK'⟩
end Go.Fw
