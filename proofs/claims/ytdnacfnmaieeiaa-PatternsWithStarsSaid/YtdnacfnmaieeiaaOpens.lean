/- Values that a row's arguments read as, told by kinds: if cells of a type read as data, some value of the kind stands in them, with the bounds that the form's reach gives. -/
import Derived.Test.YtdnacfnmaieeiaaRows
import Derived.Test.YtdnacfnmaieeiaaWWords
import Derived.ChangeArms
import Derived.DataReads
import Derived.Deep.Slices
import Derived.SizedLaws
import Derived.KernelRfl
namespace Go.Proofs.YtdnacfnmaieeiaaO.Opn
open Go.RowKit Go.Proofs.YtdnacfnmaieeiaaW.PrintWords Go.Proofs.Ytdnacfnmaieeiaa
section
variable {α β : Type} {P : Program}
/-- Cells of type t that read as data hold a value of kind κ, within the bounds B (with n steps of reading). -/
def OpensAt (P : Program) (n : Nat) (t : TypeId) (κ : Kd α) (B : α → Prop) (Z : α → Nat) : Prop :=
  ∀ (H : Type) (enc : TypeId × Value → H) (W : World) (base : Nat) (cs : List Value) (d : DataW H) (ps : List MemPlace),
    DataW.trod enc P W base (fun _ => true) true n t cs = some (d, ps) → (∀ m ∈ d.weights P t, m ≤ 140737488351232) → ∃ x : α, κ.K W x cs ∧ B x ∧ Z x ≤ Rows.uptoBulk d
def Opens (P : Program) (t : TypeId) (κ : Kd α) (B : α → Prop) (Z : α → Nat) : Prop := ∀ n, OpensAt P n t κ B Z
def FieldsAt {H : Type} (enc : TypeId × Value → H) (P : Program) (W : World) (base n : Nat) : List TypeId → List Value → List (DataW H) → Prop
  | [], cs, ds => cs = [] ∧ ds = []
  | t :: ts, cs, ds => ∃ c0 c1 d r ps, cs = c0 ++ c1 ∧ ds = d :: r ∧ DataW.trod enc P W base (fun _ => true) true n t c0 = some (d, ps) ∧ FieldsAt enc P W base n ts c1 r
/-- A row of fields. -/
def OpensRow (P : Program) (n : Nat) (ts : List TypeId) (κ : Kd α) (B : α → Prop) (Z : α → Nat) : Prop :=
  ∀ (H : Type) (enc : TypeId × Value → H) (W : World) (base : Nat) (cs : List Value) (ds : List (DataW H)),
    FieldsAt enc P W base n ts cs ds → (∀ m ∈ DataW.weightsEach P ts ds, m ≤ 140737488351232) → ∃ x : α, κ.K W x cs ∧ B x ∧ Z x ≤ Rows.uptoBulkAll ds

def BInt (k : IntKind) (x : Int) : Prop := (Lit.int k x).wf = true
def BStr (s : ByteArray) : Prop := s.size ≤ 140737488351232
def BBool (_ : Bool) : Prop := True
def BPair (p : α → Prop) (q : β → Prop) (x : α × β) : Prop := p x.1 ∧ q x.2
def BSlice (bytes : Nat) (p : α → Prop) (l : List α) : Prop := l.length * bytes ≤ 140737488351232 ∧ l.length ≤ maxLen ∧ ∀ x ∈ l, p x
def BIso (f : β → α) (p : α → Prop) (x : β) : Prop := p (f x)
/-- How much there is: values and letters. -/
def ZInt (_ : Int) : Nat := 1
def ZBool (_ : Bool) : Nat := 1
def ZStr (s : ByteArray) : Nat := s.size + 1
def ZPair (p : α → Nat) (q : β → Nat) (x : α × β) : Nat := p x.1 + q x.2
def ZSlice (p : α → Nat) (l : List α) : Nat := (l.map p).sum + 1
def ZIso (f : β → α) (p : α → Nat) (x : β) : Nat := p (f x) + 1

theorem opens_int {t : TypeId} {k : IntKind} (ht : P.underlying t = some (.int k)) : Opens P t (Kd.int k) (BInt k) ZInt := by
  intro n H enc W base cs d ps h _
  obtain ⟨x, rfl, hx, hw⟩ := DataW.trod_int ht h
  obtain ⟨rfl, _⟩ := Prod.mk.inj hx
  exact ⟨x, rfl, hw, by simp [ZInt, Rows.uptoBulk]⟩
theorem opens_bool {t : TypeId} (ht : P.underlying t = some .bool) : Opens P t Kd.bool BBool ZBool := by
  intro n H enc W base cs d ps h _
  obtain ⟨x, rfl, hx⟩ := DataW.trod_bool ht h
  obtain ⟨rfl, _⟩ := Prod.mk.inj hx
  exact ⟨x, rfl, trivial, by simp [ZBool, Rows.uptoBulk]⟩
theorem opens_str {t : TypeId} (ht : P.underlying t = some .string) : Opens P t Kd.string BStr ZStr := by
  intro n H enc W base cs d ps h hw
  obtain ⟨x, rfl, hx, _⟩ := DataW.trod_string ht h
  obtain ⟨rfl, rfl⟩ := Prod.mk.inj hx
  refine ⟨x, rfl, ?_, ?_⟩
  · have := hw x.data.toList.length (by simp [DataW.weights])
    unfold BStr
    simpa using this
  · simp [ZStr, Rows.uptoBulk]
theorem weights_all {H : Type} {e : TypeId} : ∀ {l : List (DataW H)} {d : DataW H}, d ∈ l → ∀ m ∈ d.weights P e, m ∈ DataW.weightsAll P e l
  | x :: r, d, h, m, hm => by
    unfold DataW.weightsAll
    rcases List.mem_cons.1 h with rfl | h
    · exact List.mem_append_left _ hm
    · exact List.mem_append_right _ (weights_all h m hm)
theorem sum_le {H : Type} {Z : α → Nat} : ∀ (xs : List α) (ds : List (DataW H)), xs.length = ds.length → (∀ (i : Nat) (x : α) (d : DataW H), xs[i]? = some x → ds[i]? = some d → Z x ≤ Rows.uptoBulk d) → (xs.map Z).sum ≤ Rows.uptoBulkAll ds
  | [], [], _, _ => by simp
  | x :: xs, d :: ds, hl, h => by
    have h0 := h 0 x d rfl rfl
    have h1 := sum_le xs ds (by simpa using hl) (fun i y e hy he => h (i + 1) y e (by simpa using hy) (by simpa using he))
    simp only [List.map_cons, List.sum_cons, Rows.uptoBulkAll]
    omega
theorem choose_lt' {p : Nat → α → Prop} [Inhabited α] {m : Nat} (h : ∀ i, i < m → ∃ x, p i x) : ∃ f : Nat → α, ∀ i, i < m → p i (f i) := by
  classical
  exact ⟨fun i => if hi : i < m then Classical.choose (h i hi) else default, fun i hi => by simp only [dif_pos hi]; exact Classical.choose_spec (h i hi)⟩
theorem opens_slice_at {n : Nat} {t e : TypeId} {κ : Kd α} {B : α → Prop} {Z : α → Nat} {bytes : Nat} (ht : P.underlying t = some (.slice e)) (hb : P.bytesOf e = bytes) (hc : P.cellsOf e = κ.sz) (z : α) (h : OpensAt P n e κ B Z) :
    OpensAt P (n + 1) t (Kd.slice e κ) (BSlice bytes B) (ZSlice Z) := by
  intro H enc W base cs d ps hd hw
  rcases DataW.trod_slice ht hd with ⟨rfl, hx⟩ | ⟨a, len, cap, elems, rest, n', hn, rfl, hx, _, hl, hm, hlen, hel, _, _⟩
  · obtain ⟨rfl, _⟩ := Prod.mk.inj hx
    refine ⟨[], ⟨none, 0, rfl, Nat.le_refl _, ?_⟩, ?_, ?_⟩
    · exact ⟨rfl, Nat.zero_le _, fun h => absurd h (by simp)⟩
    · exact ⟨by simp, by simp, fun x hx => by cases hx⟩
    · simp [ZSlice, Rows.uptoBulk]
  · obtain rfl : n = n' := by omega
    obtain ⟨rfl, _⟩ := Prod.mk.inj hx
    have hwl : (elems.length + rest.length) * bytes ≤ 140737488351232 := by
      have := hw ((elems.length + rest.length) * P.bytesOf e) (by simp [DataW.weights, ht])
      rwa [hb] at this
    have hwe : ∀ x ∈ elems, ∀ m ∈ x.1.weights P e, m ≤ 140737488351232 := fun x hx m hm => hw m (by
      simp only [DataW.weights, ht]
      exact List.mem_cons_of_mem _ (List.mem_append_left _ (weights_all (List.mem_map_of_mem hx) m hm)))
    have hone : ∀ i, i < len → ∃ x : α, ∃ cs, W.cells? base (a.add (i * P.cellsOf e)) (P.cellsOf e) = some cs ∧ κ.K W x cs ∧ B x ∧ ∀ y, elems[i]? = some y → Z x ≤ Rows.uptoBulk y.1 := by
      intro i hi
      have h1 := hel i hi
      have hi' : i < elems.length := by omega
      rw [List.getElem?_eq_getElem hi'] at h1
      obtain ⟨cs, h2, h3⟩ := Option.bind_eq_some_iff.1 h1
      obtain ⟨x, h4, h5, h6⟩ := h H enc W base cs _ _ h3 (hwe _ (List.getElem_mem hi'))
      refine ⟨x, cs, h2, h4, h5, fun y hy => ?_⟩
      rw [List.getElem?_eq_getElem hi'] at hy
      obtain rfl := Option.some.inj hy
      exact h6
    haveI : Inhabited α := ⟨z⟩
    obtain ⟨f, hf⟩ := choose_lt' hone
    have hfl : ((List.range len).map f).length = len := by simp
    refine ⟨(List.range len).map f, ⟨some a, cap, by rw [hfl], by rw [hfl]; exact hl, ?_⟩, ?_, ?_⟩
    · rw [hfl]
      refine ⟨hfl, by unfold maxLen at hm; omega, fun _ => ⟨a, rfl, fun j p hj => ?_⟩⟩
      have hjl : j < len := by
        rcases Nat.lt_or_ge j len with h | h
        · exact h
        · rw [List.getElem?_eq_none (by simpa using h)] at hj
          cases hj
      rw [List.getElem?_map, List.getElem?_range hjl] at hj
      obtain rfl : f j = p := by simpa using hj
      obtain ⟨c, h2, h4, _⟩ := hf j hjl
      obtain ⟨_, hcl, hcell⟩ := World.cells?_some h2
      refine ⟨c, hcl.trans hc, h4, fun i u hu => ?_⟩
      have hi : i < c.length := by
        rcases Nat.lt_or_ge i c.length with h | h
        · exact h
        · rw [List.getElem?_eq_none h] at hu
          cases hu
      have hh := hcell i (by omega)
      rw [hu] at hh
      rw [← hh, Addr.add_add, ← hc]
    · refine ⟨?_, by rw [hfl]; omega, fun x hx => ?_⟩
      · rw [hfl]
        refine Nat.le_trans (Nat.mul_le_mul_right _ ?_) hwl
        omega
      · obtain ⟨i, hi, rfl⟩ := List.mem_map.1 hx
        exact (hf i (List.mem_range.1 hi)).choose_spec.2.2.1
    · have hs : (((List.range len).map f).map Z).sum ≤ Rows.uptoBulkAll (elems.map (·.1)) := by
        refine sum_le _ _ (by simp [hlen]) (fun i x y hx hy => ?_)
        have hil : i < len := by
          rcases Nat.lt_or_ge i len with h | h
          · exact h
          · rw [List.getElem?_eq_none (by simpa using h)] at hx
            cases hx
        rw [List.getElem?_map, List.getElem?_range hil] at hx
        obtain rfl : f i = x := by simpa using hx
        rw [List.getElem?_map] at hy
        obtain ⟨u, hu, rfl⟩ := Option.map_eq_some_iff.1 hy
        obtain ⟨_, _, _, _, h6⟩ := hf i hil
        exact h6 u hu
      unfold ZSlice
      simp only [Rows.uptoBulk]
      omega
theorem opens_zero {t : TypeId} {κ : Kd α} {B : α → Prop} {Z : α → Nat} : OpensAt P 0 t κ B Z := by
  intro H enc W base cs d ps hd
  simp [DataW.trod] at hd
theorem opens_slice {t e : TypeId} {κ : Kd α} {B : α → Prop} {Z : α → Nat} {bytes : Nat} (ht : P.underlying t = some (.slice e)) (hb : P.bytesOf e = bytes) (hc : P.cellsOf e = κ.sz) (z : α) (h : Opens P e κ B Z) : Opens P t (Kd.slice e κ) (BSlice bytes B) (ZSlice Z)
  | 0 => opens_zero
  | n + 1 => opens_slice_at ht hb hc z (h n)
/-- The fields lie one behind the other. -/
def laidB (P : Program) : Nat → List Field → Bool
  | _, [] => true
  | o, f :: fs => f.offset == o && laidB P (o + P.cellsOf f.type) fs
def totalB (P : Program) : Nat → List Field → Nat
  | o, [] => o
  | o, f :: fs => totalB P (o + P.cellsOf f.type) fs
theorem fields_of {H : Type} {enc : TypeId × Value → H} {W : World} {base n : Nat} (cs : List Value) : ∀ (fs : List Field) (o : Nat) (xs : List (DataW H × List MemPlace)), laidB P o fs = true → totalB P o fs = cs.length → xs.length = fs.length →
    (∀ (i : Nat) (f : Field), fs[i]? = some f → DataW.trod enc P W base (fun _ => true) true n f.type ((cs.drop f.offset).take (P.cellsOf f.type)) = xs[i]?) →
    FieldsAt enc P W base n (fs.map (·.type)) (cs.drop o) (xs.map (·.1))
  | [], o, xs, _, ht, hx, _ => by
    obtain rfl : xs = [] := List.length_eq_zero_iff.1 (by simpa using hx)
    exact ⟨List.drop_of_length_le (by simp [totalB] at ht; omega), rfl⟩
  | f :: fs, o, xs, hl, ht, hx, h => by
    match xs, hx with
    | x :: r, hx =>
      simp only [laidB, Bool.and_eq_true, beq_iff_eq] at hl
      obtain ⟨ho, hl⟩ := hl
      have h0 := h 0 f rfl
      rw [ho] at h0
      refine ⟨(cs.drop o).take (P.cellsOf f.type), cs.drop (o + P.cellsOf f.type), x.1, r.map (·.1), x.2, ?_, rfl, by simpa using h0, ?_⟩
      · rw [← List.drop_drop, List.take_append_drop]
      · exact fields_of cs fs _ r hl (by simpa [totalB] using ht) (by simpa using hx) (fun i g hg => by simpa using h (i + 1) g (by simpa using hg))
theorem opens_struct_at {n : Nat} {t : TypeId} {fs : Array Field} {ts : List TypeId} {κ : Kd α} {B : α → Prop} {Z : α → Nat} {f : β → α} (g : α → β) (hg : ∀ x, f (g x) = x) (ht : P.underlying t = some (.struct fs)) (hts : fs.toList.map (·.type) = ts)
    (hl : laidB P 0 fs.toList = true) (htot : totalB P 0 fs.toList = P.cellsOf t) (h : OpensRow P n ts κ B Z) : OpensAt P (n + 1) t (Kd.iso κ f) (BIso f B) (ZIso f Z) := by
  intro H enc W base cs d ps hd hw
  obtain ⟨xs, n', hn, hx, hlen, hxs, hf⟩ := DataW.trod_struct ht hd
  obtain rfl : n = n' := by omega
  obtain ⟨rfl, _⟩ := Prod.mk.inj hx
  subst hts
  have hF := fields_of (enc := enc) (W := W) (base := base) (n := n) cs fs.toList 0 xs hl (htot.trans hlen.symm) (by simpa using hxs) (fun i f' hf' => hf i f' (by simpa using hf'))
  obtain ⟨x, h1, h2, h3⟩ := h H enc W base cs _ hF (fun m hm => hw m (by simp only [DataW.weights, ht]; exact hm))
  refine ⟨g x, ?_, ?_, ?_⟩
  · show κ.K W (f (g x)) cs
    rw [hg]
    exact h1
  · show B (f (g x))
    rw [hg]
    exact h2
  · show Z (f (g x)) + 1 ≤ _
    rw [hg]
    simp only [Rows.uptoBulk]
    omega
theorem row_one {n : Nat} {t : TypeId} {κ : Kd α} {B : α → Prop} {Z : α → Nat} (h : OpensAt P n t κ B Z) : OpensRow P n [t] κ B Z := by
  rintro H enc W base cs ds ⟨c0, c1, d, r, ps, rfl, rfl, hd, rfl, rfl⟩ hw
  rw [List.append_nil]
  obtain ⟨x, h1, h2, h3⟩ := h H enc W base c0 d ps hd (fun m hm => hw m (by simp [DataW.weightsEach, hm]))
  exact ⟨x, h1, h2, by simp only [Rows.uptoBulkAll]; omega⟩
theorem row_cons {n : Nat} {t : TypeId} {ts : List TypeId} {κ : Kd α} {μ : Kd β} {B : α → Prop} {C : β → Prop} {Z : α → Nat} {Y : β → Nat} (h : OpensAt P n t κ B Z) (hr : OpensRow P n ts μ C Y) : OpensRow P n (t :: ts) (Kd.pair κ μ) (BPair B C) (ZPair Z Y) := by
  rintro H enc W base cs ds ⟨c0, c1, d, r, ps, rfl, rfl, hd, hF⟩ hw
  obtain ⟨x, h1, h2, h5⟩ := h H enc W base c0 d ps hd (fun m hm => hw m (by simp [DataW.weightsEach, hm]))
  obtain ⟨y, h3, h4, h6⟩ := hr H enc W base c1 r hF (fun m hm => hw m (by simp [DataW.weightsEach, hm]))
  exact ⟨(x, y), ⟨c0, c1, rfl, h1, h3⟩, ⟨h2, h4⟩, by simp only [ZPair, Rows.uptoBulkAll]; omega⟩
theorem opens_struct {t : TypeId} {fs : Array Field} {ts : List TypeId} {κ : Kd α} {B : α → Prop} {Z : α → Nat} {f : β → α} (g : α → β) (hg : ∀ x, f (g x) = x) (ht : P.underlying t = some (.struct fs)) (hts : fs.toList.map (·.type) = ts)
    (hl : laidB P 0 fs.toList = true) (htot : totalB P 0 fs.toList = P.cellsOf t) (h : ∀ n, OpensRow P n ts κ B Z) : Opens P t (Kd.iso κ f) (BIso f B) (ZIso f Z)
  | 0 => opens_zero
  | n + 1 => opens_struct_at g hg ht hts hl htot (h n)
/-- A row's argument, opened: its value's cells, and the bounds. -/
theorem opens_arg {H : Type} {enc : TypeId × Value → H} {W : World} {t : TypeId} {κ : Kd α} {B : α → Prop} {Z : α → Nat} (ho : Opens P t κ B Z) {v : Value} {d : DataW H} {ps : List MemPlace} (h : DataW.Trod enc P W 0 (fun _ => true) true t v d ps)
    {ts : List TypeId} {ds : List (DataW H)} (hsz : (DataW.weightsEach P ts ds).all (· ≤ reachBytes) = true) {j : Nat} (hj : ts[j]? = some t) (hd : ds[j]? = some d) : ∃ x : α, κ.K W x v.cells.toList ∧ B x ∧ Z x ≤ Rows.uptoBulk d := by
  obtain ⟨n, hn⟩ := h
  refine ho n H enc W 0 _ d ps hn (fun m hm => ?_)
  have := List.all_eq_true.1 hsz m (DataW.weights_mem_each hj hd m hm)
  exact of_decide_eq_true this
end
end Go.Proofs.YtdnacfnmaieeiaaO.Opn
