/- Values that a row's arguments read as, told as data, with the bounds that the form's reach gives. -/
import Derived.Test.YtpgnhajindbhlaaFwW
import Derived.Test.YtpgnhajindbhlaaRows
import Derived.ChangeArms
import Derived.DataReads
import Derived.Deep.Slices
import Derived.SizedLaws
import Derived.WalkKit
import Derived.ProofKit
import Derived.OpenShut
import Derived.ShutString
import Derived.ChangeOld
import Derived.Below
import Derived.WideShapes
import Derived.JoinedCond
import Derived.Deep.CondSized
set_option autoImplicit false
namespace Go.Fw
open Go.RowKit Go.Proofs.Ytpgnhajindbhlaa
section
variable {α β : Type} {P : Program}
abbrev RdR (W : World) (ds : List DVal) (cs : List Value) : Prop := P2 (Rd (fun _ => False) W) ds cs ∧ ∀ (j : Nat) (u : Value), cs[j]? = some u → u.oneCell' = true
/-- Cells of type t that read as data are those of some x that κ writes, within the bounds B. -/
def OpensAt (P : Program) (n : Nat) (t : TypeId) (κ : α → DVal) (B : α → Prop) (Z : α → Nat) : Prop :=
  ∀ (H : Type) (enc : TypeId × Value → H) (W : World) (base : Nat) (cs : List Value) (d : DataW H) (ps : List MemPlace),
    DataW.trod enc P W base (fun _ => true) true n t cs = some (d, ps) → (∀ m ∈ d.weights P t, m ≤ 140737488351232) → ∃ x : α, RdR W (κ x).cells cs ∧ B x ∧ Z x ≤ Rows.uptoBulk d
def Opens (P : Program) (t : TypeId) (κ : α → DVal) (B : α → Prop) (Z : α → Nat) : Prop := ∀ n, OpensAt P n t κ B Z
def FieldsAt {H : Type} (enc : TypeId × Value → H) (P : Program) (W : World) (base n : Nat) : List TypeId → List Value → List (DataW H) → Prop
  | [], cs, ds => cs = [] ∧ ds = []
  | t :: ts, cs, ds => ∃ c0 c1 d r ps, cs = c0 ++ c1 ∧ ds = d :: r ∧ DataW.trod enc P W base (fun _ => true) true n t c0 = some (d, ps) ∧ FieldsAt enc P W base n ts c1 r
/-- A row of fields. -/
def OpensRow (P : Program) (n : Nat) (ts : List TypeId) (κ : α → List DVal) (B : α → Prop) (Z : α → Nat) : Prop :=
  ∀ (H : Type) (enc : TypeId × Value → H) (W : World) (base : Nat) (cs : List Value) (ds : List (DataW H)),
    FieldsAt enc P W base n ts cs ds → (∀ m ∈ DataW.weightsEach P ts ds, m ≤ 140737488351232) → ∃ x : α, RdR W (κ x) cs ∧ B x ∧ Z x ≤ Rows.uptoBulkAll ds
def dI (k : IntKind) (z : Int) : DVal := .v (.int k z)
def dS' (s : ByteArray) : DVal := .v (.string s)
def dB (b : Bool) : DVal := .v (.bool b)
def dL (κ : α → DVal) (xs : List α) : DVal := .list (xs.map κ)
def BInt (k : IntKind) (x : Int) : Prop := (Lit.int k x).wf = true
def BStr (s : ByteArray) : Prop := s.size ≤ 140737488351232
def BBool (_ : Bool) : Prop := True
def BPair (p : α → Prop) (q : β → Prop) (x : α × β) : Prop := p x.1 ∧ q x.2
def BSlice (bytes : Nat) (p : α → Prop) (l : List α) : Prop := l.length * bytes ≤ 140737488351232 ∧ l.length ≤ maxLen ∧ ∀ x ∈ l, p x
def ZInt (_ : Int) : Nat := 1
def ZBool (_ : Bool) : Nat := 1
def ZStr (s : ByteArray) : Nat := s.size + 1
def ZPair (p : α → Nat) (q : β → Nat) (x : α × β) : Nat := p x.1 + q x.2
def ZSlice (p : α → Nat) (l : List α) : Nat := (l.map p).sum + 1
theorem rdr_one {W : World} {d : DVal} {u : Value} (h : Rd (fun _ => False) W d u) (hu : u.oneCell' = true) (hd : d.cells = [d]) : RdR W d.cells [u] := by
  rw [hd]
  refine ⟨⟨rfl, fun j x y hx hy => ?_⟩, fun j y hy => ?_⟩
  · cases j with
    | zero => simp at hx hy; subst hx hy; exact h
    | succ j => simp at hx
  · cases j with
    | zero => simp at hy; subst hy; exact hu
    | succ j => simp at hy
theorem opens_int {t : TypeId} {k : IntKind} (ht : P.underlying t = some (.int k)) : Opens P t (dI k) (BInt k) ZInt := by
  intro n H enc W base cs d ps h _
  obtain ⟨x, rfl, hx, hw⟩ := DataW.trod_int ht h
  obtain ⟨rfl, _⟩ := Prod.mk.inj hx
  exact ⟨x, rdr_one (.v rfl) rfl rfl, hw, by simp [ZInt, Rows.uptoBulk]⟩
theorem opens_bool {t : TypeId} (ht : P.underlying t = some .bool) : Opens P t dB BBool ZBool := by
  intro n H enc W base cs d ps h _
  obtain ⟨x, rfl, hx⟩ := DataW.trod_bool ht h
  obtain ⟨rfl, _⟩ := Prod.mk.inj hx
  exact ⟨x, rdr_one (.v rfl) rfl rfl, trivial, by simp [ZBool, Rows.uptoBulk]⟩
theorem opens_str {t : TypeId} (ht : P.underlying t = some .string) : Opens P t dS' BStr ZStr := by
  intro n H enc W base cs d ps h hw
  obtain ⟨x, rfl, hx, _⟩ := DataW.trod_string ht h
  obtain ⟨rfl, rfl⟩ := Prod.mk.inj hx
  refine ⟨x, rdr_one (.v rfl) rfl rfl, ?_, ?_⟩
  · have := hw x.data.toList.length (by simp [DataW.weights])
    unfold BStr
    simpa using this
  · simp [ZStr, Rows.uptoBulk]
theorem weights_all {H : Type} {e : TypeId} : ∀ {l : List (DataW H)} {d : DataW H}, d ∈ l → ∀ m ∈ d.weights P e, m ∈ DataW.weightsAll P e l
  | x :: r, d, h, m, hm => by
    unfold DataW.weightsAll
    rcases List.mem_cons.1 h with rfl | h
    · exact List.mem_append_left _ hm
    · exact List.mem_append_right _ (weights_all h m hm)
theorem sum_le {H : Type} {Z : α → Nat} : ∀ (xs : List α) (ds : List (DataW H)), xs.length = ds.length → (∀ (i : Nat) (x : α) (d : DataW H), xs[i]? = some x → ds[i]? = some d → Z x ≤ Rows.uptoBulk d) → (xs.map Z).sum ≤ Rows.uptoBulkAll ds
  | [], [], _, _ => by simp
  | x :: xs, d :: ds, hl, h => by
    have h0 := h 0 x d rfl rfl
    have h1 := sum_le xs ds (by simpa using hl) (fun i y e hy he => h (i + 1) y e (by simpa using hy) (by simpa using he))
    simp only [List.map_cons, List.sum_cons, Rows.uptoBulkAll]
    omega
theorem choose_lt' {p : Nat → α → Prop} [Inhabited α] {m : Nat} (h : ∀ i, i < m → ∃ x, p i x) : ∃ f : Nat → α, ∀ i, i < m → p i (f i) := by
  classical
  exact ⟨fun i => if hi : i < m then Classical.choose (h i hi) else default, fun i hi => by simp only [dif_pos hi]; exact Classical.choose_spec (h i hi)⟩
/-- Where a cell of a row of elements lies. -/
theorem flat_at {κ : α → DVal} {sz : Nat} : ∀ (xs : List α), (∀ x ∈ xs, (κ x).cells.length = sz) → ∀ j, j < ((xs.map κ).flatMap DVal.cells).length → ∃ i k x, j = i * sz + k ∧ k < sz ∧ xs[i]? = some x ∧ ((xs.map κ).flatMap DVal.cells)[j]? = (κ x).cells[k]?
  | [], _, j, hj => by simp at hj
  | x :: r, hs, j, hj => by
    have hx := hs x (by simp)
    simp only [List.map_cons, List.flatMap_cons, List.length_append, hx] at hj ⊢
    by_cases h : j < sz
    · exact ⟨0, j, x, by simp, h, rfl, by rw [List.getElem?_append_left (by omega)]⟩
    · obtain ⟨i, k, y, h1, h2, h3, h4⟩ := flat_at r (fun y hy => hs y (List.mem_cons_of_mem _ hy)) (j - sz) (by omega)
      refine ⟨i + 1, k, y, by rw [Nat.succ_mul]; omega, h2, by simpa using h3, ?_⟩
      rw [List.getElem?_append_right (by omega), hx]
      exact h4
theorem opens_slice_at {n : Nat} {t e : TypeId} {κ : α → DVal} {B : α → Prop} {Z : α → Nat} {bytes sz : Nat} (ht : P.underlying t = some (.slice e)) (hb : P.bytesOf e = bytes) (hc : P.cellsOf e = sz) (h0 : 0 < sz) (hk : ∀ x, (κ x).cells.length = sz) (z : α) (h : OpensAt P n e κ B Z) :
    OpensAt P (n + 1) t (dL κ) (BSlice bytes B) (ZSlice Z) := by
  intro H enc W base cs d ps hd hw
  rcases DataW.trod_slice ht hd with ⟨rfl, hx⟩ | ⟨a, len, cap, elems, rest, n', hn, rfl, hx, _, hl, hm, hlen, hel, _, _⟩
  · obtain ⟨rfl, _⟩ := Prod.mk.inj hx
    refine ⟨[], rdr_one Rd.nil rfl rfl, ?_, ?_⟩
    · exact ⟨by simp, by simp, fun x hx => by cases hx⟩
    · simp [ZSlice, Rows.uptoBulk]
  · obtain rfl : n = n' := by omega
    obtain ⟨rfl, _⟩ := Prod.mk.inj hx
    have hwl : (elems.length + rest.length) * bytes ≤ 140737488351232 := by
      have := hw ((elems.length + rest.length) * P.bytesOf e) (by simp [DataW.weights, ht])
      rwa [hb] at this
    have hwe : ∀ x ∈ elems, ∀ m ∈ x.1.weights P e, m ≤ 140737488351232 := fun x hx m hm => hw m (by
      simp only [DataW.weights, ht]
      exact List.mem_cons_of_mem _ (List.mem_append_left _ (weights_all (List.mem_map_of_mem hx) m hm)))
    have hone : ∀ i, i < len → ∃ x : α, ∃ cs, W.cells? base (a.add (i * sz)) sz = some cs ∧ RdR W (κ x).cells cs ∧ B x ∧ ∀ y, elems[i]? = some y → Z x ≤ Rows.uptoBulk y.1 := by
      intro i hi
      have h1 := hel i hi
      rw [hc] at h1
      have hi' : i < elems.length := by omega
      rw [List.getElem?_eq_getElem hi'] at h1
      obtain ⟨cs, h2, h3⟩ := Option.bind_eq_some_iff.1 h1
      obtain ⟨x, h4, h5, h6⟩ := h H enc W base cs _ _ h3 (hwe _ (List.getElem_mem hi'))
      refine ⟨x, cs, h2, h4, h5, fun y hy => ?_⟩
      rw [List.getElem?_eq_getElem hi'] at hy
      obtain rfl := Option.some.inj hy
      exact h6
    haveI : Inhabited α := ⟨z⟩
    obtain ⟨f, hf⟩ := choose_lt' hone
    have hfl : ((List.range len).map f).length = len := by simp
    have hsp : len ≠ 0 → a.spot = none := fun hne => by
      obtain ⟨cs, h2, h4, _⟩ := hf 0 (by omega)
      obtain ⟨_, hcl, hcell⟩ := World.cells?_some h2
      have h5 := hcell 0 (by omega)
      cases hs : a.spot with
      | none => rfl
      | some s =>
        exfalso
        have : W.cell? ((a.add (0 * sz)).add 0) = none := by
          simp only [Nat.zero_mul, Addr.add, if_true]
          unfold World.cell?
          rw [hs]
          split <;> simp
        rw [this] at h5
        have := (List.getElem?_eq_none_iff.1 h5.symm)
        omega
    have hcellat : ∀ j, j < ((((List.range len).map f).map κ).flatMap DVal.cells).length → ∃ u : Value, W.cell? ⟨a.block, a.off + j, none⟩ = some u ∧ u.oneCell' = true ∧ ∀ c, ((((List.range len).map f).map κ).flatMap DVal.cells)[j]? = some c → Rd (fun _ => False) W c u := by
      intro j hj
      obtain ⟨i, k, x, rfl, hk1, hx, hj2⟩ := flat_at _ (fun x _ => hk x) j hj
      have hil : i < len := by
        rcases Nat.lt_or_ge i len with h | h
        · exact h
        · rw [List.getElem?_eq_none (by simpa using h)] at hx
          cases hx
      rw [List.getElem?_map, List.getElem?_range hil] at hx
      obtain rfl : f i = x := by simpa using hx
      obtain ⟨cs, h2, h4, _⟩ := hf i hil
      obtain ⟨_, hcl, hcell⟩ := World.cells?_some h2
      have hkl : k < cs.length := by omega
      have h5 := hcell k (by omega)
      rw [List.getElem?_eq_getElem hkl] at h5
      have had : (a.add (i * sz)).add k = ⟨a.block, a.off + (i * sz + k), none⟩ := by
        have hs := hsp (by omega)
        rw [Addr.add_add]
        unfold Addr.add
        split
        · rename_i e
          cases a
          simp only at hs
          subst hs
          simp [e]
        · rfl
      rw [had] at h5
      refine ⟨cs[k], h5, h4.2 k _ (List.getElem?_eq_getElem hkl), fun c hc => ?_⟩
      rw [hj2] at hc
      exact h4.1.2 k c _ hc (List.getElem?_eq_getElem hkl)
    haveI : Inhabited Value := ⟨.bool false⟩
    obtain ⟨g, hg⟩ := choose_lt' hcellat
    refine ⟨(List.range len).map f, rdr_one ?_ rfl rfl, ?_, ?_⟩
    · have hll : len = (((List.range len).map f).map κ).length := by simp
      have hmain : Rd (fun _ => False) W (.list (((List.range len).map f).map κ)) (.slice (some a) (((List.range len).map f).map κ).length cap) :=
        Rd.list (sz := sz) (b := a.block) (o := a.off) (f := g) (fun x hx => by obtain ⟨y, _, rfl⟩ := List.mem_map.1 hx; exact hk y) (by rw [← hll]; exact hl)
          (fun j hj => ⟨id, (hg j hj).1⟩) (fun j hj => (hg j hj).2.1) (fun j c hc => (hg j (List.getElem?_eq_some_iff.1 hc).1).2.2 c hc) (fun hne => by
          have : len ≠ 0 := fun e => hne (by rw [e]; rfl)
          have hs := hsp this
          cases a
          simp only at hs
          subst hs
          rfl)
      rw [← hll] at hmain
      exact hmain
    · refine ⟨?_, by rw [hfl]; omega, fun x hx => ?_⟩
      · rw [hfl]
        refine Nat.le_trans (Nat.mul_le_mul_right _ ?_) hwl
        omega
      · obtain ⟨i, hi, rfl⟩ := List.mem_map.1 hx
        exact (hf i (List.mem_range.1 hi)).choose_spec.2.2.1
    · have hs : (((List.range len).map f).map Z).sum ≤ Rows.uptoBulkAll (elems.map (·.1)) := by
        refine sum_le _ _ (by simp [hlen]) (fun i x y hx hy => ?_)
        have hil : i < len := by
          rcases Nat.lt_or_ge i len with h | h
          · exact h
          · rw [List.getElem?_eq_none (by simpa using h)] at hx
            cases hx
        rw [List.getElem?_map, List.getElem?_range hil] at hx
        obtain rfl : f i = x := by simpa using hx
        rw [List.getElem?_map] at hy
        obtain ⟨u, hu, rfl⟩ := Option.map_eq_some_iff.1 hy
        obtain ⟨_, _, _, _, h6⟩ := hf i hil
        exact h6 u hu
      unfold ZSlice
      simp only [Rows.uptoBulk]
      omega
theorem opens_zero {t : TypeId} {κ : α → DVal} {B : α → Prop} {Z : α → Nat} : OpensAt P 0 t κ B Z := by
  intro H enc W base cs d ps hd
  simp [DataW.trod] at hd
theorem opens_slice {t e : TypeId} {κ : α → DVal} {B : α → Prop} {Z : α → Nat} {bytes sz : Nat} (ht : P.underlying t = some (.slice e)) (hb : P.bytesOf e = bytes) (hc : P.cellsOf e = sz) (h0 : 0 < sz) (hk : ∀ x, (κ x).cells.length = sz) (z : α) (h : Opens P e κ B Z) : Opens P t (dL κ) (BSlice bytes B) (ZSlice Z)
  | 0 => opens_zero
  | n + 1 => opens_slice_at ht hb hc h0 hk z (h n)
/-- The fields lie one behind the other. -/
def laidB (P : Program) : Nat → List Field → Bool
  | _, [] => true
  | o, f :: fs => f.offset == o && laidB P (o + P.cellsOf f.type) fs
def totalB (P : Program) : Nat → List Field → Nat
  | o, [] => o
  | o, f :: fs => totalB P (o + P.cellsOf f.type) fs
theorem fields_of {H : Type} {enc : TypeId × Value → H} {W : World} {base n : Nat} (cs : List Value) : ∀ (fs : List Field) (o : Nat) (xs : List (DataW H × List MemPlace)), laidB P o fs = true → totalB P o fs = cs.length → xs.length = fs.length →
    (∀ (i : Nat) (f : Field), fs[i]? = some f → DataW.trod enc P W base (fun _ => true) true n f.type ((cs.drop f.offset).take (P.cellsOf f.type)) = xs[i]?) →
    FieldsAt enc P W base n (fs.map (·.type)) (cs.drop o) (xs.map (·.1))
  | [], o, xs, _, ht, hx, _ => by
    obtain rfl : xs = [] := List.length_eq_zero_iff.1 (by simpa using hx)
    exact ⟨List.drop_of_length_le (by simp [totalB] at ht; omega), rfl⟩
  | f :: fs, o, xs, hl, ht, hx, h => by
    match xs, hx with
    | x :: r, hx =>
      simp only [laidB, Bool.and_eq_true, beq_iff_eq] at hl
      obtain ⟨ho, hl⟩ := hl
      have h0 := h 0 f rfl
      rw [ho] at h0
      refine ⟨(cs.drop o).take (P.cellsOf f.type), cs.drop (o + P.cellsOf f.type), x.1, r.map (·.1), x.2, ?_, rfl, by simpa using h0, ?_⟩
      · rw [← List.drop_drop, List.take_append_drop]
      · exact fields_of cs fs _ r hl (by simpa [totalB] using ht) (by simpa using hx) (fun i g hg => by simpa using h (i + 1) g (by simpa using hg))
/-- A struct: f takes it apart, g puts it together. -/
theorem opens_struct {t : TypeId} {fs : Array Field} {ts : List TypeId} {κ : α → List DVal} {κ' : β → DVal} {B : α → Prop} {B' : β → Prop} {Z : α → Nat} {Z' : β → Nat} (g : α → β) (hg : ∀ x, κ' (g x) = .agg (κ x)) (hB : ∀ x, B x → B' (g x)) (hZ : ∀ x, Z' (g x) = Z x + 1)
    (ht : P.underlying t = some (.struct fs)) (hts : fs.toList.map (·.type) = ts) (hl : laidB P 0 fs.toList = true) (htot : totalB P 0 fs.toList = P.cellsOf t) (h : ∀ n, OpensRow P n ts κ B Z) : Opens P t κ' B' Z'
  | 0 => opens_zero
  | n + 1 => by
    intro H enc W base cs d ps hd hw
    obtain ⟨xs, n', hn, hx, hlen, hxs, hf⟩ := DataW.trod_struct ht hd
    obtain rfl : n = n' := by omega
    obtain ⟨rfl, _⟩ := Prod.mk.inj hx
    subst hts
    have hF := fields_of (enc := enc) (W := W) (base := base) (n := n) cs fs.toList 0 xs hl (htot.trans hlen.symm) (by simpa using hxs) (fun i f' hf' => hf i f' (by simpa using hf'))
    obtain ⟨x, h1, h2, h3⟩ := h n H enc W base cs _ hF (fun m hm => hw m (by simp only [DataW.weights, ht]; exact hm))
    refine ⟨g x, ?_, hB x h2, ?_⟩
    · rw [hg]; exact h1
    · rw [hZ]
      simp only [Rows.uptoBulk]
      omega
theorem row_one {n : Nat} {t : TypeId} {κ : α → DVal} {B : α → Prop} {Z : α → Nat} (h : OpensAt P n t κ B Z) : OpensRow P n [t] (fun x => (κ x).cells) B Z := by
  rintro H enc W base cs ds ⟨c0, c1, d, r, ps, rfl, rfl, hd, rfl, rfl⟩ hw
  rw [List.append_nil]
  obtain ⟨x, h1, h2, h3⟩ := h H enc W base c0 d ps hd (fun m hm => hw m (by simp [DataW.weightsEach, hm]))
  exact ⟨x, h1, h2, by simp only [Rows.uptoBulkAll]; omega⟩
theorem rdr_append {W : World} {a b : List DVal} {c d : List Value} (h : RdR W a c) (k : RdR W b d) : RdR W (a ++ b) (c ++ d) := by
  refine ⟨h.1.append k.1, fun j u hu => ?_⟩
  rcases Nat.lt_or_ge j c.length with hj | hj
  · rw [List.getElem?_append_left hj] at hu; exact h.2 j u hu
  · rw [List.getElem?_append_right hj] at hu; exact k.2 _ u hu
theorem row_cons {n : Nat} {t : TypeId} {ts : List TypeId} {κ : α → DVal} {μ : β → List DVal} {B : α → Prop} {C : β → Prop} {Z : α → Nat} {Y : β → Nat} (h : OpensAt P n t κ B Z) (hr : OpensRow P n ts μ C Y) : OpensRow P n (t :: ts) (fun x : α × β => (κ x.1).cells ++ μ x.2) (BPair B C) (ZPair Z Y) := by
  rintro H enc W base cs ds ⟨c0, c1, d, r, ps, rfl, rfl, hd, hF⟩ hw
  obtain ⟨x, h1, h2, h5⟩ := h H enc W base c0 d ps hd (fun m hm => hw m (by simp [DataW.weightsEach, hm]))
  obtain ⟨y, h3, h4, h6⟩ := hr H enc W base c1 r hF (fun m hm => hw m (by simp [DataW.weightsEach, hm]))
  exact ⟨(x, y), rdr_append h1 h3, ⟨h2, h4⟩, by simp only [ZPair, Rows.uptoBulkAll]; omega⟩
/-- A row's argument, opened: its value's cells, and the bounds. -/
theorem opens_arg {H : Type} {enc : TypeId × Value → H} {W : World} {t : TypeId} {κ : α → DVal} {B : α → Prop} {Z : α → Nat} (ho : Opens P t κ B Z) {v : Value} {d : DataW H} {ps : List MemPlace} (h : DataW.Trod enc P W 0 (fun _ => true) true t v d ps)
    {ts : List TypeId} {ds : List (DataW H)} (hsz : (DataW.weightsEach P ts ds).all (· ≤ reachBytes) = true) {j : Nat} (hj : ts[j]? = some t) (hd : ds[j]? = some d) : ∃ x : α, RdR W (κ x).cells v.cells.toList ∧ B x ∧ Z x ≤ Rows.uptoBulk d := by
  obtain ⟨n, hn⟩ := h
  refine ho n H enc W 0 _ d ps hn (fun m hm => ?_)
  have := List.all_eq_true.1 hsz m (DataW.weights_mem_each hj hd m hm)
  exact of_decide_eq_true this
/-- The whole value. -/
theorem rd_agg {W : World} {ds : List DVal} {cs : Array Value} (h : RdR W (DVal.agg ds).cells (Value.agg cs).cells.toList) : Rd (fun _ => False) W (.agg ds) (.agg cs) := by
  have e : (Value.agg cs).cells.toList = cs.toList := rfl
  rw [e] at h
  have := Rd.agg (bad := fun _ => False) (w := W) (cs := ds) (vs := cs.toList) h.1.1 h.2 h.1.2
  simpa using this
theorem rd_one {W : World} {d : DVal} {u : Value} (h : RdR W d.cells u.cells.toList) (hd : d.cells = [d]) (hu : u.cells = #[u]) : Rd (fun _ => False) W d u := by
  rw [hd, hu] at h
  exact h.1.2 0 d u rfl rfl
end
theorem len_str {P : Program} {t : TypeId} (h : P.underlying t = some .string) (ty : TypeId) (cs : Array Bool) (s : ByteArray) : builtinV P .len #[t] ty cs [.string s] = some (.int .i64 s.size) := by
  have : pr P (builtin .len #[t] ty cs ⟨[.string s]⟩) = some (.value (.int .i64 s.size)) := pr_of fun w => by
    simp [builtin, Builtin.len_, goInt, run_underlying h]
  unfold builtinV
  rw [this]; rfl
theorem rdL_nil {W : World} : P2 (Rd (fun _ => False) W) [] [] := ⟨rfl, fun j x y h _ => by simp at h⟩
theorem rdL_cons {W : World} {d : DVal} {u : Value} {ds : List DVal} {us : List Value} (h : Rd (fun _ => False) W d u) (k : P2 (Rd (fun _ => False) W) ds us) : P2 (Rd (fun _ => False) W) (d :: ds) (u :: us) :=
  ⟨by simp [k.1], fun j x y hx hy => by
    cases j with
    | zero => simp at hx hy; subst hx hy; exact h
    | succ j => exact k.2 j x y (by simpa using hx) (by simpa using hy)⟩
/-- A law's function, called with data. -/
theorem pcalls_row {P : Program} {f : FuncId} {ds : List DVal} {b : Bool} (h : PCalls P f ds (.d (.v (.bool b)))) {W : World} {vs : List Value} (hv : P2 (Rd (fun _ => False) W) ds vs) :
    Calls P f ⟨vs⟩ W fun e w' => e = .returned (.bool b) ∧ RowKit.Below W.heap.size W w' := by
  have hbad : ∀ b, badOf (fun _ => False) (fun _ _ _ => none) (fun _ _ => .dead) b → False := fun b hb => by rcases hb with hb | ⟨_, _, hb⟩; exact hb; exact hb.elim
  refine (h.2 (fun _ => False) W (fun _ _ _ => none) vs ?_ ?_ (fun _ _ _ => rfl) (HRel.dead (fun _ h => h.elim))).mono ?_
  · refine ⟨by rw [List.length_map]; exact hv.1, fun j x y hx hy => ?_⟩
    rw [List.getElem?_map] at hx
    obtain ⟨d, hd, rfl⟩ := Option.map_eq_some_iff.1 hx
    exact .d ((hv.2 j d y hd hy).mono fun b _ _ => ⟨hbad b, rfl⟩)
  · rw [AVal.belL_iff]
    intro y hy
    obtain ⟨z, _, rfl⟩ := List.mem_map.1 hy
    rfl
  · rintro e w' ⟨v, r, H', K', rfl, rfl, hh, hdead, hrv, _⟩
    have hdead' : H' = fun _ _ => .dead := by funext l t; exact hdead l t (Nat.zero_le _)
    subst hdead'
    have hch : Ch (fun _ => False) W w' := hh.ext.mono (fun b ⟨_, _, e⟩ => e.elim)
    cases hrv with
    | d hd =>
      cases hd with
      | v _ => exact ⟨rfl, hch.below⟩
end Go.Fw
