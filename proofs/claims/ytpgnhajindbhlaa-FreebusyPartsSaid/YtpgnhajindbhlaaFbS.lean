/- slices.SortFunc at periods, by the library's contract. -/
import Derived.Test.YtpgnhajindbhlaaFbP
import Derived.Test.YtpgnhajindbhlaaFbL
import Derived.Shelf.SlSortCmp.NoneTotal
set_option linter.unusedSimpArgs false
set_option linter.unusedVariables false
set_option maxRecDepth 20000
namespace Go.Fw
open Go Go.Proofs Go.Proofs.Ytpgnhajindbhlaa.Ty Go.Shelf Go.RowKit Go.Lib Go.Sort
instance : Inhabited Period := ⟨⟨0, 0⟩⟩
def encP (p : Period) : List Value := [.int .i64 p.From, .int .i64 p.To]
theorem Ch.grown {o : Nat → Prop} {w w' : World} (h : Ch o w w') (ho : ∀ b, ¬ o b) : ∃ q os, w' = grow (w.drewN q) os := by
  obtain ⟨h1, h2, h3, h4, h5, h6⟩ := h
  refine ⟨w'.drawn - w.drawn, w'.heap.extract w.heap.size w'.heap.size, ?_⟩
  have hh : w.heap ++ w'.heap.extract w.heap.size w'.heap.size = w'.heap := by
    apply Array.ext_getElem?
    intro k
    rw [Array.getElem?_append]
    by_cases hk : k < w.heap.size
    · rw [if_pos hk]
      exact (h6 k hk (ho k)).symm
    · rw [if_neg hk, Array.getElem?_extract, Nat.min_self]
      by_cases hk2 : k < w'.heap.size
      · rw [if_pos (by omega)]
        congr 1
        omega
      · rw [if_neg (by omega)]
        exact (Array.getElem?_eq_none (by omega)).symm
  obtain ⟨a1, a2, a3, a4, a5⟩ := w
  obtain ⟨b1, b2, b3, b4, b5⟩ := w'
  simp only at h1 h2 h3 h4 h5 hh
  subst h1 h2 h3
  simp only [grow, World.drewN]
  rw [hh]
  congr 1
  omega
theorem Rd_per (bad : Nat → Prop) (w : World) (p : Period) : Rd bad w p.d (.agg ⟨encP p⟩) := by
  refine .agg rfl (fun j x hx => ?_) (fun j c x hc hx => ?_)
  · match j with
    | 0 => simp [encP] at hx; subst hx; rfl
    | 1 => simp [encP] at hx; subst hx; rfl
    | j + 2 => simp [encP] at hx
  · match j with
    | 0 => simp [encP] at hx hc; subst hx hc; exact .v rfl
    | 1 => simp [encP] at hx hc; subst hx hc; exact .v rfl
    | j + 2 => simp [encP] at hx
theorem cmpLays_of {P : Program} {g : FuncId} {cf : Period → Period → Int} (hc : ∀ a b : Period, PCalls P g [a.d, b.d] (.d (.v (.int .i64 (cf a b))))) (blk off size : Nat) (w : World) :
    CmpLays P g #[] encP 2 cf blk off size w := by
  intro m os dk _ x y
  have h := (hc x y).2 (fun _ => False) (sortWorldK encP 2 w blk off m dk os) (fun _ _ _ => none) [.agg ⟨encP x⟩, .agg ⟨encP y⟩] ⟨rfl, fun j c u hc hu => ?_⟩ rfl (fun _ _ _ => rfl) (HRel.dead (fun _ h => h.elim))
  · refine h.mono ?_
    rintro e w' ⟨v, r, H', K', rfl, rfl, hrel, _, hrv, _⟩
    cases hrv with
    | d hd =>
      cases hd with
      | v _ => exact ⟨rfl, hrel.ext.grown (by rintro b ⟨_, _, h⟩; exact h)⟩
  · match j with
    | 0 => simp at hc hu; subst hc hu; exact .d (Rd_per _ _ x)
    | 1 => simp at hc hu; subst hc hu; exact .d (Rd_per _ _ y)
    | j + 2 => simp at hu
theorem pflat_at : ∀ (d : List Period) (j : Nat), (d.flatMap encP)[j]? = (d[j / 2]?).bind fun p => (encP p)[j % 2]?
  | [], j => by simp
  | p :: d, 0 => by simp [encP]
  | p :: d, 1 => by simp [encP]
  | p :: d, j + 2 => by
    have e1 : (j + 2) / 2 = j / 2 + 1 := by omega
    have e2 : (j + 2) % 2 = j % 2 := by omega
    rw [e1, e2, List.getElem?_cons_succ, ← pflat_at d j]
    simp [encP]
theorem pflat_len (d : List Period) : (d.flatMap encP).length = d.length * 2 := by
  induction d with
  | nil => rfl
  | cons p d ih => simp only [List.flatMap_cons, List.length_append, ih, List.length_cons, encP, List.length_nil]; omega
theorem flatK_per (d : List Period) : flatK encP 2 d.toArray = (d.flatMap encP).toArray := by
  apply Array.ext
  · rw [size_flatK, List.size_toArray, List.size_toArray, pflat_len]
  · intro j h1 h2
    have hj : j < d.toArray.size * 2 := by simpa using h1
    have hj' : j < d.length * 2 := by simpa using hj
    have h3 := get_flatK encP 2 d.toArray j hj
    rw [getElem!_pos _ j h1] at h3
    rw [h3]
    have h4 := pflat_at d j
    have hd : j / 2 < d.length := by omega
    rw [List.getElem?_eq_getElem hd, Option.bind_some] at h4
    have h5 : d.toArray[j / 2]! = d[j / 2] := by simp [hd]
    rw [h5]
    have h6 : j % 2 < (encP d[j / 2]).length := by simp [encP]; omega
    rw [List.getElem?_eq_getElem h6, List.getElem?_eq_getElem (by simpa using h2)] at h4
    rw [getElem!_pos (encP d[j / 2]) (j % 2) h6]
    simp only [Option.some.injEq] at h4
    simp [h4]
theorem cells_per : ∀ (d : List Period), (d.map Period.d).flatMap DVal.cells = (d.flatMap encP).map DVal.v
  | [] => rfl
  | p :: d => by
    simp only [List.map_cons, List.flatMap_cons, cells_per d, List.map_append]
    rfl
theorem sorted_of {cf : Period → Period → Int} (hcf : ∀ a b, cf a b < 0 ↔ ¬ pLe b a = true) {d : List Period} {d' : Array Period} (hp : PermIn 0 d.toArray.size d.toArray d') (hs : SortedIn (ltOf cf) 0 d.toArray.size d') : d'.toList = pSort d := by
  obtain ⟨h1, _, h2⟩ := hp
  have hperm : d'.toList.Perm d := by
    have e1 : (d'.extract 0 d.toArray.size).toList = d'.toList := by rw [← h1]; simp
    have e2 : (d.toArray.extract 0 d.toArray.size).toList = d := by simp
    rwa [e1, e2] at h2
  refine pSort_uniq hperm ?_
  unfold Srt
  rw [List.pairwise_iff_getElem]
  intro i j hi hj hij
  have hi' : i < d'.size := by simpa using hi
  have hj' : j < d'.size := by simpa using hj
  have := hs i j (Nat.zero_le _) hij (by omega)
  rw [getElem!_pos _ i hi', getElem!_pos _ j hj'] at this
  simp only [ltOf, decide_eq_false_iff_not, hcf, Decidable.not_not] at this
  simpa using this
theorem swo_of {cf : Period → Period → Int} (hcf : ∀ a b, cf a b < 0 ↔ ¬ pLe b a = true) : SWO (ltOf cf) := by
  have key : ∀ a b, ltOf cf a b = !pLe b a := fun a b => by
    rw [Bool.eq_iff_iff]; simp [ltOf, hcf]
  constructor
  · intro x; rw [key]; simp [pLe]
  · intro x y z h1 h2
    rw [key] at *
    simp [pLe] at *; omega
  · intro x y z h1 h2
    rw [key] at *
    simp [pLe] at *; omega
theorem sort_c {lev l t : Nat} {H : Hp} (g : FuncId) {cf : Period → Period → Int} (hg : hasBody Try.prog g = true) (eg : ∀ args w, (callFunc g args).run Try.prog w = .ok (.enter g args) w) (hc : ∀ a b : Period, PCalls Try.prog g [a.d, b.d] (.d (.v (.int .i64 (cf a b))))) (hcf : ∀ a b, cf a b < 0 ↔ ¬ pLe b a = true)
    (d : List Period) (hl : l < lev) (hH : H l t = .arr 2 (d.map Period.d)) (hb : d.length < 4611686018427387904) :
    ACalls Try.prog 81 [.ref l t d.length, .clo g []] lev H (fun r H' => r = .tup [] ∧ H' = H.set l t (.arr 2 ((pSort d).map Period.d))) := by
  refine ⟨by kernel_rfl, fun S0 w K vs hp hbel hdead hrel => ?_⟩
  obtain ⟨hlen, hvs⟩ := hp
  match vs, hlen, hvs with
  | [v1, v2], _, hvs =>
  have r1 := hvs 0 _ _ rfl rfl
  have r2 := hvs 1 _ _ rfl rfl
  cases r1 with
  | ref hk =>
  rename_i cap sz a hx0
  cases r2 with
  | clo hl2 hh2 =>
  rename_i ws
  obtain rfl : ws = [] := by simpa using hl2
  have hob := hrel.ob l t
  rw [hH] at hob
  obtain ⟨hn, a', cap', hk', hsz, hcap, harr⟩ := hob
  rw [List.length_map] at hk' hcap hn
  rw [hk] at hk'
  simp only [Option.some.injEq, Prod.mk.injEq] at hk'
  obtain ⟨rfl, rfl, rfl⟩ := hk'
  cases a with
  | none =>
    obtain ⟨h1, h2⟩ := harr
    obtain rfl : d = [] := by simpa using h1
    have h := AnyF.slices_SortFunc_none Try.sortPer none cap (.func (.func g) #[] ⟨[]⟩) w
    refine Calls.mono (show Calls Try.prog 81 _ w _ from h) ?_
    rintro e w' ⟨rfl, rfl⟩
    have hHs : H.set l t (.arr 2 ((pSort []).map Period.d)) = H := by
      funext l' t'
      by_cases c : l' = l ∧ t' = t
      · obtain ⟨rfl, rfl⟩ := c
        rw [Hp.set_same, hH]; rfl
      · rw [Hp.set_ne c]
    exact ⟨_, .tup [], H, K, rfl, ⟨rfl, hHs.symm⟩, hrel, hdead, .tup rfl (by simp), rfl⟩
  | some ad =>
    obtain ⟨blk, off, spot⟩ := ad
    obtain ⟨rfl, vs, ty, fz, hheap, hfz, hroom, hcells⟩ := harr
    have hblk : blk < w.heap.size := hrel.size (l := l) (t := t) (b := blk) (by rw [hH]; exact ⟨off, _, by rw [List.length_map]; exact hk⟩)
    rw [cells_per] at hcells
    dsimp only at hheap hroom hcells
    have hcell : ∀ j, j < d.length * 2 → w.cell? ⟨blk, off + j, none⟩ = some (d.flatMap encP)[j]! ∧ vs[off + j]? = some (d.flatMap encP)[j]! := by
      intro j hj
      have hj' : j < (d.flatMap encP).length := by rw [pflat_len]; exact hj
      obtain ⟨u, hu, _, hr⟩ := hcells j (.v (d.flatMap encP)[j]) (by simp [hj'])
      have hu2 : u = (d.flatMap encP)[j]! := by
        rw [getElem!_pos _ j hj']
        cases hr with | v _ => rfl
      rw [← hu2]
      refine ⟨?_, hu⟩
      simp only [World.cell?, hheap]
      simpa using hu
    have hHolds : HoldsK encP 2 w blk off d.toArray := by
      unfold HoldsK
      rw [flatK_per]
      intro j hj
      have hj' : j < d.length * 2 := by rw [List.size_toArray, pflat_len] at hj; exact hj
      refine ⟨by simpa using (hcell j hj').1, ?_⟩
      have hlt : off + j < vs.length := by
        have : d.length * 2 ≤ cap * 2 := by omega
        omega
      have := hfz (off + j) hlt
      simp only [World.frozen?, hheap]
      simpa using this
    have h := AnyQ.slices_SortFunc Try.sortPer 2 Try.sortPerA Try.sortPerZ encP (fun _ => rfl) (fun x v hv => by simp [encP] at hv; rcases hv with rfl | rfl <;> rfl) cf (swo_of hcf) g #[] blk off cap d.toArray w eg (cmpLays_of hc blk off d.toArray.size w) hHolds hblk (by simpa using hb)
    have h' : Calls Try.prog 81 ⟨[.slice (some ⟨blk, off, none⟩) d.length cap, .func (.func g) #[] ⟨[]⟩]⟩ w _ := h
    refine h'.mono ?_
    rintro e w' ⟨rfl, d', n, os, hpm, hst, rfl⟩
    have hd' : d' = (pSort d).toArray := by rw [← sorted_of hcf hpm hst]
    subst hd'
    have hL : (pSort d).length = d.length := pSort_len d
    have hheap' : (sortWorldK encP 2 w blk off n (pSort d).toArray os).heap = w.heap.modify blk (onCells (putCells id off (flatK encP 2 (pSort d).toArray))) ++ os := rfl
    have hch : Ch (fun b => (H l t).own K l t b) w (sortWorldK encP 2 w blk off n (pSort d).toArray os) := by
      refine ⟨rfl, rfl, rfl, ?_, ?_, fun b hbs hbn => ?_⟩
      · rw [hheap']; simp
      · show w.drawn ≤ w.drawn + n; omega
      · rw [hheap', Array.getElem?_append_left (by simpa using hbs), Array.getElem?_modify, if_neg]
        rintro rfl
        exact hbn (by rw [hH]; exact ⟨off, _, by rw [List.length_map]; exact hk⟩)
    have hblock : (sortWorldK encP 2 w blk off n (pSort d).toArray os).heap[blk]? = some (.cells (putCells id off (flatK encP 2 (pSort d).toArray) ⟨vs⟩) ty fz) := by
      rw [hheap', Array.getElem?_append_left (by simpa using hblk), Array.getElem?_modify, if_pos rfl, hheap]
      rfl
    have hwr := hrel.write (l := l) (t := t) (o' := .arr 2 ((pSort d).map Period.d)) (K' := K) hch (fun _ _ _ _ h => h) (fun _ _ _ => rfl)
      (by
        rintro b ⟨o, z, hz⟩
        refine .inl ?_
        rw [hH]
        refine ⟨o, z, ?_⟩
        rw [List.length_map] at hz ⊢
        rw [← hz, hL])
      (by
        refine ⟨fun m hm => hn m (by rw [List.length_map, hL] at hm; exact hm), some ⟨blk, off, none⟩, cap, by rw [List.length_map, hL]; exact hk, ?_, by rw [List.length_map, hL]; exact hcap, rfl, (putCells id off (flatK encP 2 (pSort d).toArray) ⟨vs⟩).toList, ty, fz, hblock, ?_, ?_, ?_⟩
        · intro x hx
          obtain ⟨p, _, rfl⟩ := List.mem_map.1 hx
          rfl
        · intro j hj
          exact hfz j (by simpa [putCells] using hj)
        · simpa [putCells] using hroom
        · intro j c hc
          rw [cells_per, List.getElem?_map] at hc
          obtain ⟨x, hx, rfl⟩ := Option.map_eq_some_iff.1 hc
          have hj : j < d.length * 2 := by
            have := (List.getElem?_eq_some_iff.1 hx).1
            rwa [pflat_len, hL] at this
          have hlt : off + j < vs.length := by
            have : d.length * 2 ≤ cap * 2 := by omega
            omega
          have hone : x.oneCell' = true := by
            have hm := List.mem_of_getElem? hx
            obtain ⟨p, _, hp⟩ := List.mem_flatMap.1 hm
            simp [encP] at hp
            rcases hp with rfl | rfl <;> rfl
          refine ⟨x, ?_, hone, .v hone⟩
          have hx' : (flatK encP 2 (pSort d).toArray)[j]! = x := by
            rw [flatK_per]
            simp [hx]
          simp only [putCells, Array.toList_mapIdx, List.getElem?_mapIdx, List.getElem?_eq_getElem hlt, Option.map_some, id]
          rw [if_pos ⟨by omega, by rw [size_flatK]; simp [hL]; omega⟩, show off + j - off = j by omega, hx'])
      rfl (by omega)
    refine ⟨_, .tup [], _, K, rfl, ⟨rfl, rfl⟩, hwr, fun l' t' hlt => ?_, .tup rfl (by simp), rfl⟩
    rw [Hp.set_ne (by omega)]
    exact hdead l' t' hlt
end Go.Fw
