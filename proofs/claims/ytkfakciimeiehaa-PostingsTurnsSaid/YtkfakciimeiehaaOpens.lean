/- General laws: an argument that reads as data (numbers, bools, strings, slices, structs nested in any way) is a value of the print's own kind, with its bounds. No program in sight. -/
import Derived.Test.YtkfakciimeiehaaWWords
import Derived.OpenShut
import Derived.SizedLaws
import Derived.DataElems
import Derived.ChangeOld
import Derived.Below
import Derived.Carry

set_option linter.unusedVariables false
set_option linter.unusedSimpArgs false
namespace Go.Proofs.YtkfakciimeiehaaOpens
open Go Go.RowKit Go.ChangeShapes Go.Proofs.YtkfakciimeiehaaW.PrintWords

/-- Whatever is read as data of type t is a value of kind d, and meets wf. -/
structure Opens (P : Program) (t : TypeId) {α : Type} (d : Kd α) (wf : α → Prop) : Prop where mk ::
  out : ∀ {H : Type} (enc : TypeId × Value → H) (w : World) (base : Nat) (spare : Nat → Bool) (held : Bool) (fuel : Nat) (cs : List Value) (x : DataW H × List MemPlace),
    DataW.trod enc P w base spare held fuel t cs = some x → (∀ n ∈ x.1.weights P t, n ≤ reachBytes) → ∃ y : α, d.K w y cs ∧ wf y

def WInt (k : IntKind) (n : Int) : Prop := (Lit.int k n).wf = true
def WAny {α : Type} (_ : α) : Prop := True
def WStr (s : ByteArray) : Prop := s.size ≤ 140737488351232
def WSlice (bytes : Nat) {α : Type} (wf : α → Prop) (xs : List α) : Prop := xs.length * bytes ≤ 140737488351232 ∧ ∀ x ∈ xs, wf x
def WPair {α β : Type} (a : α → Prop) (b : β → Prop) (y : α × β) : Prop := a y.1 ∧ b y.2

theorem opens_int {P : Program} {t : TypeId} {k : IntKind} (ht : P.underlying t = some (.int k)) : Opens P t (Kd.int k) (WInt k) := by
  refine ⟨?_⟩
  intro H enc w base spare held fuel cs x h _
  obtain ⟨n, rfl, _, hw⟩ := DataW.trod_int ht h
  exact ⟨n, rfl, hw⟩
theorem opens_bool {P : Program} {t : TypeId} (ht : P.underlying t = some .bool) : Opens P t Kd.bool WAny := by
  refine ⟨?_⟩
  intro H enc w base spare held fuel cs x h _
  obtain ⟨n, rfl, _⟩ := DataW.trod_bool ht h
  exact ⟨n, rfl, trivial⟩
theorem opens_string {P : Program} {t : TypeId} (ht : P.underlying t = some .string) : Opens P t Kd.string WStr := by
  refine ⟨?_⟩
  intro H enc w base spare held fuel cs x h hw
  obtain ⟨n, rfl, rfl, _⟩ := DataW.trod_string ht h
  refine ⟨n, rfl, ?_⟩
  have := hw n.data.toList.length (by simp [DataW.weights])
  have e : n.data.toList.length = n.size := data_length n
  rw [e] at this
  exact this

theorem weightsAll_mem {H : Type} {P : Program} {e : TypeId} : ∀ {l : List (DataW H)} {d : DataW H}, d ∈ l → ∀ n ∈ d.weights P e, n ∈ DataW.weightsAll P e l
  | d0 :: l, d, hd, n, hn => by
    simp only [DataW.weightsAll, List.mem_append]
    rcases List.mem_cons.1 hd with rfl | hd
    · exact .inl hn
    · exact .inr (weightsAll_mem hd n hn)
  | [], d, hd, _, _ => by simp at hd

theorem choose_list {α : Type} {R : Nat → α → Prop} : ∀ n : Nat, (∀ i, i < n → ∃ y, R i y) → ∃ ys : List α, ys.length = n ∧ ∀ i y, ys[i]? = some y → R i y
  | 0, _ => ⟨[], rfl, fun i y h => by simp at h⟩
  | n + 1, h => by
    obtain ⟨ys, hl, hr⟩ := choose_list n (fun i hi => h i (by omega))
    obtain ⟨y, hy⟩ := h n (by omega)
    refine ⟨ys ++ [y], by simp [hl], fun i z hz => ?_⟩
    by_cases hi : i < n
    · rw [List.getElem?_append_left (by omega)] at hz
      exact hr i z hz
    · have hlt := (List.getElem?_eq_some_iff.1 hz).1
      simp [hl] at hlt
      obtain rfl : i = n := by omega
      rw [List.getElem?_append_right (by omega)] at hz
      simp [hl] at hz
      subst hz
      exact hy

theorem opens_slice {P : Program} {t e : TypeId} {α : Type} {d : Kd α} {wf : α → Prop} (ht : P.underlying t = some (.slice e)) (bytes : Nat) (hby : P.bytesOf e = bytes) (hsz : P.cellsOf e = d.sz) (he : Opens P e d wf) :
    Opens P t (Kd.slice e d) (WSlice bytes wf) := by
  refine ⟨?_⟩
  intro H enc w base spare held fuel cs x h hw
  rcases DataW.trod_slice ht h with ⟨rfl, rfl⟩ | ⟨a, len, cap, elems, rest, n, _, rfl, rfl, hb, hl, hm, hlen, hel, hsp, hns⟩
  · exact ⟨[], ⟨none, 0, rfl, Nat.le_refl _, Kd.C_nil d w⟩, by simp, by simp⟩
  · have hwt : ∀ m ∈ (DataW.slice (elems.map (·.1)) (rest.map (·.1))).weights P t, m ≤ reachBytes := hw
    have key : ∀ i, i < len → ∃ y, (∃ c, d.K w y c ∧ c.length = d.sz ∧ ∀ j u, c[j]? = some u → w.cell? (a.add (i * d.sz + j)) = some u) ∧ wf y := by
      intro i hi
      have h1 := hel i hi
      have hi' : i < elems.length := by omega
      rw [List.getElem?_eq_getElem hi', Option.bind_eq_some_iff] at h1
      obtain ⟨c, hc, h2⟩ := h1
      obtain ⟨hbb, hcl, hcell⟩ := World.cells?_some hc
      have hwt2 : ∀ m ∈ (elems[i].1).weights P e, m ≤ reachBytes := by
        intro m hmm
        refine hwt m ?_
        simp only [DataW.weights, ht]
        refine List.mem_cons_of_mem _ (List.mem_append_left _ (weightsAll_mem (d := elems[i].1) ?_ m hmm))
        exact List.mem_map.2 ⟨elems[i], List.getElem_mem hi', rfl⟩
      obtain ⟨y, hk, hy⟩ := he.out enc w base spare held n c elems[i] h2 hwt2
      refine ⟨y, ⟨c, hk, d.K_len hk, fun j u hu => ?_⟩, hy⟩
      have hj : j < P.cellsOf e := by have := (List.getElem?_eq_some_iff.1 hu).1; omega
      rw [← hsz, ← Addr.add_add, hcell j hj, hu]
    obtain ⟨ys, hyl, hys⟩ := choose_list len key
    refine ⟨ys, ⟨some a, cap, by rw [hyl], by omega, ?_⟩, ?_, ?_⟩
    · refine ⟨rfl, by unfold maxLen at hm; omega, fun _ => ⟨a, rfl, fun j p hp => ?_⟩⟩
      obtain ⟨⟨c, hk, hcl, hcell⟩, _⟩ := hys j p hp
      exact ⟨c, hcl, hk, hcell⟩
    · have := hwt ((elems.length + rest.length) * P.bytesOf e) (by simp [DataW.weights, ht])
      rw [hby] at this
      have h3 : ys.length * bytes ≤ (elems.length + rest.length) * bytes := Nat.mul_le_mul_right _ (by omega)
      have h4 : reachBytes = 140737488351232 := rfl
      omega
    · intro y hy
      obtain ⟨i, hi⟩ := List.getElem?_of_mem hy
      exact (hys i y hi).2

/-- The fields from one on, which lie one behind the other. -/
structure OpensF (P : Program) (fs : List Field) (off : Nat) {α : Type} (d : Kd α) (wf : α → Prop) : Prop where mk ::
  out : ∀ {H : Type} (enc : TypeId × Value → H) (w : World) (base : Nat) (spare : Nat → Bool) (held : Bool) (fuel : Nat) (cs : List Value) (xs : List (DataW H × List MemPlace)),
    cs.length = off + d.sz → xs.length = fs.length → (∀ (i : Nat) (f : Field), fs[i]? = some f → DataW.trod enc P w base spare held fuel f.type ((cs.drop f.offset).take (P.cellsOf f.type)) = xs[i]?) →
    (∀ n ∈ DataW.weightsEach P (fs.map (·.type)) (xs.map (·.1)), n ≤ reachBytes) → ∃ y : α, d.K w y (cs.drop off) ∧ wf y

theorem opensF_one {P : Program} {f : Field} {off : Nat} {α : Type} {d : Kd α} {wf : α → Prop} (ho : f.offset = off) (hsz : P.cellsOf f.type = d.sz) (h : Opens P f.type d wf) : OpensF P [f] off d wf := by
  refine ⟨?_⟩
  intro H enc w base spare held fuel cs xs hl hxl hx hw
  have h0 := hx 0 f rfl
  obtain ⟨x0, rfl⟩ : ∃ x0, xs = [x0] := by
    match xs, hxl with
    | [x0], _ => exact ⟨x0, rfl⟩
  simp only [List.getElem?_cons_zero] at h0
  rw [ho, hsz, List.take_of_length_le (by simp; omega)] at h0
  exact h.out enc w base spare held fuel _ x0 h0 (fun n hn => hw n (by simp [DataW.weightsEach, hn]))

theorem opensF_cons {P : Program} {f : Field} {fs : List Field} {off : Nat} {α β : Type} {d : Kd α} {d' : Kd β} {wf : α → Prop} {wf' : β → Prop} (ho : f.offset = off) (hsz : P.cellsOf f.type = d.sz) (h : Opens P f.type d wf)
    (hs : OpensF P fs (off + d.sz) d' wf') : OpensF P (f :: fs) off (Kd.pair d d') (WPair wf wf') := by
  refine ⟨?_⟩
  intro H enc w base spare held fuel cs xs hl hxl hx hw
  have hl' : cs.length = off + (d.sz + d'.sz) := hl
  obtain ⟨x0, xr, rfl⟩ : ∃ x0 xr, xs = x0 :: xr := by
    match xs, hxl with
    | x0 :: xr, _ => exact ⟨x0, xr, rfl⟩
  have h0 := hx 0 f rfl
  simp only [List.getElem?_cons_zero] at h0
  rw [ho, hsz] at h0
  obtain ⟨y0, hk0, hy0⟩ := h.out enc w base spare held fuel _ x0 h0 (fun n hn => hw n (by simp [DataW.weightsEach, hn]))
  obtain ⟨y1, hk1, hy1⟩ := hs.out enc w base spare held fuel cs xr (by omega) (by simpa using hxl) (fun i g hg => by have := hx (i + 1) g (by simpa using hg); simpa using this) (fun n hn => hw n (by simp only [List.map_cons, DataW.weightsEach, List.mem_append]; exact .inr hn))
  refine ⟨(y0, y1), ⟨_, _, ?_, hk0, hk1⟩, hy0, hy1⟩
  rw [← List.drop_drop]
  exact (List.take_append_drop _ _).symm

theorem opens_struct {P : Program} {t : TypeId} {fs : Array Field} {α β : Type} {d : Kd α} {wf : α → Prop} (ht : P.underlying t = some (.struct fs)) (f : β → α) (g : α → β) (hfg : ∀ y, f (g y) = y) (hsz : P.cellsOf t = d.sz) (hs : OpensF P fs.toList 0 d wf) :
    Opens P t (Kd.iso d f) (fun x => wf (f x)) := by
  refine ⟨?_⟩
  intro H enc w base spare held fuel cs x h hw
  obtain ⟨xs, n, rfl, rfl, hl, hxl, hx⟩ := DataW.trod_struct ht h
  obtain ⟨y, hk, hy⟩ := hs.out enc w base spare held n cs xs (by omega) (by simpa using hxl) (fun i g hg => hx i g (by simpa using hg)) (fun m hm => hw m (by simpa [DataW.weights, ht] using hm))
  refine ⟨g y, ?_, ?_⟩
  · show d.K w (f (g y)) cs
    rw [hfg]
    simpa using hk
  · show wf (f (g y))
    rw [hfg]
    exact hy

/-- The same, a tuple of the fields. -/
theorem opens_struct0 {P : Program} {t : TypeId} {fs : Array Field} {α : Type} {d : Kd α} {wf : α → Prop} (ht : P.underlying t = some (.struct fs)) (hsz : P.cellsOf t = d.sz) (hs : OpensF P fs.toList 0 d wf) : Opens P t d wf :=
  opens_struct ht (fun y => y) (fun y => y) (fun _ => rfl) hsz hs

/-- A slice of kind d, as an argument. -/
theorem slice_arg {H : Type} {enc : TypeId × Value → H} {P : Program} {w : World} {base : Nat} {spare : Nat → Bool} {held : Bool} {t e : TypeId} {α : Type} {d : Kd α} {wf : List α → Prop} {v : Value} {D : DataW H} {ps : List MemPlace}
    (ho : Opens P t (Kd.slice e d) wf) (ht : P.underlying t = some (.slice e)) (hv : Value.okWide P w .any base t v) (h : DataW.Trod enc P w 0 spare held t v D ps) (hw : ∀ n ∈ D.weights P t, n ≤ reachBytes) :
    ∃ (A : Option Addr) (c : Nat) (l : List α), v = .slice A l.length c ∧ l.length ≤ c ∧ d.C w A l.length l ∧ wf l := by
  obtain ⟨fuel, hf⟩ := h
  obtain ⟨y, ⟨A, c, hcs, hl, hC⟩, hy⟩ := ho.out enc w 0 spare held fuel _ (D, ps) hf hw
  refine ⟨A, c, y, ?_, hl, hC, hy⟩
  obtain ⟨A', n', c', rfl⟩ := WideShapes.okWide_slice ht hv
  have hcs' : [Value.slice A' n' c'] = [Value.slice A y.length c] := hcs
  simpa using hcs'
/-- A struct by value, as an argument. -/
theorem struct_arg {H : Type} {enc : TypeId × Value → H} {P : Program} {w : World} {base : Nat} {spare : Nat → Bool} {held : Bool} {t : TypeId} {fs : Array Field} {α : Type} {d : Kd α} {wf : α → Prop} {v : Value} {D : DataW H} {ps : List MemPlace}
    (ho : Opens P t d wf) (ht : P.underlying t = some (.struct fs)) (hv : Value.okWide P w .any base t v) (h : DataW.Trod enc P w 0 spare held t v D ps) (hw : ∀ n ∈ D.weights P t, n ≤ reachBytes) :
    ∃ (cs : Array Value) (y : α), v = .agg cs ∧ d.K w y cs.toList ∧ wf y := by
  obtain ⟨fuel, hf⟩ := h
  obtain ⟨y, hK, hy⟩ := ho.out enc w 0 spare held fuel _ (D, ps) hf hw
  simp only [Value.okWide, ht] at hv
  obtain ⟨cs, rfl, _⟩ := hv
  exact ⟨cs, y, rfl, hK, hy⟩
end Go.Proofs.YtkfakciimeiehaaOpens
