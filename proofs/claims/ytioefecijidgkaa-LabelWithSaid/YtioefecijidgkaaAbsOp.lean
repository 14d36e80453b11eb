/- The abstract machine: a law's arguments, read as data, are told by content; what a law comes to. No program in sight. -/
import Derived.Test.YtioefecijidgkaaAbs19
import Derived.OpenShut
import Derived.SizedLaws
import Derived.DataElems
import Derived.ChangeOld
import Derived.Below
import Derived.Carry
set_option linter.unusedVariables false
set_option linter.unusedSimpArgs false
namespace Go.Proofs.YtioefecijidgkaaAbs
open Go Go.RowKit Go.ChangeShapes
/-- Whatever is read as data of type t is told by some y: its cells are c y, and it meets wf. -/
structure OpensC (P : Program) (t : TypeId) {α : Type} (sz : Nat) (c : α → Nat → CV) (wf : α → Prop) : Prop where mk ::
  out : ∀ {H : Type} (enc : TypeId × Value → H) (w : World) (base : Nat) (spare : Nat → Bool) (held : Bool) (fuel : Nat) (cs : List Value) (x : DataW H × List MemPlace),
    DataW.trod enc P w base spare held fuel t cs = some x → (∀ n ∈ x.1.weights P t, n ≤ reachBytes) → ∃ y : α, wf y ∧ cs.length = sz ∧ ∀ (k : Nat) (u : Value), cs[k]? = some u → RelC (fun ad => w.cell? ad) (c y k) u
def CInt (k : IntKind) (n : Int) (_ : Nat) : CV := .v (.int k n)
def CBool (b : Bool) (_ : Nat) : CV := .v (.bool b)
def CStr (s : ByteArray) (_ : Nat) : CV := .v (.string s)
def CSl {α : Type} [Inhabited α] (sz : Nat) (c : α → Nat → CV) (l : List α) (_ : Nat) : CV := .imm sz l.length fun i j => c (l.getD i default) j
def CPair {α β : Type} (sz : Nat) (a : α → Nat → CV) (b : β → Nat → CV) (y : α × β) (k : Nat) : CV := bif decide (k < sz) then a y.1 k else b y.2 (k - sz)
def WInt (k : IntKind) (n : Int) : Prop := (Lit.int k n).wf = true
def WAny {α : Type} (_ : α) : Prop := True
def WStr (s : ByteArray) : Prop := s.size ≤ 140737488351232
def WSlice (bytes : Nat) {α : Type} (wf : α → Prop) (xs : List α) : Prop := xs.length * bytes ≤ 140737488351232 ∧ ∀ x ∈ xs, wf x
def WPair {α β : Type} (a : α → Prop) (b : β → Prop) (y : α × β) : Prop := a y.1 ∧ b y.2
theorem opens_int {P : Program} {t : TypeId} {k : IntKind} (ht : P.underlying t = some (.int k)) : OpensC P t 1 (CInt k) (WInt k) := by
  refine ⟨?_⟩
  intro H enc w base spare held fuel cs x h _
  obtain ⟨n, rfl, _, hw⟩ := DataW.trod_int ht h
  refine ⟨n, hw, rfl, fun k u hu => ?_⟩
  match k, hu with
  | 0, hu => simp at hu; subst hu; exact ⟨rfl, rfl⟩
theorem opens_bool {P : Program} {t : TypeId} (ht : P.underlying t = some .bool) : OpensC P t 1 CBool WAny := by
  refine ⟨?_⟩
  intro H enc w base spare held fuel cs x h _
  obtain ⟨n, rfl, _⟩ := DataW.trod_bool ht h
  refine ⟨n, trivial, rfl, fun k u hu => ?_⟩
  match k, hu with
  | 0, hu => simp at hu; subst hu; exact ⟨rfl, rfl⟩
theorem opens_string {P : Program} {t : TypeId} (ht : P.underlying t = some .string) : OpensC P t 1 CStr WStr := by
  refine ⟨?_⟩
  intro H enc w base spare held fuel cs x h hw
  obtain ⟨n, rfl, rfl, _⟩ := DataW.trod_string ht h
  refine ⟨n, ?_, rfl, fun k u hu => ?_⟩
  · have := hw n.data.toList.length (by simp [DataW.weights])
    have e : n.data.toList.length = n.size := Array.length_toList
    rw [e] at this
    exact this
  match k, hu with
  | 0, hu => simp at hu; subst hu; exact ⟨rfl, rfl⟩
theorem weightsAll_mem {H : Type} {P : Program} {e : TypeId} : ∀ {l : List (DataW H)} {d : DataW H}, d ∈ l → ∀ n ∈ d.weights P e, n ∈ DataW.weightsAll P e l
  | d0 :: l, d, hd, n, hn => by
    simp only [DataW.weightsAll, List.mem_append]
    rcases List.mem_cons.1 hd with rfl | hd
    · exact .inl hn
    · exact .inr (weightsAll_mem hd n hn)
  | [], d, hd, _, _ => by simp at hd
theorem opens_slice {P : Program} {t e : TypeId} {α : Type} [Inhabited α] {sz : Nat} {c : α → Nat → CV} {wf : α → Prop} (ht : P.underlying t = some (.slice e)) (bytes : Nat) (hby : P.bytesOf e = bytes) (hsz : P.cellsOf e = sz) (he : OpensC P e sz c wf) :
    OpensC P t 1 (CSl sz c) (WSlice bytes wf) := by
  refine ⟨?_⟩
  intro H enc w base spare held fuel cs x h hw
  rcases DataW.trod_slice ht h with ⟨rfl, rfl⟩ | ⟨a, len, cap, elems, rest, n, _, rfl, rfl, hb, hl, hm, hlen, hel, hsp, hns⟩
  · refine ⟨[], ⟨by simp, by simp⟩, rfl, fun k u hu => ?_⟩
    match k, hu with
    | 0, hu => simp at hu; subst hu; exact ⟨none, 0, rfl, Nat.le_refl _, .inl rfl⟩
  · have hwt : ∀ m ∈ (DataW.slice (elems.map (·.1)) (rest.map (·.1))).weights P t, m ≤ reachBytes := hw
    have key : ∀ i, i < len → ∃ y, wf y ∧ ∃ c0 : List Value, c0.length = sz ∧ (∀ j u, c0[j]? = some u → RelC (fun ad => w.cell? ad) (c y j) u) ∧ ∀ j u, c0[j]? = some u → w.cell? (a.add (i * sz + j)) = some u := by
      intro i hi
      have h1 := hel i hi
      have hi' : i < elems.length := by omega
      rw [List.getElem?_eq_getElem hi', Option.bind_eq_some_iff] at h1
      obtain ⟨c0, hc, h2⟩ := h1
      obtain ⟨hbb, hcl, hcell⟩ := World.cells?_some hc
      have hwt2 : ∀ m ∈ (elems[i].1).weights P e, m ≤ reachBytes := by
        intro m hmm
        refine hwt m ?_
        simp only [DataW.weights, ht]
        refine List.mem_cons_of_mem _ (List.mem_append_left _ (weightsAll_mem (d := elems[i].1) ?_ m hmm))
        exact List.mem_map.2 ⟨elems[i], List.getElem_mem hi', rfl⟩
      obtain ⟨y, hy, hcs, hk⟩ := he.out enc w base spare held n c0 elems[i] h2 hwt2
      refine ⟨y, hy, c0, hcs, hk, fun j u hu => ?_⟩
      have hj : j < P.cellsOf e := by have := (List.getElem?_eq_some_iff.1 hu).1; omega
      rw [← hsz, ← Addr.add_add, hcell j hj, hu]
    obtain ⟨ys, hyl, hys⟩ := choose_list len key
    refine ⟨ys, ⟨?_, ?_⟩, rfl, fun k u hu => ?_⟩
    · have := hwt ((elems.length + rest.length) * P.bytesOf e) (by simp [DataW.weights, ht])
      rw [hby] at this
      have h3 : ys.length * bytes ≤ (elems.length + rest.length) * bytes := Nat.mul_le_mul_right _ (by omega)
      have h4 : reachBytes = 140737488351232 := rfl
      omega
    · intro y hy
      obtain ⟨i, hi⟩ := List.getElem?_of_mem hy
      exact (hys i y hi).1
    · match k, hu with
      | 0, hu =>
        simp at hu
        subst hu
        refine ⟨some a, cap, by rw [hyl], by omega, .inr ⟨a, rfl, fun i hi j hj => ?_⟩⟩
        have hi2 : i < ys.length := hi
        obtain ⟨_, c0, hcs, hk, hcell⟩ := hys i ys[i] (List.getElem?_eq_getElem hi2)
        have hj2 : j < c0.length := by omega
        refine ⟨c0[j], hcell j _ (List.getElem?_eq_getElem hj2), ?_⟩
        have : ys.getD i default = ys[i] := by simp [List.getD_eq_getElem?_getD, hi2]
        show RelC _ (c (ys.getD i default) j) _
        rw [this]
        exact hk j _ (List.getElem?_eq_getElem hj2)
/-- The fields from one on, which lie one behind the other. -/
structure OpensF (P : Program) (fs : List Field) (off : Nat) {α : Type} (sz : Nat) (c : α → Nat → CV) (wf : α → Prop) : Prop where mk ::
  out : ∀ {H : Type} (enc : TypeId × Value → H) (w : World) (base : Nat) (spare : Nat → Bool) (held : Bool) (fuel : Nat) (cs : List Value) (xs : List (DataW H × List MemPlace)),
    cs.length = off + sz → xs.length = fs.length → (∀ (i : Nat) (f : Field), fs[i]? = some f → DataW.trod enc P w base spare held fuel f.type ((cs.drop f.offset).take (P.cellsOf f.type)) = xs[i]?) →
    (∀ n ∈ DataW.weightsEach P (fs.map (·.type)) (xs.map (·.1)), n ≤ reachBytes) → ∃ y : α, wf y ∧ ∀ (k : Nat) (u : Value), cs[off + k]? = some u → RelC (fun ad => w.cell? ad) (c y k) u
theorem opensF_one {P : Program} {f : Field} {off sz : Nat} {α : Type} {c : α → Nat → CV} {wf : α → Prop} (ho : f.offset = off) (hsz : P.cellsOf f.type = sz) (h : OpensC P f.type sz c wf) : OpensF P [f] off sz c wf := by
  refine ⟨?_⟩
  intro H enc w base spare held fuel cs xs hl hxl hx hw
  have h0 := hx 0 f rfl
  obtain ⟨x0, rfl⟩ : ∃ x0, xs = [x0] := by
    match xs, hxl with
    | [x0], _ => exact ⟨x0, rfl⟩
  simp only [List.getElem?_cons_zero] at h0
  rw [ho, hsz, List.take_of_length_le (by simp; omega)] at h0
  obtain ⟨y, hy, hcl, hr⟩ := h.out enc w base spare held fuel _ x0 h0 (fun n hn => hw n (by simp [DataW.weightsEach, hn]))
  exact ⟨y, hy, fun k u hu => hr k u (by rw [List.getElem?_drop]; exact hu)⟩
theorem opensF_cons {P : Program} {f : Field} {fs : List Field} {off sz sz' : Nat} {α β : Type} {c : α → Nat → CV} {c' : β → Nat → CV} {wf : α → Prop} {wf' : β → Prop} (ho : f.offset = off) (hsz : P.cellsOf f.type = sz) (h : OpensC P f.type sz c wf)
    (hs : OpensF P fs (off + sz) sz' c' wf') : OpensF P (f :: fs) off (sz + sz') (CPair sz c c') (WPair wf wf') := by
  refine ⟨?_⟩
  intro H enc w base spare held fuel cs xs hl hxl hx hw
  obtain ⟨x0, xr, rfl⟩ : ∃ x0 xr, xs = x0 :: xr := by
    match xs, hxl with
    | x0 :: xr, _ => exact ⟨x0, xr, rfl⟩
  have h0 := hx 0 f rfl
  simp only [List.getElem?_cons_zero] at h0
  rw [ho, hsz] at h0
  obtain ⟨y0, hy0, hc0, hr0⟩ := h.out enc w base spare held fuel _ x0 h0 (fun n hn => hw n (by simp [DataW.weightsEach, hn]))
  obtain ⟨y1, hy1, hr1⟩ := hs.out enc w base spare held fuel cs xr (by omega) (by simpa using hxl) (fun i g hg => by have := hx (i + 1) g (by simpa using hg); simpa using this) (fun n hn => hw n (by simp only [List.map_cons, DataW.weightsEach, List.mem_append]; exact .inr hn))
  refine ⟨(y0, y1), ⟨hy0, hy1⟩, fun k u hu => ?_⟩
  unfold CPair
  by_cases hk : k < sz
  · simp only [hk, decide_true, cond_true]
    exact hr0 k u (by rw [List.getElem?_take, if_pos hk, List.getElem?_drop]; exact hu)
  · simp only [hk, decide_false, cond_false]
    refine hr1 (k - sz) u ?_
    rw [show off + sz + (k - sz) = off + k by omega]
    exact hu
theorem opens_struct {P : Program} {t : TypeId} {fs : Array Field} {sz : Nat} {α β : Type} {c : β → Nat → CV} {c' : α → Nat → CV} {wf : β → Prop} {wf' : α → Prop} (ht : P.underlying t = some (.struct fs)) (hsz : P.cellsOf t = sz) (hs : OpensF P fs.toList 0 sz c wf)
    (g : β → α) (hc : ∀ y k, k < sz → c y k = c' (g y) k) (hw : ∀ y, wf y → wf' (g y)) : OpensC P t sz c' wf' := by
  refine ⟨?_⟩
  intro H enc w base spare held fuel cs x h hwt
  obtain ⟨xs, n, rfl, rfl, hl, hxl, hx⟩ := DataW.trod_struct ht h
  obtain ⟨y, hy, hr⟩ := hs.out enc w base spare held n cs xs (by omega) (by simpa using hxl) (fun i g hg => hx i g (by simpa using hg)) (fun m hm => hwt m (by simpa [DataW.weights, ht] using hm))
  refine ⟨g y, hw y hy, by omega, fun k u hu => ?_⟩
  have := (List.getElem?_eq_some_iff.1 hu).1
  rw [← hc y k (by omega)]
  exact hr k u (by rw [Nat.zero_add]; exact hu)
/-- A slice, as an argument. -/
theorem slice_arg {H : Type} {enc : TypeId × Value → H} {P : Program} {w : World} {base : Nat} {spare : Nat → Bool} {held : Bool} {t e : TypeId} {α : Type} {c : α → Nat → CV} {wf : α → Prop} {v : Value} {D : DataW H} {ps : List MemPlace}
    (ho : OpensC P t 1 c wf) (ht : P.underlying t = some (.slice e)) (hv : Value.okWide P w .any base t v) (h : DataW.Trod enc P w 0 spare held t v D ps) (hw : ∀ n ∈ D.weights P t, n ≤ reachBytes) :
    ∃ y : α, wf y ∧ RelP (fun ad => w.cell? ad) [] (.one (.c (c y 0))) v := by
  obtain ⟨fuel, hf⟩ := h
  obtain ⟨y, hy, hl, hr⟩ := ho.out enc w 0 spare held fuel _ (D, ps) hf hw
  obtain ⟨A', n', c', rfl⟩ := WideShapes.okWide_slice ht hv
  exact ⟨y, hy, hr 0 _ rfl⟩
/-- A struct, as an argument. -/
theorem struct_arg {H : Type} {enc : TypeId × Value → H} {P : Program} {w : World} {base : Nat} {spare : Nat → Bool} {held : Bool} {t : TypeId} {fs : Array Field} {sz : Nat} {α : Type} {c : α → Nat → CV} {wf : α → Prop} {v : Value} {D : DataW H} {ps : List MemPlace}
    (ho : OpensC P t sz c wf) (ht : P.underlying t = some (.struct fs)) (hv : Value.okWide P w .any base t v) (h : DataW.Trod enc P w 0 spare held t v D ps) (hw : ∀ n ∈ D.weights P t, n ≤ reachBytes) :
    ∃ y : α, wf y ∧ RelP (fun ad => w.cell? ad) [] (.agg (cellsUp (c y) 0 sz)) v := by
  obtain ⟨fuel, hf⟩ := h
  obtain ⟨y, hy, hl, hr⟩ := ho.out enc w 0 spare held fuel _ (D, ps) hf hw
  simp only [Value.okWide, ht] at hv
  obtain ⟨cs, rfl, _⟩ := hv
  have up : ∀ (n k j : Nat) (a : AV), (cellsUp (c y) k n)[j]? = some a → a = .c (c y (k + j)) := by
    intro n
    induction n with
    | zero => intro k j a h; simp [cellsUp] at h
    | succ n ih =>
      intro k j a h
      cases j with
      | zero => simp [cellsUp] at h; rw [← h]; rfl
      | succ j => have := ih (k + 1) j a (by simpa [cellsUp] using h); rw [this, show k + 1 + j = k + (j + 1) by omega]
  have upl : ∀ (n k : Nat), (cellsUp (c y) k n).length = n := by
    intro n
    induction n with
    | zero => intro k; rfl
    | succ n ih => intro k; simp [cellsUp, ih]
  refine ⟨y, hy, cs, rfl, ?_, fun k a x ha hx => ?_⟩
  · rw [upl]; exact hl
  · have := up _ _ _ _ ha
    subst this
    rw [Nat.zero_add]
    exact hr k x hx
theorem rel_int {I : Im} (k : IntKind) (n : Int) : RelP I [] (.one (.c (.v (.int k n)))) (.int k n) := ⟨rfl, rfl⟩
theorem rel_bool {I : Im} (b : Bool) : RelP I [] (.one (.c (.v (.bool b)))) (.bool b) := ⟨rfl, rfl⟩
theorem rel_string {I : Im} (s : ByteArray) : RelP I [] (.one (.c (.v (.string s)))) (.string s) := ⟨rfl, rfl⟩
def RelPs (w : World) : List Pt → List Value → Prop
  | [], [] => True
  | q :: qs, x :: xs => RelP (fun ad => w.cell? ad) [] q x ∧ RelPs w qs xs
  | _, _ => False
theorem RelPs.length {w : World} : ∀ {ps : List Pt} {vs : List Value}, RelPs w ps vs → vs.length = ps.length
  | [], [], _ => rfl
  | q :: qs, x :: xs, h => by simp [RelPs.length h.2]
theorem RelPs.get {w : World} : ∀ {ps : List Pt} {vs : List Value}, RelPs w ps vs → ∀ (k : Nat) (q : Pt) (x : Value), ps[k]? = some q → vs[k]? = some x → RelP (fun ad => w.cell? ad) [] q x
  | q :: qs, y :: ys, h, 0, p, x, hp, hx => by
    injection hp with hp; injection hx with hx; subst hp; subst hx; exact h.1
  | q :: qs, y :: ys, h, k + 1, p, x, hp, hx => RelPs.get h.2 k p x hp hx
theorem GI_none {P : Program} {I : Im} (h : P.globals.findIdx? (fun x => x.name == "internal/bytealg.MaxLen") = none) : GI P I := fun g hg => by rw [h] at hg; cases hg
theorem GI_some {P : Program} {I : Im} {g : Nat} {m : Int} (h : P.globals.findIdx? (fun x => x.name == "internal/bytealg.MaxLen") = some g) (hI : I ⟨g, 0, none⟩ = some (.int .i64 m)) : GI P I := fun g' hg => by rw [h] at hg; injection hg with hg; subst hg; exact ⟨m, hI⟩
/-- What a law that is told true comes to. -/
theorem law_calls {P : Program} {f n : Nat} {c : C} {rvs : List RV} {ps : List Pt} (hF : Fun P f n c rvs) {b : Bool} (h : CallR P [] f ps (.b b) []) {w : World} {vals : Array Value} (hG : GI P (fun ad => w.cell? ad)) (hr : RelPs w ps vals.toList) : Calls P f vals w fun e w' => e = .returned (.bool b) ∧ Below w.heap.size w w' := by
  have hm : Mem (fun ad => w.cell? ad) [] [] w := ⟨rfl, fun b x p h => by simp at h, fun b b' x x' p p' g h => by simp at h, fun b x p g h => by simp at h, fun a x h => h⟩
  obtain ⟨fn, code, hf, hname, hb, rfl, hc, hrs⟩ := hF.ex
  have hno : ∀ g, ¬ Has ([] : List Plc) [] g := by rintro g ⟨b, x, p, h, _⟩; simp at h
  rcases h _ [] w vals hG hm (by have := hr.length; simpa using this) (fun k q x hq hx => hr.get k q x hq (by simpa using hx)) with ⟨_, hc⟩ | ⟨v, w', hrun, _⟩
  · refine hc.mono ?_
    rintro e w' ⟨v, rfl, I', σ', ⟨rfl, _⟩, hev⟩
    exact ⟨rfl, hev.keep.os, hev.keep.tape, hev.keep.output, hev.keep.size, fun k hk => hev.keep.block k hk (hno k)⟩
  · exfalso
    have hrun2 : (callFunc f vals).run P w = .ok (.enter f vals) w := by
      simp only [callFunc, program, Sem.run, Sem.run_bind, Sem.run_pure, Result.andThen_ok, hf]
      simp only [hname, Bool.false_eq_true, if_false]
      have hb : fn.body.isNone = false := by rw [hb]; rfl
      simp [hb]
    rw [hrun] at hrun2
    simp at hrun2
end Go.Proofs.YtioefecijidgkaaAbs
