/- The abstract machine: turns in the telling alone (less is told; a row is no longer written; a nil slice is taken for a row of one's own), and what a function comes to. -/
import Derived.Test.YtioefecijidgkaaAbs12
set_option linter.unusedVariables false
set_option linter.unusedSimpArgs false
namespace Go.Proofs.YtioefecijidgkaaAbs
open Go Go.RowKit

/-! ### Less is told -/
def ltA (n : Nat) : AV → Prop
  | .c _ => True
  | .ptr b _ _ _ => b < n
  | .arr _ b _ _ _ => b < n
  | .ip _ _ => True
  | .fn _ k caps => ∀ i, i < k → ltA n (caps i)
def ltP (n : Nat) : Pt → Prop
  | .one a => ltA n a
  | .agg l => ∀ a ∈ l, ltA n a
def ltS (n : Nat) : SV → Prop
  | .p q => ltP n q
  | .tup l => ∀ q ∈ l, ltP n q
  | .g _ s => ltS n s
  | .any => True
def ltB (n : Nat) : Blk → Prop
  | .rows _ _ _ l _ => ∀ r ∈ l, ∀ a ∈ r, ltA n a
  | _ => True
theorem take_get {σ : List Plc} {n b : Nat} {p : Plc} (hb : b < n) (h : σ[b]? = some p) : (σ.take n)[b]? = some p := by rw [List.getElem?_take, if_pos hb]; exact h
theorem RelA_take {I : Im} {σ : List Plc} {n : Nat} : ∀ {a : AV} {y : Value}, ltA n a → RelA I σ a y → RelA I (σ.take n) a y := by
  intro a
  induction a with
  | c x => intro y _ h; exact h
  | ptr b ver i j => rintro y hb ⟨h1, p, hp, h⟩; exact ⟨h1, p, take_get hb hp, h⟩
  | arr sz b ver off len => rintro y hb ⟨h1, p, hp, h⟩; exact ⟨h1, p, take_get hb hp, h⟩
  | ip n c => intro y _ h; exact h
  | fn f k caps ih => rintro y hb ⟨cs, e, hs, h⟩; exact ⟨cs, e, hs, fun i x hx => ih i (hb i (by have := (Array.getElem?_eq_some_iff.1 hx).1; omega)) (h i x hx)⟩
theorem RelP_take {I : Im} {σ : List Plc} {n : Nat} {q : Pt} {y : Value} (hq : ltP n q) (h : RelP I σ q y) : RelP I (σ.take n) q y := by
  cases q with
  | one a => exact RelA_take hq h
  | agg l => obtain ⟨cs, e, h1, h2⟩ := h; exact ⟨cs, e, h1, fun k a x ha hx => RelA_take (hq a (List.mem_of_getElem? ha)) (h2 k a x ha hx)⟩
theorem RelS_take {I : Im} {σ : List Plc} {n : Nat} : ∀ {s : SV} {y : Value}, ltS n s → RelS I σ s y → RelS I (σ.take n) s y := by
  intro s
  induction s with
  | p q => intro y hq h; exact RelP_take hq h
  | tup l => rintro y hq ⟨vs, e, hs, h⟩; exact ⟨vs, e, hs, fun k q x hk hx => RelP_take (hq q (List.mem_of_getElem? hk)) (h k q x hk hx)⟩
  | g c s ih => intro y hq h; exact ⟨fun hc => ih hq (h.1 hc), h.2⟩
  | any => intro y _ _; exact trivial
theorem RelB_take {I : Im} {σ : List Plc} {n : Nat} {w : World} {p : Plc} {x : Blk} (hx : ltB n x) (h : RelB I σ w p x) : RelB I (σ.take n) w p x := by
  cases x with
  | dead => trivial
  | sit s pos => exact h
  | rows t sz ver l f =>
    obtain ⟨h0, h1, h2, h3, h4, h5, h6⟩ := h
    refine ⟨h0, h1, h2, h3, h4, h5, ?_⟩
    cases hb : p.blk with
    | none => rw [hb] at h6; exact h6
    | some g =>
      rw [hb] at h6
      obtain ⟨cs, hh, hs, ho, hc⟩ := h6
      refine ⟨cs, hh, hs, ho, fun i r hr j a ha => ?_⟩
      obtain ⟨x, hx1, hra⟩ := hc i r hr j a ha
      exact ⟨x, hx1, RelA_take (hx r (List.mem_of_getElem? hr) a (List.mem_of_getElem? ha)) hra⟩
/-- What is told of a slot: the same, or nothing, or the same in other words. -/
def SubS (s s' : SV) : Prop := ∀ I σ y, RelS I σ s y → RelS I σ s' y
theorem SubS.refl (s : SV) : SubS s s := fun _ _ _ h => h
theorem SubS.any (s : SV) : SubS s .any := fun _ _ _ _ => trivial
theorem SubS.nil (sz : Nat) (c : Nat → Nat → CV) : SubS (.p (.one (.c (.v (.slice none 0 0))))) (.p (.one (.c (.imm sz 0 c)))) := by
  rintro I σ y ⟨rfl, _⟩
  exact ⟨none, 0, rfl, Nat.le_refl _, .inl rfl⟩
theorem SubS.imm0 (sz sz' : Nat) (c c' : Nat → Nat → CV) : SubS (.p (.one (.c (.imm sz 0 c)))) (.p (.one (.c (.imm sz' 0 c')))) := by
  rintro I σ y ⟨A, cap, e, h, _⟩
  exact ⟨A, cap, e, h, .inl rfl⟩
theorem SubS.true_ (s : SV) : SubS (.g true s) s := fun _ _ _ h => h.1 rfl
/-- Slots told one by one; nothing is told of the others. -/
def envL : List (Nat × SV) → Nat → SV
  | [] => fun _ => .any
  | (i, v) :: l => upd (envL l) i v
section
variable {n m : Nat} {s s' : St}
theorem gh_env {e : Nat → SV} {M : List Blk} {e' : Nat → SV} (h : ∀ i, SubS (e i) (e' i)) : Gh n m ⟨e, M⟩ ⟨e', M⟩ := by
  rintro I0 σ0 M0 w0 a w hm ⟨I, σ, hev, he, h1, h2⟩
  exact ⟨I, σ, hev, fun i => h i _ _ _ (he i), h1, h2⟩
theorem sub_envL {e : Nat → SV} : ∀ {l : List (Nat × SV)}, (∀ p ∈ l, SubS (e p.1) p.2) → ∀ i, SubS (e i) (envL l i)
  | [], h, i => SubS.any _
  | (j, v) :: l, h, i => by
    unfold envL upd
    by_cases hi : i = j
    · subst hi
      rw [if_pos rfl]
      exact h (i, v) (by simp)
    · rw [if_neg hi]
      exact sub_envL (fun p hp => h p (by simp [hp])) i
/-- Some slots are told, some blocks; what lies behind them is forgotten. -/
theorem gh_drop {e : Nat → SV} {M M' D : List Blk} {l : List (Nat × SV)} (hM : M = M' ++ D) (hm' : m ≤ M'.length) (hl : ∀ p ∈ l, SubS (e p.1) p.2 ∧ ltS M'.length p.2) (hB : ∀ x ∈ M', ltB M'.length x) : Gh n m ⟨e, M⟩ ⟨envL l, M'⟩ := by
  rintro I0 σ0 M0 w0 a w hm ⟨I, σ, hev, he, h1, h2⟩
  subst hM
  have hlen : σ.length = (M' ++ D).length := hev.mem.len
  have hget : ∀ {b : Nat} {x : Blk} {p : Plc}, M'[b]? = some x → (σ.take M'.length)[b]? = some p → (M' ++ D)[b]? = some x ∧ σ[b]? = some p := by
    intro b x p hx hp
    have hb := getElem?_lt hx
    rw [List.getElem?_take, if_pos hb] at hp
    exact ⟨by rw [List.getElem?_append_left hb]; exact hx, hp⟩
  refine ⟨I, σ.take M'.length, ⟨hev.extI, ?_, ⟨?_, ?_, ?_, ?_, hev.mem.imm⟩, hev.keep, ?_, hev.fresh⟩, ?_, h1, h2⟩
  · intro b p hp
    obtain ⟨p', hp', hq⟩ := hev.extP b p hp
    have hs0 : b < σ0.length := getElem?_lt hp
    exact ⟨p', take_get (by omega) hp', hq⟩
  · simp at hlen ⊢; omega
  · intro b x p hx hp
    obtain ⟨k1, k2⟩ := hget hx hp
    exact RelB_take (hB x (List.mem_of_getElem? hx)) (hev.mem.blk b x p k1 k2)
  · intro b b' x x' p p' g h1 h2 l1 l2 q1 q2 e1 e2
    obtain ⟨k1, k2⟩ := hget h1 q1
    obtain ⟨k3, k4⟩ := hget h2 q2
    exact hev.mem.inj b b' x x' p p' g k1 k3 l1 l2 k2 k4 e1 e2
  · intro b x p g h1 l1 q1 e1
    obtain ⟨k1, k2⟩ := hget h1 q1
    exact hev.mem.ap b x p g k1 l1 k2 e1
  · rintro g ⟨b, x, p, h1, l1, q1, e1⟩
    obtain ⟨k1, k2⟩ := hget h1 q1
    exact hev.own g ⟨b, x, p, k1, l1, k2, e1⟩
  · intro i
    have key : ∀ {l : List (Nat × SV)}, (∀ p ∈ l, SubS (e p.1) p.2 ∧ ltS M'.length p.2) → RelS I (σ.take M'.length) (envL l i) (a.tmps.getD i undef) := by
      intro l
      induction l with
      | nil => intro _; exact trivial
      | cons q l ih =>
        intro hl
        obtain ⟨j, v⟩ := q
        unfold envL upd
        by_cases hi : i = j
        · subst hi
          rw [if_pos rfl]
          exact RelS_take (hl (i, v) (by simp)).2 ((hl (i, v) (by simp)).1 _ _ _ (he i))
        · rw [if_neg hi]
          exact ih (fun p hp => hl p (by simp [hp]))
    exact key hl
/-! ### A row is no longer written: whoever looks at it sees its elements -/
def toC : AV → CV
  | .c x => x
  | _ => .v (.tuple #[])
def frzA (b ver : Nat) (l : List (List AV)) : AV → AV
  | .arr sz b' ver' off len => if b' = b ∧ ver' = ver ∧ off + len ≤ l.length then .c (.imm sz len (fun i j => toC ((l.getD (off + i) []).getD j default))) else .arr sz b' ver' off len
  | .ptr b' ver' i j => if b' = b ∧ ver' = ver ∧ i < l.length then .ip ((l.getD i []).length - j) (fun k => toC ((l.getD i []).getD (j + k) default)) else .ptr b' ver' i j
  | .fn f k caps => .fn f k (fun i => frzA b ver l (caps i))
  | a => a
def frzP (b ver : Nat) (l : List (List AV)) : Pt → Pt
  | .one a => .one (frzA b ver l a)
  | .agg as => .agg (as.map (frzA b ver l))
def frzS (b ver : Nat) (l : List (List AV)) : SV → SV
  | .p q => .p (frzP b ver l q)
  | .tup qs => .tup (qs.map (frzP b ver l))
  | .g c s => .g c (frzS b ver l s)
  | .any => .any
def frzB (b ver : Nat) (l : List (List AV)) : Blk → Blk
  | .rows t sz v rs f => .rows t sz v (rs.map (·.map (frzA b ver l))) f
  | x => x
def closedRows (l : List (List AV)) : Prop := ∀ r ∈ l, ∀ a ∈ r, ∃ x, a = .c x
section
variable {I I' : Im} {σ : List Plc} {b t sz ver : Nat} {l : List (List AV)} {fl : Bool} {w : World} {p : Plc}
theorem frzA_rel (hext : ExtI I I') (hp : σ[b]? = some p) (hb : RelB I σ w p (.rows t sz ver l fl)) (hcl : closedRows l) (hI : ∀ g, p.blk = some g → ∀ ad x, ad.block = g → w.cell? ad = some x → I' ad = some x) :
    ∀ {a : AV} {y : Value}, RelA I σ a y → RelA I' σ (frzA b ver l a) y := by
  intro a
  induction a with
  | c x => intro y h; exact RelC_mono hext h
  | ptr b' v i j =>
    intro y h
    unfold frzA
    split
    · rename_i hc
      obtain ⟨rfl, rfl, hi⟩ := hc
      obtain ⟨h1, p', hp', hv, hq⟩ := h
      obtain rfl : p = p' := by rw [hp] at hp'; injection hp'
      obtain ⟨k0, k1, k2, k3, k4, k5, k6⟩ := hb
      obtain ⟨g, hg, rfl⟩ := hq k2
      rw [hg] at k6
      obtain ⟨cs, hh, hs, ho, hcs⟩ := k6
      refine ⟨_, rfl, fun k hk => ?_⟩
      have hr : l[i]? = some (l.getD i []) := getD_some hi
      have hu : (l.getD i [])[j + k]? = some ((l.getD i []).getD (j + k) default) := getD_some (by omega)
      obtain ⟨x, hx1, hx2⟩ := hcs _ _ hr (j + k) _ hu
      obtain ⟨cv, hcv⟩ := hcl _ (List.mem_of_getElem? hr) _ (List.mem_of_getElem? hu)
      rw [hcv] at hx2
      refine ⟨x, hI g hg _ x (by rw [add_mk]) ?_, ?_⟩
      · rw [add_mk, cell_of_row w g _ cs t (0, 0) hh, k1, show i * sz + j + k = i * sz + (j + k) by omega]
        exact hx1
      · show RelC I' (toC ((l.getD i []).getD (j + k) default)) x
        rw [hcv]
        exact RelC_mono hext hx2
    · exact RelA_mono hext (ExtP.refl _) h
  | ip n c => intro y h; exact RelA_mono hext (ExtP.refl _) h
  | fn f k caps ih => rintro y ⟨cs, e, hs, h⟩; exact ⟨cs, e, hs, fun i x hx => ih i (h i x hx)⟩
  | arr sz' b' v off len =>
    intro y h
    unfold frzA
    split
    · rename_i hc
      obtain ⟨rfl, rfl, hle⟩ := hc
      obtain ⟨h1, p', hp', hv, hq⟩ := h
      obtain rfl : p = p' := by rw [hp] at hp'; injection hp'
      obtain ⟨k0, k1, k2, k3, k4, k5, k6⟩ := hb
      obtain ⟨e1, e2, e3⟩ := hq k2
      have e1' : sz = sz' := by rw [← k1, e1]
      subst e1'
      refine ⟨_, _, e3, by omega, ?_⟩
      by_cases hl0 : len = 0
      · exact .inl hl0
      · cases hbk : p.blk with
        | none =>
          rw [hbk] at k6
          have k6 : p.cap = 0 := k6
          omega
        | some g =>
          rw [hbk] at k6
          obtain ⟨cs, hh, hs, ho, hcs⟩ := k6
          refine .inr ⟨⟨g, off * sz, none⟩, rfl, fun i hi j hj => ?_⟩
          have hr : l[off + i]? = some (l.getD (off + i) []) := getD_some (by omega)
          have hrs := k5 _ _ hr
          have hu : (l.getD (off + i) [])[j]? = some ((l.getD (off + i) []).getD j default) := getD_some (by omega)
          obtain ⟨x, hx1, hx2⟩ := hcs _ _ hr j _ hu
          obtain ⟨cv, hcv⟩ := hcl _ (List.mem_of_getElem? hr) _ (List.mem_of_getElem? hu)
          rw [hcv] at hx2
          refine ⟨x, hI g hbk _ x (by rw [add_mk]) ?_, ?_⟩
          · rw [add_mk, cell_of_row w g _ cs t (0, 0) hh, show off * sz + (i * sz + j) = (off + i) * sz + j by rw [Nat.add_mul]; omega]
            exact hx1
          · show RelC I' (toC ((l.getD (off + i) []).getD j default)) x
            rw [hcv]
            exact RelC_mono hext hx2
    · exact RelA_mono hext (ExtP.refl _) h
theorem frzP_rel (hext : ExtI I I') (hp : σ[b]? = some p) (hb : RelB I σ w p (.rows t sz ver l fl)) (hcl : closedRows l) (hI : ∀ g, p.blk = some g → ∀ ad x, ad.block = g → w.cell? ad = some x → I' ad = some x) {q : Pt} {y : Value} (h : RelP I σ q y) : RelP I' σ (frzP b ver l q) y := by
  cases q with
  | one a => exact frzA_rel hext hp hb hcl hI h
  | agg as =>
    obtain ⟨cs, e, h1, h2⟩ := h
    refine ⟨cs, e, by simpa using h1, fun k a x ha hx => ?_⟩
    simp only [List.getElem?_map, Option.map_eq_some_iff] at ha
    obtain ⟨a', ha', rfl⟩ := ha
    exact frzA_rel hext hp hb hcl hI (h2 k a' x ha' hx)
theorem frzS_rel (hext : ExtI I I') (hp : σ[b]? = some p) (hb : RelB I σ w p (.rows t sz ver l fl)) (hcl : closedRows l) (hI : ∀ g, p.blk = some g → ∀ ad x, ad.block = g → w.cell? ad = some x → I' ad = some x) : ∀ {s : SV} {y : Value}, RelS I σ s y → RelS I' σ (frzS b ver l s) y := by
  intro s
  induction s with
  | p q => intro y h; exact frzP_rel hext hp hb hcl hI h
  | tup qs =>
    rintro y ⟨vs, e, hs, h⟩
    refine ⟨vs, e, by simpa using hs, fun k q x hq hx => ?_⟩
    simp only [List.getElem?_map, Option.map_eq_some_iff] at hq
    obtain ⟨q', hq', rfl⟩ := hq
    exact frzP_rel hext hp hb hcl hI (h k q' x hq' hx)
  | g c s ih => intro y h; exact ⟨fun hc => ih (h.1 hc), h.2⟩
  | any => intro y _; exact trivial
end
theorem gh_freeze {e : Nat → SV} {M : List Blk} {b t sz ver : Nat} {l : List (List AV)} {fl : Bool} (hM : M[b]? = some (.rows t sz ver l fl)) (hcl : closedRows l) : Gh n m ⟨e, M⟩ ⟨fun i => frzS b ver l (e i), (M.map (frzB b ver l)).set b .dead⟩ := by
  rintro I0 σ0 M0 w0 a w hm ⟨I, σ, hev, he, h1, h2⟩
  have hmem : Mem I σ M w := hev.mem
  obtain ⟨p, hp, hrest⟩ := mem_rows hmem hM
  have hb : RelB I σ w p (.rows t sz ver l fl) := hmem.blk b _ p hM hp
  have hbl : b < M.length := getElem?_lt hM
  obtain ⟨I', hI'⟩ : ∃ I' : Im, ∀ ad, I' ad = if p.blk = some ad.block then w.cell? ad else I ad := ⟨fun ad => if p.blk = some ad.block then w.cell? ad else I ad, fun _ => rfl⟩
  have hext : ExtI I I' := by
    intro ad x hx
    rw [hI']
    split
    · rename_i hg
      have := hmem.ap b _ p ad.block hM rfl hp hg ad rfl
      rw [this] at hx
      cases hx
    · exact hx
  have hIn : ∀ g, p.blk = some g → ∀ ad x, ad.block = g → w.cell? ad = some x → I' ad = some x := by
    intro g hg ad x had hx
    rw [hI', if_pos (by rw [hg, had])]
    exact hx
  have key : ∀ {b' : Nat} {y : Blk}, ((M.map (frzB b ver l)).set b .dead)[b']? = some y → (b' = b ∧ y = .dead) ∨ (b' ≠ b ∧ ∃ x, M[b']? = some x ∧ y = frzB b ver l x) := by
    intro b' y hy
    rw [List.getElem?_set] at hy
    by_cases hbb : b = b'
    · subst hbb
      rw [if_pos rfl, if_pos (by simpa using hbl)] at hy
      injection hy with hy
      exact .inl ⟨rfl, hy.symm⟩
    · rw [if_neg hbb, List.getElem?_map, Option.map_eq_some_iff] at hy
      obtain ⟨x, hx, rfl⟩ := hy
      exact .inr ⟨fun e => hbb e.symm, x, hx, rfl⟩
  have hlive : ∀ x, (frzB b ver l x).live = x.live := fun x => by cases x <;> rfl
  have hmem' : Mem I' σ ((M.map (frzB b ver l)).set b .dead) w := by
    refine ⟨by simp [hmem.len], ?_, ?_, ?_, ?_⟩
    · intro b' y q hy hq
      rcases key hy with ⟨_, rfl⟩ | ⟨hne, x, hx, rfl⟩
      · trivial
      · have := hmem.blk b' x q hx hq
        cases x with
        | dead => trivial
        | sit s pos => exact this
        | rows t' sz' ver' rs f' =>
          obtain ⟨k0, k1, k2, k3, k4, k5, k6⟩ := this
          refine ⟨fun h => by rw [List.length_map]; exact k0 h, k1, k2, by simpa using k3, k4, fun i r hr => ?_, ?_⟩
          · simp only [List.getElem?_map, Option.map_eq_some_iff] at hr
            obtain ⟨r', hr', rfl⟩ := hr
            rw [List.length_map]
            exact k5 i r' hr'
          · cases hbk : q.blk with
            | none => rw [hbk] at k6; exact k6
            | some g =>
              rw [hbk] at k6
              obtain ⟨cs, hh, hs, ho, hcs⟩ := k6
              refine ⟨cs, hh, hs, ho, fun i r hr j u hu => ?_⟩
              simp only [List.getElem?_map, Option.map_eq_some_iff] at hr
              obtain ⟨r', hr', rfl⟩ := hr
              simp only [List.getElem?_map, Option.map_eq_some_iff] at hu
              obtain ⟨u', hu', rfl⟩ := hu
              obtain ⟨x, hx1, hx2⟩ := hcs i r' hr' j u' hu'
              exact ⟨x, hx1, frzA_rel hext hp hb hcl hIn hx2⟩
    · intro b1 b2 x1 x2 p1 p2 g h1 h2 l1 l2 q1 q2 e1 e2
      rcases key h1 with ⟨_, rfl⟩ | ⟨n1, y1, k1, rfl⟩
      · cases l1
      · rcases key h2 with ⟨_, rfl⟩ | ⟨n2, y2, k2, rfl⟩
        · cases l2
        · rw [hlive] at l1 l2
          exact hmem.inj b1 b2 y1 y2 p1 p2 g k1 k2 l1 l2 q1 q2 e1 e2
    · intro b1 x1 p1 g h1 l1 q1 e1 ad had
      rcases key h1 with ⟨_, rfl⟩ | ⟨n1, y1, k1, rfl⟩
      · cases l1
      · rw [hlive] at l1
        rw [hI']
        split
        · rename_i hg
          exfalso
          exact n1 (hmem.inj b1 b y1 _ p1 p g k1 hM l1 rfl q1 hp e1 (by rw [hg, had]))
        · exact hmem.ap b1 y1 p1 g k1 l1 q1 e1 ad had
    · intro ad x hx
      rw [hI'] at hx
      split at hx
      · exact hx
      · exact hmem.imm ad x hx
  refine ⟨I', σ, hev.trans ⟨hext, ExtP.refl _, hmem', Keep.refl _ _, ?_, ?_⟩, fun i => frzS_rel hext hp hb hcl hIn (he i), h1, h2⟩
  · rintro g ⟨b1, x1, p1, k1, k2, k3, k4⟩
    rcases key k1 with ⟨_, rfl⟩ | ⟨n1, y1, j1, rfl⟩
    · cases k2
    · rw [hlive] at k2
      exact .inl ⟨b1, y1, p1, j1, k2, k3, k4⟩
  · intro ad x hx
    rw [hI'] at hx
    split at hx
    · rename_i hg
      exact .inr (.inr ⟨b, _, p, hM, rfl, hp, hg⟩)
    · exact .inl hx
/-! ### A nil slice is a row of one's own, still empty -/
theorem Mem.born {I : Im} {σ : List Plc} {M : List Blk} {w : World} (hm : Mem I σ M w) (t sz : Nat) : Mem I (σ ++ [⟨none, 0, 0, sz⟩]) (M ++ [.rows t sz 0 [] true]) w := by
  have hext := ExtP.append σ [⟨none, 0, 0, sz⟩]
  have old : ∀ {b : Nat} {y : Blk} {q : Plc}, (M ++ [.rows t sz 0 [] true])[b]? = some y → (σ ++ [⟨none, 0, 0, sz⟩])[b]? = some q → (M[b]? = some y ∧ σ[b]? = some q) ∨ (y = .rows t sz 0 [] true ∧ q = ⟨none, 0, 0, sz⟩) := by
    intro b y q hy hq
    by_cases hb : b < M.length
    · rw [List.getElem?_append_left hb] at hy
      rw [List.getElem?_append_left (by rw [hm.len]; exact hb)] at hq
      exact .inl ⟨hy, hq⟩
    · have h1 := getElem?_lt hy
      have h1' : b < M.length + 1 := by simpa using h1
      have h2 : b = M.length := by omega
      subst h2
      rw [List.getElem?_append_right (Nat.le_refl _)] at hy
      rw [List.getElem?_append_right (by rw [hm.len]; exact Nat.le_refl _)] at hq
      simp only [Nat.sub_self, List.getElem?_cons_zero, Option.some.injEq, hm.len] at hy hq
      exact .inr ⟨hy.symm, hq.symm⟩
  refine ⟨by simp [hm.len], ?_, ?_, ?_, hm.imm⟩
  · intro b y q hy hq
    rcases old hy hq with ⟨h1, h2⟩ | ⟨rfl, rfl⟩
    · exact RelB_mono (ExtI.refl _) hext (fun _ _ _ => rfl) (hm.blk b y q h1 h2)
    · exact ⟨fun _ => rfl, rfl, rfl, Nat.le_refl _, Nat.zero_le _, fun i r h => by simp at h, rfl⟩
  · intro b b' x x' p p' g h1 h2 l1 l2 q1 q2 e1 e2
    rcases old h1 q1 with ⟨k1, k2⟩ | ⟨rfl, rfl⟩
    · rcases old h2 q2 with ⟨k3, k4⟩ | ⟨rfl, rfl⟩
      · exact hm.inj b b' x x' p p' g k1 k3 l1 l2 k2 k4 e1 e2
      · cases e2
    · cases e1
  · intro b x p g h1 l1 q1 e1
    rcases old h1 q1 with ⟨k1, k2⟩ | ⟨rfl, rfl⟩
    · exact hm.ap b x p g k1 l1 k2 e1
    · cases e1
theorem Has.born {σ : List Plc} {M : List Blk} {t sz g : Nat} (hl : σ.length = M.length) (h : Has (σ ++ [⟨none, 0, 0, sz⟩]) (M ++ [.rows t sz 0 [] true]) g) : Has σ M g := by
  obtain ⟨b, y, q, hy, hlv, hq, hg⟩ := h
  by_cases hb : b < M.length
  · rw [List.getElem?_append_left hb] at hy
    rw [List.getElem?_append_left (by rw [hl]; exact hb)] at hq
    exact ⟨b, y, q, hy, hlv, hq, hg⟩
  · have h1 := getElem?_lt hy
    have h1' : b < M.length + 1 := by simpa using h1
    have h2 : b = M.length := by omega
    subst h2
    rw [List.getElem?_append_right (by rw [hl]; exact Nat.le_refl _)] at hq
    simp only [hl, Nat.sub_self, List.getElem?_cons_zero, Option.some.injEq] at hq
    subst hq
    cases hg
theorem rel_born {I : Im} {σ : List Plc} {M : List Blk} {sz : Nat} (hl : σ.length = M.length) : RelA I (σ ++ [⟨none, 0, 0, sz⟩]) (.arr sz M.length 0 0 0) (.slice none 0 0) := by
  refine ⟨rfl, ⟨none, 0, 0, sz⟩, ?_, Nat.le_refl _, fun _ => ⟨rfl, Nat.le_refl _, rfl⟩⟩
  rw [List.getElem?_append_right (by rw [hl]; exact Nat.le_refl _)]
  simp [hl]
/-- In a slot. -/
theorem gh_born {e : Nat → SV} {M : List Blk} (i t sz : Nat) (h : e i = .p (.one (.c (.v (.slice none 0 0))))) : Gh n m ⟨e, M⟩ ⟨upd e i (.p (.one (.arr sz M.length 0 0 0))), M ++ [.rows t sz 0 [] true]⟩ := by
  rintro I0 σ0 M0 w0 a w hm ⟨I, σ, hev, he, h1, h2⟩
  have hext := ExtP.append σ [⟨none, 0, 0, sz⟩]
  have hl : σ.length = M.length := hev.mem.len
  refine ⟨I, σ ++ [⟨none, 0, 0, sz⟩], hev.trans ⟨ExtI.refl _, hext, hev.mem.born t sz, Keep.refl _ _, fun g hg => .inl (Has.born hl hg), fun _ _ h => .inl h⟩, fun j => ?_, h1, h2⟩
  unfold upd
  by_cases hj : j = i
  · subst hj
    simp only [if_true]
    have := he j
    simp only [h] at this
    obtain ⟨hv, _⟩ := this
    rw [hv]
    exact (rel_born (I := I) (M := M) (sz := sz) hl : RelA I _ _ _)
  · simp only [if_neg hj]
    exact RelS_mono (ExtI.refl _) hext (he j)
/-- Places are kept. -/
theorem gh_res {e : Nat → SV} {M : List Blk} : ∀ k : Nat, Gh n m ⟨e, M⟩ ⟨e, M ++ List.replicate k (.rows 0 0 0 [] true)⟩
  | 0 => by simpa using Gh.refl (n := n) (m := m) (⟨e, M⟩ : St)
  | k + 1 => by
    refine (gh_res k).trans ?_
    rw [List.replicate_succ', ← List.append_assoc]
    generalize M ++ List.replicate k (Blk.rows 0 0 0 [] true) = M1
    rintro I0 σ0 M0 w0 a w hm ⟨I, σ, hev, he, h1, h2⟩
    have hext := ExtP.append σ [⟨none, 0, 0, 0⟩]
    have hl : σ.length = M1.length := hev.mem.len
    exact ⟨I, σ ++ [⟨none, 0, 0, 0⟩], hev.trans ⟨ExtI.refl _, hext, hev.mem.born 0 0, Keep.refl _ _, fun g hg => .inl (Has.born hl hg), fun _ _ h => .inl h⟩, fun j => RelS_mono (ExtI.refl _) hext (he j), h1, h2⟩
end
end Go.Proofs.YtioefecijidgkaaAbs
