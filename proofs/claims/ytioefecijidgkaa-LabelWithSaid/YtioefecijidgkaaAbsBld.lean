/- The abstract machine: one cell set from outside. -/
import Derived.Test.YtioefecijidgkaaAbsExt
import Derived.Laws.Tables
set_option linter.unusedVariables false
set_option linter.unusedSimpArgs false
namespace Go.Proofs.YtioefecijidgkaaAbs
open Go Go.RowKit
theorem evo_set1 {I : Im} {σ : List Plc} {M : List Blk} {w : World} (hm : Mem I σ M w) {b tb sz' ver' i j : Nat} {l : List (List AV)} {row : List AV} {fb : Bool} (hMb : M[b]? = some (.rows tb sz' ver' l fb)) (hrow : l[i]? = some row) (hj1 : j < sz')
    {p : Plc} {g : Nat} (hp : σ[b]? = some p) (hg : p.blk = some g) {x : AV} {v : Value} (hx : RelA I σ x v) : Evo I σ M w I σ (M.set b (.rows tb sz' ver' (l.set i (fillL row j [x])) fb)) (w.setCell ⟨g, i * sz' + j, none⟩ v) := by
  obtain ⟨p', hp', m1, m2, m3, m4, m5, m6⟩ := mem_rows hm hMb
  obtain rfl : p = p' := by rw [hp] at hp'; injection hp'
  have hi : i < l.length := getElem?_lt hrow
  rw [hg] at m6
  obtain ⟨cs, hh, hs, m7, hcs⟩ := m6
  have hrs : row.length = sz' := m5 i row hrow
  have hle : (i + 1) * sz' ≤ p.cap * sz' := Nat.mul_le_mul_right _ (by omega)
  have hin : i * sz' + j + 1 ≤ cs.size := by rw [hs]; rw [Nat.add_mul] at hle; omega
  obtain ⟨vs, hvs'⟩ : ∃ vs, vs = [v] := ⟨_, rfl⟩
  have hrel : RelL I σ [x] vs := by
    rw [hvs']
    refine ⟨rfl, fun k u y hk hy => ?_⟩
    rcases k with _ | k
    · cases hk; cases hy; exact hx
    · cases hk
  have hvl' : vs.length = 1 := by rw [hvs']; rfl
  have hqs : [x].length = 1 := rfl
  obtain ⟨sz, hszz⟩ : ∃ sz, sz = 1 := ⟨_, rfl⟩
  have hj : j + sz ≤ row.length := by omega
  rw [setCell_eq_setRow _ _ _ _ _ _ _ hh]
  obtain ⟨cs', hcs'⟩ : ∃ cs', cs' = cs.setIfInBounds (i * sz' + j) v := ⟨_, rfl⟩
  rw [← hcs']
  have hget : ∀ k, cs'[k]? = if i * sz' + j ≤ k ∧ k < i * sz' + j + sz then vs[k - (i * sz' + j)]? else cs[k]? := by
    intro k
    rw [hcs', Array.getElem?_setIfInBounds, hvs', hszz]
    by_cases h1 : i * sz' + j = k
    · subst h1
      rw [if_pos rfl, if_pos (by omega), if_pos (by omega), Nat.sub_self]
      rfl
    · rw [if_neg h1, if_neg (by omega)]
  have hsz : cs'.size = cs.size := by rw [hcs', Array.size_setIfInBounds]
  have hvl' : vs.length = sz := by rw [hvl', hszz]
  have hone : ∀ v ∈ vs, one1 v = true := by
    intro u hu
    rw [hvs'] at hu
    obtain rfl := List.mem_singleton.1 hu
    exact RelA_one hx
  refine ⟨ExtI.refl _, ExtP.refl _, ⟨by simp [hm.len], ?_, ?_, ?_, ?_⟩, Keep.setRow _ _ _ _ ⟨b, _, p, hMb, rfl, hp, hg⟩, fun g' hg' => ?_, fun ad x hx => .inl hx⟩
  · intro b' y' p' hy' hp'
    rw [List.getElem?_set] at hy'
    by_cases hb : b = b'
    · subst hb
      rw [if_pos rfl, if_pos (getElem?_lt hMb)] at hy'
      injection hy' with hy'
      subst hy'
      obtain rfl : p = p' := by rw [hp] at hp'; injection hp'
      refine ⟨fun hf => by rw [List.length_set]; exact (hm.blk b _ _ hMb hp).1 hf, m1, m2, by simpa using m3, m4, ?_, ?_⟩
      · intro i' r' hr'
        rw [List.getElem?_set] at hr'
        by_cases hii : i = i'
        · subst hii
          rw [if_pos rfl, if_pos hi] at hr'
          injection hr' with hr'
          subst hr'
          rw [fillL_length]
          exact hrs
        · rw [if_neg hii] at hr'
          exact m5 i' r' hr'
      · rw [hg]
        refine ⟨cs', setRow_heap w g cs cs' tb _ hh, by rw [hsz, hs], fun k x hk => ?_, ?_⟩
        · rw [hget] at hk
          split at hk
          · exact hone x (List.mem_of_getElem? hk)
          · exact mem_one hm hMb hp hg hh k x hk
        intro i' r' hr' j' u hu
        have hother : ∀ i'' r'', l[i'']? = some r'' → i'' ≠ i → j' < r''.length → cs'[i'' * sz' + j']? = cs[i'' * sz' + j']? := by
          intro i'' r'' hr'' hne hj'
          have hr2 := m5 i'' r'' hr''
          rw [hget, if_neg]
          rintro ⟨h1, h2⟩
          rcases Nat.lt_or_gt_of_ne hne with hlt | hgt
          · have : (i'' + 1) * sz' ≤ i * sz' := Nat.mul_le_mul_right _ hlt
            rw [Nat.add_mul] at this
            omega
          · have : (i + 1) * sz' ≤ i'' * sz' := Nat.mul_le_mul_right _ hgt
            rw [Nat.add_mul] at this
            omega
        rw [List.getElem?_set] at hr'
        by_cases hii : i = i'
        · subst hii
          rw [if_pos rfl, if_pos hi] at hr'
          injection hr' with hr'
          subst hr'
          rw [fillL_get _ _ _ _ (by omega)] at hu
          rw [hget]
          by_cases h1 : j ≤ j' ∧ j' < j + [x].length
          · rw [if_pos h1] at hu
            rw [if_pos (by omega), show i * sz' + j' - (i * sz' + j) = j' - j by omega]
            have hk : j' - j < vs.length := by omega
            exact ⟨vs[j' - j], List.getElem?_eq_getElem hk, hrel.2 (j' - j) u _ hu (List.getElem?_eq_getElem hk)⟩
          · rw [if_neg h1] at hu
            rw [if_neg (by omega)]
            exact hcs i row hrow j' u hu
        · rw [if_neg hii] at hr'
          rw [hother i' r' hr' (fun e => hii e.symm) (getElem?_lt hu)]
          exact hcs i' r' hr' j' u hu
    · rw [if_neg hb] at hy'
      refine RelB_mono (ExtI.refl _) (ExtP.refl _) (fun g' hl' hg' => setRow_other w g g' cs' (fun e => ?_)) (hm.blk b' y' p' hy' hp')
      subst e
      exact hb (hm.inj b b' _ y' p p' g' hMb hy' rfl hl' hp hp' hg hg')
  · intro b1 b2 y1 y2 p1 p2 g' h1 h2 l1 l2 q1 q2 e1 e2
    have back : ∀ {b0 : Nat} {y0 : Blk}, (M.set b (.rows tb sz' ver' (l.set i (fillL row j [x])) fb))[b0]? = some y0 → y0.live = true → ∃ z : Blk, M[b0]? = some z ∧ z.live = true := by
      intro b0 y0 h0 l0
      rw [List.getElem?_set] at h0
      by_cases hb : b = b0
      · subst hb; exact ⟨_, hMb, rfl⟩
      · rw [if_neg hb] at h0; exact ⟨_, h0, l0⟩
    obtain ⟨z1, k1, k1'⟩ := back h1 l1
    obtain ⟨z2, k2, k2'⟩ := back h2 l2
    exact hm.inj b1 b2 z1 z2 p1 p2 g' k1 k2 k1' k2' q1 q2 e1 e2
  · intro b0 y0 p0 g0 h0 l0 q0 e0 ad had
    rw [List.getElem?_set] at h0
    by_cases hb : b = b0
    · subst hb; exact hm.ap b _ p0 g0 hMb rfl q0 e0 ad had
    · rw [if_neg hb] at h0; exact hm.ap b0 y0 p0 g0 h0 l0 q0 e0 ad had
  · intro ad v hI
    refine (cell_same (setRow_other w g ad.block cs' (fun e => ?_))).trans (hm.imm ad v hI)
    have := hm.ap b _ p g hMb rfl hp hg ad e
    rw [this] at hI
    cases hI
  · obtain ⟨b0, y0, p0, h0, l0, q0, e0⟩ := hg'
    rw [List.getElem?_set] at h0
    by_cases hb : b = b0
    · subst hb; exact .inl ⟨b, _, p0, hMb, rfl, q0, e0⟩
    · rw [if_neg hb] at h0; exact .inl ⟨b0, y0, p0, h0, l0, q0, e0⟩
theorem setRow_self {w : World} {g : Nat} {cs : Array Value} {t : TypeId} {fr : Nat × Nat} (h : w.heap[g]? = some (.cells cs t fr)) : w.setRow g cs = w := by
  have e : (w.setRow g cs).heap = w.heap := by
    apply Array.ext_getElem?
    intro k
    by_cases hk : k = g
    · subst hk
      rw [setRow_heap w k cs cs t fr h, h]
    · exact setRow_other w g k cs hk
  show ({ w with heap := (w.setRow g cs).heap } : World) = w
  rw [e]
/-- A cell that holds the nil slice comes to hold a row of its own. -/
theorem evo_born_cell {I : Im} {σ : List Plc} {M : List Blk} {w : World} (hm : Mem I σ M w) {b tb sz' ver' i j : Nat} {l : List (List AV)} {row : List AV} {fb : Bool} (hMb : M[b]? = some (.rows tb sz' ver' l fb)) (hrow : l[i]? = some row) (hj : row[j]? = some (.c (.v (.slice none 0 0)))) (t sz : Nat) :
    Evo I σ M w I (σ ++ [⟨none, 0, 0, sz⟩]) (M.set b (.rows tb sz' ver' (l.set i (fillL row j [.arr sz M.length 0 0 0])) fb) ++ [.rows t sz 0 [] true]) w := by
  have hl : σ.length = M.length := hm.len
  have h0 : Evo I σ M w I (σ ++ [⟨none, 0, 0, sz⟩]) (M ++ [.rows t sz 0 [] true]) w := ⟨ExtI.refl _, ExtP.append σ [⟨none, 0, 0, sz⟩], hm.born t sz, Keep.refl _ _, fun g hg => .inl (Has.born hl hg), fun _ _ h => .inl h⟩
  refine h0.trans ?_
  have hbl : b < M.length := getElem?_lt hMb
  have hMb' : (M ++ [Blk.rows t sz 0 [] true])[b]? = some (.rows tb sz' ver' l fb) := by rw [List.getElem?_append_left hbl]; exact hMb
  obtain ⟨p, hp, m1, m2, m3, m4, m5, m6⟩ := mem_rows h0.mem hMb'
  have hi : i < l.length := getElem?_lt hrow
  have hjs : j < sz' := by rw [← m5 i row hrow]; exact getElem?_lt hj
  obtain ⟨g, hg⟩ : ∃ g, p.blk = some g := by
    cases e : p.blk with
    | none => rw [e] at m6; simp only at m6; omega
    | some g => exact ⟨g, rfl⟩
  rw [hg] at m6
  obtain ⟨cs, hh, hs, m7, hcs⟩ := m6
  obtain ⟨x, hx, hxr⟩ := hcs i row hrow j _ hj
  obtain ⟨rfl, _⟩ := hxr
  have := evo_set1 h0.mem hMb' hrow hjs hp hg (x := .arr sz M.length 0 0 0) (v := .slice none 0 0) (rel_born hl)
  rw [setCell_eq_setRow _ _ _ _ _ _ _ hh, show cs.setIfInBounds (i * sz' + j) (.slice none 0 0) = cs from ?_, setRow_self hh, List.set_append_left _ _ hbl] at this
  · exact this
  · apply Array.ext_getElem?
    intro k
    rw [Array.getElem?_setIfInBounds]
    split
    · rename_i e
      subst e
      rw [if_pos (Array.getElem?_eq_some_iff.1 hx).1, hx]
    · rfl
/-- A block of the world that is told no more. -/
theorem evo_kill {I : Im} {σ : List Plc} {M : List Blk} {w w' : World} (hm : Mem I σ M w) {c t sz ver : Nat} {l : List (List AV)} {f : Bool} (hMc : M[c]? = some (.rows t sz ver l f)) {p : Plc} {g : Nat} (hp : σ[c]? = some p) (hg : p.blk = some g)
    (h1 : w'.os = w.os) (h2 : w'.tape = w.tape) (h3 : w'.output = w.output) (h4 : w'.heap.size = w.heap.size) (h5 : ∀ k, k ≠ g → w'.heap[k]? = w.heap[k]?) : Evo I σ M w I σ (M.set c .dead) w' := by
  have back : ∀ {b0 : Nat} {y0 : Blk}, (M.set c .dead)[b0]? = some y0 → y0.live = true → b0 ≠ c ∧ M[b0]? = some y0 := by
    intro b0 y0 h0 l0
    rw [List.getElem?_set] at h0
    by_cases hb : c = b0
    · subst hb
      rw [if_pos rfl, if_pos (getElem?_lt hMc)] at h0
      injection h0 with h0
      subst h0
      cases l0
    · rw [if_neg hb] at h0; exact ⟨fun e => hb e.symm, h0⟩
  refine ⟨ExtI.refl _, ExtP.refl _, ⟨by simp [hm.len], fun b x q hx hq => ?_, fun b b' x x' q q' g' k1 k2 l1 l2 => ?_, fun b x q g' k1 l1 => ?_, fun ad x hI => ?_⟩, ⟨h1, h2, h3, Nat.le_of_eq h4.symm, fun k hk hs => h5 k (fun e => hs (e ▸ ⟨c, _, p, hMc, rfl, hp, hg⟩))⟩, ?_, fun ad x h => .inl h⟩
  · by_cases hl : x.live = true
    · obtain ⟨hne, hx'⟩ := back hx hl
      refine RelB_mono (ExtI.refl _) (ExtP.refl _) (fun g' _ hg' => h5 g' (fun e => ?_)) (hm.blk b x q hx' hq)
      subst e
      exact hne (hm.inj b c x _ q p g' hx' hMc hl rfl hq hp hg' hg)
    · cases x with
      | dead => trivial
      | _ => exact absurd rfl hl
  · exact hm.inj b b' x x' q q' g' (back k1 l1).2 (back k2 l2).2 l1 l2
  · exact hm.ap b x q g' (back k1 l1).2 l1
  · refine (cell_same (h5 ad.block (fun e => ?_))).trans (hm.imm ad x hI)
    have := hm.ap c _ p g hMc rfl hp hg ad e
    rw [this] at hI
    cases hI
  · rintro g' ⟨b0, y0, p0, k1, l0, q0, e0⟩
    exact .inl ⟨b0, y0, p0, (back k1 l0).2, l0, q0, e0⟩
/-- Before a call what is told of the memory may be turned. -/
theorem callR_ghost {P : Program} {M M1 M' : List Blk} {f : Nat} {ps : List Pt} {r : SV} (hg : ∀ (I : Im) (σ : List Plc) (w : World), Mem I σ M w → ∃ I' σ', Evo I σ M w I' σ' M1 w) (h : CallR P M1 f ps r M') : CallR P M f ps r M' := by
  intro I σ w vals hG hm hvl hvr
  obtain ⟨I1, σ1, hev⟩ := hg I σ w hm
  refine (h I1 σ1 w vals (hG.ext hev.extI) hev.mem hvl (fun k q x hq hx => RelP_mono hev.extI hev.extP (hvr k q x hq hx))).mono ?_
  rintro v w' ⟨I', σ', hr, hev'⟩
  exact ⟨I', σ', hr, hev.trans hev'⟩
/-- The same in a run. -/
theorem gh_born_cell {n m : Nat} {e : Nat → SV} {M : List Blk} {b tb sz' ver' i j : Nat} {l : List (List AV)} {row : List AV} {fb : Bool} (hMb : M[b]? = some (.rows tb sz' ver' l fb)) (hrow : l[i]? = some row) (hj : row[j]? = some (.c (.v (.slice none 0 0)))) (t sz : Nat) :
    Gh n m ⟨e, M⟩ ⟨e, M.set b (.rows tb sz' ver' (l.set i (fillL row j [.arr sz M.length 0 0 0])) fb) ++ [.rows t sz 0 [] true]⟩ := by
  rintro I0 σ0 M0 w0 a w hm ⟨I, σ, hev, he, h1, h2⟩
  have h := evo_born_cell hev.mem hMb hrow hj t sz
  exact ⟨I, _, hev.trans h, fun k => RelS_mono h.extI h.extP (he k), h1, h2⟩
/-- A function's end, told by implication. -/
theorem fin_sub {n m : Nat} {rvs : List RV} {r : SV} {M' : List Blk} {s s1 : St} {ex : Exit} (hex : ex = .normal ∨ ex = .ret) (h : Gh n m s s1) (D : List Blk) {qs : List Pt} {cnd : Prop} (h1 : resL s1.env s1.M rvs = some (qs, cnd)) (h2 : cnd) (h3 : s1.M = M' ++ D) (h4 : SubS (mkRes qs) r) (h5 : m ≤ M'.length) (h6 : ltS M'.length r) (h7 : ∀ x ∈ M', ltB M'.length x) : FinK n m rvs r M' ex s := by
  rcases hex with rfl | rfl <;> exact ⟨s1, D, qs, cnd, h, h1, h2, h3, h4, h5, h6, h7⟩
def SubP (q q' : Pt) : Prop := ∀ I σ y, RelP I σ q y → RelP I σ q' y
def SubA (q q' : AV) : Prop := ∀ I σ y, RelA I σ q y → RelA I σ q' y
theorem SubP.refl (q : Pt) : SubP q q := fun _ _ _ h => h
theorem SubA.refl (q : AV) : SubA q q := fun _ _ _ h => h
theorem subP_one {a a' : AV} (h : SubA a a') : SubP (.one a) (.one a') := fun I σ y hr => h I σ y hr
theorem subP_agg2 {a a' b b' : AV} (h : SubA a a') (h' : SubA b b') : SubP (.agg [a, b]) (.agg [a', b']) := by
  rintro I σ y ⟨cs, rfl, hl, hr⟩
  refine ⟨cs, rfl, hl, fun k u x hu hx => ?_⟩
  match k, hu with
  | 0, hu => cases hu; exact h I σ x (hr 0 a x rfl hx)
  | 1, hu => cases hu; exact h' I σ x (hr 1 b x rfl hx)
theorem subS_p {q q' : Pt} (h : SubP q q') : SubS (.p q) (.p q') := fun I σ y hr => h I σ y hr
theorem subS_tup2 {a a' b b' : Pt} (h : SubP a a') (h' : SubP b b') : SubS (.tup [a, b]) (.tup [a', b']) := by
  rintro I σ y ⟨vs, rfl, hl, hr⟩
  refine ⟨vs, rfl, hl, fun k u x hu hx => ?_⟩
  match k, hu with
  | 0, hu => cases hu; exact h I σ x (hr 0 a x rfl hx)
  | 1, hu => cases hu; exact h' I σ x (hr 1 b x rfl hx)
theorem subA_nil (sz : Nat) (c : Nat → Nat → CV) : SubA (.c (.v (.slice none 0 0))) (.c (.imm sz 0 c)) := by
  rintro I σ y ⟨rfl, _⟩
  exact ⟨none, 0, rfl, Nat.le_refl _, .inl rfl⟩
theorem subA_imm {sz n : Nat} {c c' : Nat → Nat → CV} (h : ∀ i, i < n → ∀ j, j < sz → c i j = c' i j) : SubA (.c (.imm sz n c)) (.c (.imm sz n c')) := by
  rintro I σ y ⟨A, cap, rfl, h1, h2⟩
  refine ⟨A, cap, rfl, h1, h2.imp id ?_⟩
  rintro ⟨ad, ha, hc⟩
  refine ⟨ad, ha, fun i hi j hj => ?_⟩
  obtain ⟨x, hx, hr⟩ := hc i hi j hj
  exact ⟨x, hx, by rw [← h i hi j hj]; exact hr⟩
/-- A call's arguments told by implication. -/
def SubL : List Pt → List Pt → Prop
  | [], [] => True
  | q :: l, q' :: l' => SubP q q' ∧ SubL l l'
  | _, _ => False
theorem SubL.length : ∀ {l l' : List Pt}, SubL l l' → l.length = l'.length
  | [], [], _ => rfl
  | _ :: _, _ :: _, h => by simp [SubL.length h.2]
theorem SubL.get : ∀ {l l' : List Pt}, SubL l l' → ∀ (k : Nat) (q q' : Pt), l[k]? = some q → l'[k]? = some q' → SubP q q'
  | q :: l, q' :: l', h, 0, p, p', hp, hp' => by cases hp; cases hp'; exact h.1
  | q :: l, q' :: l', h, k + 1, p, p', hp, hp' => SubL.get h.2 k p p' hp hp'
theorem CallR.sub {P : Program} {M M' : List Blk} {f : Nat} {ps ps' : List Pt} {r : SV} (h : CallR P M f ps' r M') (hl : SubL ps ps') : CallR P M f ps r M' := by
  intro I σ w vals hG hm hvl hvr
  refine h I σ w vals hG hm (hvl.trans hl.length) (fun k q' x hq' hx => ?_)
  have hk : k < ps.length := by rw [hl.length]; exact getElem?_lt hq'
  exact hl.get k _ q' (List.getElem?_eq_getElem hk) hq' I σ x (hvr k _ x (List.getElem?_eq_getElem hk) hx)
section
variable {P : Program} {n : Nat}
theorem callPS {f : Nat} {c : C} {rvs : List RV} {ps : List Pt} {r : SV} (hF : Fun P f n c rvs) (hl : ps.length ≤ n) (hps : ∀ q ∈ ps, ltP 0 q) (hr : ltS 0 r) (h : Run P n 0 c ⟨envOf 0 ps, []⟩ (FinP rvs (SubS · r))) (M : List Blk) : CallR P M f ps r M := by
  refine callR_pure (callR_intro (M' := []) hF hl (run_mono (fun ex s hs => ?_) h)) hps M
  have key : (match resL s.env s.M rvs with
    | some (qs, c) => c ∧ SubS (mkRes qs) r
    | none => False) → Fin n 0 rvs r [] s := by
    intro h
    cases hq : resL s.env s.M rvs with
    | none => rw [hq] at h; exact h.elim
    | some x =>
      obtain ⟨qs, c⟩ := x
      rw [hq] at h
      exact ⟨s, s.M, qs, c, Gh.refl s, hq, h.1, rfl, h.2, Nat.le_refl _, hr, fun x hx => by simp at hx⟩
  cases ex with
  | normal => exact key hs
  | ret => exact key hs
  | _ => exact hs.elim
end
theorem R_loop {P : Program} {n m : Nat} {e : Nat → SV} {M : List Blk} {K : Exit → St → Prop} {ι : Type} (J : ι → Prop) (env : ι → List (Nat × SV)) (mem : ι → List Blk) (μ : ι → Nat) {c : C} (i0 : ι) (h0 : J i0) (hs : Into m ⟨e, M⟩ (env i0) (mem i0))
    (h : ∀ i, J i → Run P n m c ⟨envL (env i), mem i⟩ (andThen (fun s' => ∃ j, J j ∧ μ j < μ i ∧ Into m s' (env j) (mem j)) K)) : Run P n m (.loop c) ⟨e, M⟩ K := by
  refine run_loop (ι := { i // J i }) (fun i => ⟨envL (env i.1), mem i.1⟩) (fun i => μ i.1) ⟨i0, h0⟩ hs.gh (fun i => run_mono (fun ex s' hx => ?_) (h i.1 i.2))
  cases ex with
  | normal =>
    obtain ⟨j, h1, h2, h3⟩ := hx
    exact ⟨⟨j, h1⟩, h3.gh, h2⟩
  | _ => exact hx
end Go.Proofs.YtioefecijidgkaaAbs
