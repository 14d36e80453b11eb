/- The abstract machine: append to a slice of the call's own. -/
import Derived.Test.YtioefecijidgkaaAbs6
import Derived.Deep.AppendSrc
import Derived.Maps.AppendAt
set_option linter.unusedVariables false
set_option linter.unusedSimpArgs false
namespace Go.Proofs.YtioefecijidgkaaAbs
open Go Go.RowKit
section
variable {P : Program} {I : Im} {σ : List Plc} {e : Nat → SV} {M M' : List Blk} {w : World} {a : Act} {r : SV} {c : Prop} {dst : Option Tmp} {ty : TypeId} {pos : String} {after : Array Edge} {gd : Option (Nat × Bool)}
/-- Rows of cells, told as a list of values. -/
def RelF (I : Im) (σ : List Plc) (sz : Nat) (l : List (List AV)) (cs : List Value) : Prop := cs.length = l.length * sz ∧ ∀ (i : Nat) (r : List AV), l[i]? = some r → r.length = sz ∧ ∀ (j : Nat) (u : AV), r[j]? = some u → ∃ x, cs[i * sz + j]? = some x ∧ RelA I σ u x
theorem src_spec (hm : Mem I σ M w) {sz : Nat} (hsz : 0 < sz) {s : SV} {y : Value} (hs : RelS I σ s y) {rs : List (List AV)} {m : Nat} {cy : Prop} (h : srcRows M sz s = some (rs, m, cy)) (hc : cy) :
    ∃ A cap news, y = .slice A m cap ∧ rs.length = m ∧ (A = none → m = 0) ∧ RelF I σ sz rs news ∧ (∀ ad, A = some ad → ∀ j u, news[j]? = some u → w.cell? (ad.add j) = some u) ∧ ∀ u ∈ news, one1 u = true := by
  unfold srcRows at h
  split at h
  · rename_i sz' n cf
    simp only [Option.some.injEq, Prod.mk.injEq] at h
    obtain ⟨rfl, rfl, rfl⟩ := h
    obtain rfl := hc
    obtain ⟨A, cap, rfl, hcap, hr⟩ := hs
    rcases hr with hr | ⟨ad, rfl, hr⟩
    · subst hr
      exact ⟨A, cap, [], rfl, by simp [immRows], fun _ => rfl, ⟨by simp [immRows], fun i r h => by simp [immRows] at h⟩, fun _ _ j u h => by simp at h, fun u h => by simp at h⟩
    · obtain ⟨news, hl, hn⟩ := choose_list (R := fun k x => w.cell? (ad.add k) = some x ∧ RelC I (cf (k / sz') (k % sz')) x) (n * sz') (fun k hk => by
        obtain ⟨h1, h2, h3⟩ := divmod hsz hk
        obtain ⟨x, hx1, hx2⟩ := hr (k / sz') h1 (k % sz') h2
        rw [h3] at hx1
        exact ⟨x, hm.imm _ _ hx1, hx2⟩)
      refine ⟨some ad, cap, news, rfl, by simp [immRows], fun h => (by cases h), ⟨by rw [hl]; simp [immRows], fun i r h => ?_⟩, fun ad' h j u hu => ?_, fun u hu => ?_⟩
      · simp only [immRows, List.getElem?_map, Option.map_eq_some_iff] at h
        obtain ⟨i', hi', rfl⟩ := h
        have hlt : i < n := by have := getElem?_lt hi'; simpa using this
        rw [List.getElem?_range hlt] at hi'
        · injection hi' with hi'
          subst hi'
          refine ⟨cellsUp_length _ _ _, fun j u hu => ?_⟩
          rw [cellsUp_get] at hu
          split at hu
          · rename_i hj
            injection hu with hu
            subst hu
            have hle : (i + 1) * sz' ≤ n * sz' := Nat.mul_le_mul_right _ hlt
            rw [Nat.add_mul] at hle
            have hk : i * sz' + j < news.length := by rw [hl]; omega
            refine ⟨news[i * sz' + j], List.getElem?_eq_getElem hk, ?_⟩
            have := (hn _ _ (List.getElem?_eq_getElem hk)).2
            rw [show (i * sz' + j) / sz' = i by rw [Nat.mul_comm, Nat.mul_add_div hsz, Nat.div_eq_of_lt hj, Nat.add_zero], show (i * sz' + j) % sz' = j by rw [Nat.mul_comm, Nat.mul_add_mod, Nat.mod_eq_of_lt hj]] at this
            show RelC I (cf i (0 + j)) _
            rw [Nat.zero_add]
            exact this
          · cases hu
      · injection h with h
        subst h
        exact (hn j u hu).1
      · obtain ⟨k, hk⟩ := List.getElem?_of_mem hu
        exact RelC_one (hn k u hk).2
  · simp only [Option.some.injEq, Prod.mk.injEq] at h
    obtain ⟨rfl, rfl, rfl⟩ := h
    obtain ⟨rfl, _⟩ := hs
    exact ⟨none, 0, [], rfl, rfl, fun _ => rfl, ⟨by simp, fun i r h => by simp at h⟩, fun _ _ j u h => by simp at h, fun u h => by simp at h⟩
  · rename_i sz' b ver off len
    split at h
    · rename_i sz2 l hv hrow
      simp only [Option.some.injEq, Prod.mk.injEq] at h
      obtain ⟨rfl, rfl, rfl⟩ := h
      obtain ⟨t', ver', fb, hMb, rfl⟩ := rowsAt_spec hrow
      obtain ⟨rfl, rfl, hle⟩ := hc
      obtain ⟨_, p, hp, hpv, hq⟩ := hs
      obtain ⟨p', hp', q1, q2, q3, q4, q5, q6⟩ := mem_rows hm hMb
      obtain rfl : p = p' := by rw [hp] at hp'; injection hp'
      obtain ⟨e1, e2, e3⟩ := hq q2
      have e1' : sz2 = sz' := by rw [← q1, e1]
      subst e1'
      have hrl : ((l.drop off).take len).length = len := by rw [List.length_take, List.length_drop]; omega
      cases hb : p.blk with
      | none =>
        rw [hb] at q6 e3
        have q6 : p.cap = 0 := q6
        have hl0 : len = 0 := by omega
        subst hl0
        exact ⟨none, _, [], e3, by simp, fun _ => rfl, ⟨by simp, fun i r h => by simp at h⟩, fun _ _ j u h => by simp at h, fun u h => by simp at h⟩
      | some g =>
        rw [hb] at q6 e3
        obtain ⟨cs, hh, hs, ho, hcs⟩ := q6
        have hrow' : ∀ i, i < len → ∃ r, l[off + i]? = some r ∧ ((l.drop off).take len)[i]? = some r := by
          intro i hi
          have : off + i < l.length := by omega
          exact ⟨l[off + i], List.getElem?_eq_getElem this, by rw [List.getElem?_take, if_pos hi, List.getElem?_drop]; exact List.getElem?_eq_getElem this⟩
        obtain ⟨news, hl, hn⟩ := choose_list (R := fun k x => w.cell? ((⟨g, off * sz2, none⟩ : Addr).add k) = some x ∧ RelA I σ ((((l.drop off).take len).getD (k / sz2) []).getD (k % sz2) default) x) (len * sz2) (fun k hk => by
          obtain ⟨h1, h2, h3⟩ := divmod hsz hk
          obtain ⟨r, hr1, hr2⟩ := hrow' (k / sz2) h1
          have hrs := q5 _ r hr1
          obtain ⟨x, hx1, hx2⟩ := hcs _ r hr1 (k % sz2) _ (getD_some (d := default) (by omega))
          refine ⟨x, ?_, ?_⟩
          · rw [add_mk, cell_of_row w g _ cs t' (0, 0) hh, show off * sz2 + k = (off + k / sz2) * sz2 + k % sz2 by rw [Nat.add_mul]; omega]
            exact hx1
          · rw [List.getD_eq_getElem?_getD (l := (l.drop off).take len), hr2]
            exact hx2)
        refine ⟨some ⟨g, off * sz2, none⟩, p.cap - off, news, e3, hrl, fun h => (by cases h), ⟨by rw [hl, hrl], fun i r h => ?_⟩, fun ad' h j u hu => ?_, fun u hu => ?_⟩
        · have hi : i < len := by rw [← hrl]; exact getElem?_lt h
          obtain ⟨r', hr1, hr2⟩ := hrow' i hi
          obtain rfl : r' = r := by rw [h] at hr2; injection hr2 with hr2; exact hr2.symm
          have hrs := q5 _ r' hr1
          refine ⟨hrs, fun j u hu => ?_⟩
          have hj : j < sz2 := by rw [← hrs]; exact getElem?_lt hu
          have hle : (i + 1) * sz2 ≤ len * sz2 := Nat.mul_le_mul_right _ hi
          rw [Nat.add_mul] at hle
          have hk : i * sz2 + j < news.length := by rw [hl]; omega
          refine ⟨news[i * sz2 + j], List.getElem?_eq_getElem hk, ?_⟩
          have := (hn _ _ (List.getElem?_eq_getElem hk)).2
          rw [show (i * sz2 + j) / sz2 = i by rw [Nat.mul_comm, Nat.mul_add_div hsz, Nat.div_eq_of_lt hj, Nat.add_zero], show (i * sz2 + j) % sz2 = j by rw [Nat.mul_comm, Nat.mul_add_mod, Nat.mod_eq_of_lt hj]] at this
          rw [List.getD_eq_getElem?_getD (l := (l.drop off).take len), h] at this
          simp only [Option.getD_some] at this
          rw [List.getD_eq_getElem?_getD, hu] at this
          exact this
        · injection h with h
          subst h
          exact (hn j u hu).1
        · obtain ⟨k, hk⟩ := List.getElem?_of_mem hu
          exact RelA_one (hn k u hk).2
    · cases h
  · cases h
/-- A block's state is renewed. -/
theorem turns_renew {o : Oper} (hm : Mem I σ M w) {b t sz ver : Nat} {l l' : List (List AV)} {fl : Bool} (hMb : M[b]? = some (.rows t sz ver l fl)) {p p' : Plc} (hp : σ[b]? = some p) (hpv : p.ver = ver) (hpv' : p'.ver = ver + 1)
    {v : Value} {w' : World} (hrun : (execOp a.eval o).run P w = .ok (.value v) w') (hx : ∀ σ', ExtP σ σ' → σ' = σ.set b p' → RelB I σ' w' p' (.rows t sz (ver + 1) l' false))
    (hg : w.grownBy w' p.blk) (hat : p'.blk = p.blk ∨ p'.blk = some w.heap.size) (hv : ∀ σ', σ' = σ.set b p' → RelS I σ' r v) : Turns P I σ M o a w r (M.set b (.rows t sz (ver + 1) l' false)) := by
  have hbl : b < σ.length := getElem?_lt hp
  have hbm : b < M.length := getElem?_lt hMb
  have hext : ExtP σ (σ.set b p') := by
    intro b' q hq
    rw [List.getElem?_set]
    by_cases hb : b = b'
    · subst hb
      obtain rfl : p = q := by rw [hp] at hq; injection hq
      rw [if_pos rfl, if_pos hbl]
      exact ⟨p', rfl, by omega, fun e => by omega⟩
    · rw [if_neg hb]
      exact ⟨q, hq, Nat.le_refl _, fun _ => rfl⟩
  have key : ∀ {b' : Nat} {y : Blk} {q : Plc}, (M.set b (.rows t sz (ver + 1) l' false))[b']? = some y → (σ.set b p')[b']? = some q → (b' = b ∧ y = .rows t sz (ver + 1) l' false ∧ q = p') ∨ (b' ≠ b ∧ M[b']? = some y ∧ σ[b']? = some q) := by
    intro b' y q hy hq
    rw [List.getElem?_set] at hy hq
    by_cases hb : b = b'
    · subst hb
      rw [if_pos rfl, if_pos hbm] at hy
      rw [if_pos rfl, if_pos hbl] at hq
      injection hy with hy; injection hq with hq
      exact .inl ⟨rfl, hy.symm, hq.symm⟩
    · rw [if_neg hb] at hy hq
      exact .inr ⟨fun e => hb e.symm, hy, hq⟩
  have apart : ∀ {b' : Nat} {y : Blk} {q : Plc} {g : Nat}, b' ≠ b → M[b']? = some y → y.live = true → σ[b']? = some q → q.blk = some g → p'.blk ≠ some g := by
    intro b' y q g hb hy hl hq hgq he
    rcases hat with hat | hat
    · rw [hat] at he
      exact hb (hm.inj b' b y _ q p g hy hMb hl rfl hq hp hgq he)
    · rw [hat] at he
      injection he with he
      have := RelB_lt (hm.blk b' y q hy hq) hl hgq
      omega
  refine ⟨_, σ.set b p', w', hrun, .inl ⟨v, rfl, hv _ rfl⟩, hext, ⟨by simp [hm.len], ?_, ?_, ?_, ?_⟩, ⟨hg.os, hg.tape, hg.output, hg.size, fun k hk hs => hg.block k hk (fun e => hs ⟨b, _, p, hMb, rfl, hp, e.symm⟩)⟩, ?_⟩
  · intro b' y q hy hq
    rcases key hy hq with ⟨_, rfl, rfl⟩ | ⟨hb, h1, h2⟩
    · exact hx _ hext rfl
    · refine RelB_mono (ExtI.refl _) hext (fun g hl hgq => ?_) (hm.blk b' y q h1 h2)
      refine hg.block g (RelB_lt (hm.blk b' y q h1 h2) hl hgq) (fun e => ?_)
      exact hb (hm.inj b' b y _ q p g h1 hMb hl rfl h2 hp hgq e.symm)
  · intro b1 b2 y1 y2 q1 q2 g h1 h2 l1 l2 k1 k2 e1 e2
    rcases key h1 k1 with ⟨hb1, rfl, rfl⟩ | ⟨hb1, m1, s1⟩
    · rcases key h2 k2 with ⟨hb2, rfl, rfl⟩ | ⟨hb2, m2, s2⟩
      · omega
      · exact absurd e1 (apart hb2 m2 l2 s2 e2)
    · rcases key h2 k2 with ⟨hb2, rfl, rfl⟩ | ⟨hb2, m2, s2⟩
      · exact absurd e2 (apart hb1 m1 l1 s1 e1)
      · exact hm.inj b1 b2 y1 y2 q1 q2 g m1 m2 l1 l2 s1 s2 e1 e2
  · intro b1 y1 q1 g h1 l1 k1 e1 ad had
    rcases key h1 k1 with ⟨hb1, rfl, rfl⟩ | ⟨hb1, m1, s1⟩
    · rcases hat with hat | hat
      · exact hm.ap b _ p g hMb rfl hp (by rw [← hat]; exact e1) ad had
      · rw [hat] at e1
        injection e1 with e1
        cases hI : I ad with
        | none => rfl
        | some x => have := hm.immlt hI; omega
    · exact hm.ap b1 y1 q1 g m1 l1 s1 e1 ad had
  · intro ad x hI
    refine (cell_same (hg.block ad.block (hm.immlt hI) (fun e => ?_))).trans (hm.imm ad x hI)
    have := hm.ap b _ p ad.block hMb rfl hp e.symm ad rfl
    rw [this] at hI
    cases hI
  · rintro g ⟨b1, y1, q1, h1, l1, k1, e1⟩
    rcases key h1 k1 with ⟨hb1, rfl, rfl⟩ | ⟨hb1, m1, s1⟩
    · rcases hat with hat | hat
      · exact .inl ⟨b, _, p, hMb, rfl, hp, by rw [← hat]; exact e1⟩
      · rw [hat] at e1
        injection e1 with e1
        exact .inr (by omega)
    · exact .inl ⟨b1, y1, q1, m1, l1, s1, e1⟩
/-- A row is written in place. -/
theorem turns_set {o : Oper} (hm : Mem I σ M w) {b t sz ver : Nat} {l l' : List (List AV)} {fl : Bool} (hMb : M[b]? = some (.rows t sz ver l fl)) {p : Plc} {g : Nat} {cs cs' : Array Value} (hp : σ[b]? = some p) (hg : p.blk = some g) (hh : w.heap[g]? = some (.cells cs t (0, 0)))
    (hs' : cs'.size = cs.size) (ho' : ∀ (k : Nat) (x : Value), cs'[k]? = some x → one1 x = true) (hll : l'.length = l.length) (hrl : ∀ (i : Nat) (r : List AV), l'[i]? = some r → r.length = sz) (hcs : ∀ (i : Nat) (r : List AV), l'[i]? = some r → ∀ (j : Nat) (u : AV), r[j]? = some u → ∃ x, cs'[i * sz + j]? = some x ∧ RelA I σ u x)
    {n : Next} (hrun : (execOp a.eval o).run P w = .ok n (w.setRow g cs')) (hn : (∃ v, n = .value v ∧ RelS I σ r v) ∨ (n = .skip ∧ r = .any)) : Turns P I σ M o a w r (M.set b (.rows t sz ver l' fl)) := by
  refine ⟨n, σ, w.setRow g cs', hrun, hn, ExtP.refl _, ⟨by simp [hm.len], ?_, ?_, ?_, ?_⟩, Keep.setRow _ _ _ _ ⟨b, _, p, hMb, rfl, hp, hg⟩, fun g' hg' => ?_⟩
  · intro b' y' p' hy' hp'
    rw [List.getElem?_set] at hy'
    by_cases hb : b = b'
    · subst hb
      rw [if_pos rfl, if_pos (getElem?_lt hMb)] at hy'
      injection hy' with hy'
      subst hy'
      obtain rfl : p = p' := by rw [hp] at hp'; injection hp'
      obtain ⟨m0, m1, m2, m3, m4, m5, m6⟩ := hm.blk b _ _ hMb hp
      refine ⟨fun hf => by rw [hll]; exact m0 hf, m1, m2, by rw [hll]; exact m3, m4, hrl, ?_⟩
      rw [hg] at m6 ⊢
      obtain ⟨cs0, h1, h2, _⟩ := m6
      rw [hh] at h1
      injection h1 with h1
      injection h1 with h1
      subst h1
      exact ⟨cs', setRow_heap w g cs cs' t _ hh, by rw [hs', h2], ho', hcs⟩
    · rw [if_neg hb] at hy'
      refine RelB_mono (ExtI.refl _) (ExtP.refl _) (fun g' hl' hg' => setRow_other w g g' cs' (fun e => ?_)) (hm.blk b' y' p' hy' hp')
      subst e
      exact hb (hm.inj b b' _ y' p p' g' hMb hy' rfl hl' hp hp' hg hg')
  · intro b1 b2 y1 y2 p1 p2 g' h1 h2 l1 l2 q1 q2 e1 e2
    have back : ∀ {b0 : Nat} {y0 : Blk}, (M.set b (.rows t sz ver l' fl))[b0]? = some y0 → y0.live = true → ∃ z : Blk, M[b0]? = some z ∧ z.live = true := by
      intro b0 y0 h0 l0
      rw [List.getElem?_set] at h0
      by_cases hb : b = b0
      · subst hb; exact ⟨_, hMb, rfl⟩
      · rw [if_neg hb] at h0; exact ⟨_, h0, l0⟩
    obtain ⟨z1, k1, k1'⟩ := back h1 l1
    obtain ⟨z2, k2, k2'⟩ := back h2 l2
    exact hm.inj b1 b2 z1 z2 p1 p2 g' k1 k2 k1' k2' q1 q2 e1 e2
  · intro b0 y0 p0 g0 h0 l0 q0 e0 ad had
    rw [List.getElem?_set] at h0
    by_cases hb : b = b0
    · subst hb; exact hm.ap b _ p0 g0 hMb rfl q0 e0 ad had
    · rw [if_neg hb] at h0; exact hm.ap b0 y0 p0 g0 h0 l0 q0 e0 ad had
  · intro ad x hI
    refine (cell_same (setRow_other w g ad.block cs' (fun e => ?_))).trans (hm.imm ad x hI)
    have := hm.ap b _ p g hMb rfl hp hg ad e
    rw [this] at hI
    cases hI
  · obtain ⟨b0, y0, p0, h0, l0, q0, e0⟩ := hg'
    rw [List.getElem?_set] at h0
    by_cases hb : b = b0
    · subst hb
      obtain rfl : p = p0 := by rw [hp] at q0; injection q0
      exact .inl ⟨b, _, p, hMb, rfl, hp, e0⟩
    · rw [if_neg hb] at h0; exact .inl ⟨b0, y0, p0, h0, l0, q0, e0⟩
/-- Some elements, one behind the other, are put in the place of others. -/
theorem splice_rel {sz k m : Nat} {l rs : List (List AV)} {cs : Array Value} {vs : List Value} (hrl : ∀ (i : Nat) (r : List AV), l[i]? = some r → r.length = sz) (hcs : ∀ (i : Nat) (r : List AV), l[i]? = some r → ∀ (j : Nat) (u : AV), r[j]? = some u → ∃ x, cs[i * sz + j]? = some x ∧ RelA I σ u x)
    (hF : RelF I σ sz rs vs) (hm : rs.length = m) (hkm : k + m ≤ l.length) (hcap : l.length * sz ≤ cs.size) :
    (cs.toList.take (k * sz) ++ vs ++ cs.toList.drop (k * sz + vs.length)).toArray.size = cs.size ∧ (l.take k ++ rs ++ l.drop (k + m)).length = l.length ∧ ∀ (i : Nat) (r : List AV), (l.take k ++ rs ++ l.drop (k + m))[i]? = some r → r.length = sz ∧ ∀ (j : Nat) (u : AV), r[j]? = some u → ∃ x, (cs.toList.take (k * sz) ++ vs ++ cs.toList.drop (k * sz + vs.length)).toArray[i * sz + j]? = some x ∧ RelA I σ u x := by
  have hvl : vs.length = m * sz := by rw [hF.1, hm]
  have hle : (k + m) * sz ≤ l.length * sz := Nat.mul_le_mul_right _ hkm
  rw [Nat.add_mul] at hle
  have hl1 : (cs.toList.take (k * sz)).length = k * sz := by rw [List.length_take, Array.length_toList]; omega
  have hl2 : (l.take k).length = k := by rw [List.length_take]; omega
  refine ⟨by simp only [List.size_toArray, List.length_append, hl1, List.length_drop, Array.length_toList]; omega, by simp only [List.length_append, hl2, List.length_drop]; omega, fun i r hr => ?_⟩
  rw [List.append_assoc] at hr
  by_cases h1 : i < k
  · rw [List.getElem?_append_left (by omega), List.getElem?_take, if_pos h1] at hr
    have hrs := hrl i r hr
    refine ⟨hrs, fun j u hu => ?_⟩
    obtain ⟨x, hx, hx2⟩ := hcs i r hr j u hu
    have hj : j < sz := by rw [← hrs]; exact getElem?_lt hu
    have h2 : (i + 1) * sz ≤ k * sz := Nat.mul_le_mul_right _ h1
    rw [Nat.add_mul] at h2
    refine ⟨x, ?_, hx2⟩
    rw [List.getElem?_toArray, List.append_assoc, List.getElem?_append_left (by omega), List.getElem?_take, if_pos (by omega)]
    simpa using hx
  · rw [List.getElem?_append_right (by omega), hl2] at hr
    by_cases h2 : i - k < m
    · rw [List.getElem?_append_left (by omega)] at hr
      obtain ⟨hrs, hx⟩ := hF.2 (i - k) r hr
      refine ⟨hrs, fun j u hu => ?_⟩
      obtain ⟨x, hx, hx2⟩ := hx j u hu
      have hlt := getElem?_lt hx
      have h3 : k * sz ≤ i * sz := Nat.mul_le_mul_right _ (by omega)
      refine ⟨x, ?_, hx2⟩
      rw [List.getElem?_toArray, List.append_assoc, List.getElem?_append_right (by omega), hl1, List.getElem?_append_left (by rw [Nat.sub_mul] at hlt; omega)]
      rw [Nat.sub_mul] at hx
      rw [show i * sz + j - k * sz = i * sz - k * sz + j by omega]
      exact hx
    · rw [List.getElem?_append_right (by omega), hm, List.getElem?_drop, show k + m + (i - k - m) = i by omega] at hr
      have hrs := hrl i r hr
      refine ⟨hrs, fun j u hu => ?_⟩
      obtain ⟨x, hx, hx2⟩ := hcs i r hr j u hu
      have h3 : (k + m) * sz ≤ i * sz := Nat.mul_le_mul_right _ (by omega)
      rw [Nat.add_mul] at h3
      refine ⟨x, ?_, hx2⟩
      rw [List.getElem?_toArray, List.append_assoc, List.getElem?_append_right (by omega), hl1, List.getElem?_append_right (by omega), List.getElem?_drop, hvl, show k * sz + m * sz + (i * sz + j - k * sz - m * sz) = i * sz + j by omega]
      simpa using hx
theorem splice_one {cs : Array Value} {vs : List Value} {m n : Nat} (ho : ∀ (k : Nat) (x : Value), cs[k]? = some x → one1 x = true) (hv : ∀ v ∈ vs, one1 v = true) : ∀ (k : Nat) (x : Value), (cs.toList.take m ++ vs ++ cs.toList.drop n).toArray[k]? = some x → one1 x = true := by
  intro k x hk
  rw [List.getElem?_toArray] at hk
  have hx := List.mem_of_getElem? hk
  have hcs : ∀ y ∈ cs.toList, one1 y = true := by
    intro y hy
    obtain ⟨k', hk'⟩ := List.getElem?_of_mem hy
    exact ho k' y (by simpa using hk')
  rcases List.mem_append.1 hx with hx | hx
  · rcases List.mem_append.1 hx with hx | hx
    · exact hcs x (List.mem_of_mem_take hx)
    · exact hv x hx
  · exact hcs x (List.mem_of_mem_drop hx)
/-- There is room, and other elements stand there. -/
theorem s_app_in (hm : Mem I σ M w) (he : RelE I σ e a) {x y : Operand} {X Y : Opd} (hx : compX x = some X) (hy : compX y = some Y) {t el : TypeId} {i : TypeInfo} (ht : elemT P t = some el) (hi : P.info? el = some i) (hs0 : 0 < i.size)
    {b t' ver off len m : Nat} {l rs : List (List AV)} {fb : Bool} {cy : Prop} (hl : strip true (raw e X) = .p (.one (.arr i.size b ver off len))) (hMb : M[b]? = some (.rows t' i.size ver l fb)) (hsrc : srcRows M i.size (strip true (raw e Y)) = some (rs, m, cy)) (hcy : cy) (hle : off + len + m ≤ l.length) :
    Turns P I σ M ⟨dst, .call { callee := .builtin .append, args := #[x, y], argTypes := #[t, t] }, ty, pos, after, gd⟩ a w (.p (.one (.arr i.size b ver off (len + m)))) (M.set b (.rows t' i.size ver (l.take (off + len) ++ rs ++ l.drop (off + len + m)) fb)) := by
  obtain ⟨A, cap, news, hyv, hrs, hA, hF, hcell, hone⟩ := src_spec hm hs0 (vl_rel he hy) hsrc hcy
  obtain ⟨_, p, hp, hpv, hq⟩ := vl_one he hx hl
  obtain ⟨p', hp', q1, q2, q3, q4, q5, q6⟩ := mem_rows hm hMb
  obtain rfl : p = p' := by rw [hp] at hp'; injection hp'
  obtain ⟨e1, e2, e3⟩ := hq q2
  have hszo : (sizeOf el).run P w = .ok i.size w := run_size (by simp [sizeT, hi])
  have hexec : ∀ v' w', (Builtin.append_ #[t, t] ty #[a.eval x, a.eval y]).run P w = .ok v' w' → (execOp a.eval ⟨dst, .call { callee := .builtin .append, args := #[x, y], argTypes := #[t, t] }, ty, pos, after, gd⟩).run P w = .ok (.value v') w' := by
    intro v' w' hr
    simp [execOp, resolve, invoke, builtin, hr]
  have hroom : len + m ≤ p.cap - off := by omega
  have hres : RelS I σ (.p (.one (.arr i.size b ver off (len + m)))) (.slice (p.blk.map fun g => ⟨g, off * i.size, none⟩) (len + m) (p.cap - off)) := ⟨rfl, p, hp, by omega, fun _ => ⟨e1, by omega, rfl⟩⟩
  cases hb : p.blk with
  | none =>
    rw [hb] at q6
    have q6 : p.cap = 0 := q6
    have hl0 : l = [] := List.eq_nil_of_length_eq_zero (by omega)
    have hm0 : m = 0 := by omega
    subst hm0
    have hr0 : rs = [] := List.eq_nil_of_length_eq_zero hrs
    subst hr0
    subst hl0
    have hM : M.set b (.rows t' i.size ver (([] : List (List AV)).take (off + len) ++ [] ++ ([] : List (List AV)).drop (off + len + 0)) fb) = M := by
      simp only [List.take_nil, List.append_nil, List.drop_nil]
      exact List.ext_getElem? (fun k => by
        rw [List.getElem?_set]
        split
        · rename_i hk; subst hk; rw [if_pos (getElem?_lt hMb)]; exact hMb.symm
        · rfl)
    rw [hM]
    refine ⟨_, σ, w, hexec _ _ ?_, .inl ⟨_, rfl, hres⟩, ExtP.refl _, hm, Keep.refl _ _, fun g h => .inl h⟩
    rw [e3, hyv, hb]
    have hfc : (Builtin.firstCells i.size 0 (.slice A 0 cap)).run P w = .ok #[] w := by
      cases A with
      | none => simp [Builtin.firstCells]
      | some ad => exact run_firstCells_some w i.size 0 ad 0 cap [] (by simp) (fun j v h => by simp at h)
    simp [Builtin.append_, run_under (elemT_spec ht), hszo, Builtin.lenOf, hfc]
    omega
  | some g =>
    rw [hb] at q6
    obtain ⟨cs, hh, hs, ho, hcs⟩ := q6
    have hcapsz : l.length * i.size ≤ cs.size := by rw [hs]; exact Nat.mul_le_mul_right _ q3
    obtain ⟨k1, k2, k3⟩ := splice_rel (k := off + len) q5 hcs hF hrs hle hcapsz
    have hfc : (Builtin.firstCells i.size m (.slice A m cap)).run P w = .ok news.toArray w := by
      cases A with
      | none =>
        have := hA rfl
        have hn : news = [] := List.eq_nil_of_length_eq_zero (by rw [hF.1, hrs, this, Nat.zero_mul])
        subst hn
        simp [Builtin.firstCells]
      | some ad => exact run_firstCells_some w i.size m ad m cap news (by rw [hF.1, hrs]) (hcell ad rfl)
    have hle2 : (off + len + m) * i.size ≤ l.length * i.size := Nat.mul_le_mul_right _ hle
    rw [Nat.add_mul] at hle2
    have hst := run_storeCells_at (P := P) g ((off + len) * i.size) t' news 0 cs w hh (by rw [hF.1, hrs]; omega) (fun v hv => one1_cell (hone v hv))
    rw [Nat.add_zero] at hst
    refine turns_set hm hMb hp hb hh k1 (splice_one ho hone) k2 (fun i r h => (k3 i r h).1) (fun i r h => (k3 i r h).2) (hexec _ _ ?_) (.inl ⟨_, rfl, hres⟩)
    rw [e3, hyv, hb]
    simp only [Option.map_some]
    simp [Builtin.append_, run_under (elemT_spec ht), hszo, Builtin.lenOf, hfc, addr_sub, hst]
    omega
theorem own_src (hm : Mem I σ M w) {b t sz ver off len : Nat} {l : List (List AV)} {f : Bool} (hMb : M[b]? = some (.rows t sz ver l f)) {y : Value} (hy : RelA I σ (.arr sz b ver off len) y) (hsz : 0 < sz) (hle : off + len ≤ l.length) :
    ∃ p olds, σ[b]? = some p ∧ p.sz = sz ∧ y = .slice (p.blk.map fun g => ⟨g, off * sz, none⟩) len (p.cap - off) ∧ RelF I σ sz ((l.drop off).take len) olds ∧ (∀ u ∈ olds, one1 u = true) ∧ ∀ w', (∀ ad, w'.cell? ad = w.cell? ad) → (Builtin.firstCells sz len y).run P w' = .ok olds.toArray w' := by
  obtain ⟨_, p, hp, hpv, hq⟩ := hy
  obtain ⟨p', hp', q1, q2, q3, q4, q5, q6⟩ := mem_rows hm hMb
  obtain rfl : p = p' := by rw [hp] at hp'; injection hp'
  obtain ⟨e1, e2, e3⟩ := hq q2
  obtain ⟨A, cap, news, hyv, hrs, hA, hF, hcell, hone⟩ := src_spec (s := .p (.one (.arr sz b ver off len))) (y := y) hm hsz (by exact ⟨by rw [e3]; rfl, p, hp, hpv, hq⟩) (rs := (l.drop off).take len) (m := len) (cy := sz = sz ∧ ver = ver ∧ off + len ≤ l.length) (by simp [srcRows, rowsAt, hMb]) ⟨rfl, rfl, hle⟩
  refine ⟨p, news, hp, q1, e3, hF, hone, fun w' hw' => ?_⟩
  rw [hyv]
  cases A with
  | none =>
    have hl0 := hA rfl
    have hn : news = [] := List.eq_nil_of_length_eq_zero (by rw [hF.1, hrs, hl0, Nat.zero_mul])
    rw [hn]
    simp [Builtin.firstCells]
  | some ad => exact run_firstCells_some w' sz len ad len cap news (by rw [hF.1, hrs]) (fun j u hu => by rw [hw']; exact hcell ad rfl j u hu)
theorem RelF.append {sz : Nat} {l l' : List (List AV)} {vs vs' : List Value} (h : RelF I σ sz l vs) (h' : RelF I σ sz l' vs') : RelF I σ sz (l ++ l') (vs ++ vs') := by
  refine ⟨by rw [List.length_append, List.length_append, h.1, h'.1, Nat.add_mul], fun i r hr => ?_⟩
  by_cases hi : i < l.length
  · rw [List.getElem?_append_left hi] at hr
    obtain ⟨h1, h2⟩ := h.2 i r hr
    refine ⟨h1, fun j u hu => ?_⟩
    obtain ⟨x, hx, hx2⟩ := h2 j u hu
    exact ⟨x, by rw [List.getElem?_append_left (getElem?_lt hx)]; exact hx, hx2⟩
  · rw [List.getElem?_append_right (by omega)] at hr
    obtain ⟨h1, h2⟩ := h'.2 (i - l.length) r hr
    refine ⟨h1, fun j u hu => ?_⟩
    obtain ⟨x, hx, hx2⟩ := h2 j u hu
    have hle : l.length * sz ≤ i * sz := Nat.mul_le_mul_right _ (by omega)
    refine ⟨x, ?_, hx2⟩
    have := h.1
    rw [List.getElem?_append_right (by omega), this, show i * sz + j - l.length * sz = (i - l.length) * sz + j by rw [Nat.sub_mul]; omega]
    exact hx
theorem exec_builtin {b : Builtin} {args : Array Operand} {ts : Array TypeId} {f : Array TypeId → TypeId → Array Value → Sem Value} {v : Value} {w' : World} (hb : ∀ ks vs, builtin b ts ty ks vs = (do pure (Next.value (← f ts ty vs)) : Sem Next)) (h : (f ts ty (args.map a.eval)).run P w = .ok v w') :
    (execOp a.eval ⟨dst, .call { callee := .builtin b, args := args, argTypes := ts }, ty, pos, after, gd⟩).run P w = .ok (.value v) w' := by
  simp only [execOp, resolve, Sem.run_bind, Sem.run_pure, Result.andThen_ok, invoke, hb, h]
def zeroV (i : TypeInfo) : Value := i.zero.getD (.tuple #[])
theorem zeroV_spec {el : TypeId} {i : TypeInfo} {z : List Value} (hi : P.info? el = some i) (hzz : zeroT P el = some z) : i.zero = some (zeroV i) ∧ (zeroV i).cells.toList = z ∧ (zeroV i).cells.size = i.size ∧ z.all one1 = true := by
  simp only [zeroT, hi, Option.bind_some, Option.bind_eq_some_iff] at hzz
  obtain ⟨v2, hv2, h⟩ := hzz
  split at h
  · rename_i hcnd
    simp only [Bool.and_eq_true, beq_iff_eq] at hcnd
    injection h with h
    subst h
    simp only [zeroV, hv2, Option.getD_some]
    exact ⟨trivial, trivial, hcnd.2, hcnd.1⟩
  · cases h
theorem zeroCells_one1 {v : Value} {n : Nat} (h : ∀ u ∈ v.cells.toList, one1 u = true) (h0 : 0 < v.cells.size) : ∀ u ∈ (Builtin.zeroCells v.cells n).toList, one1 u = true := by
  intro u hu
  simp only [Builtin.zeroCells, Array.toList_map, List.mem_map] at hu
  obtain ⟨k, _, rfl⟩ := hu
  have hlt : k % v.cells.size < v.cells.size := Nat.mod_lt _ h0
  rw [getElem!_pos v.cells _ hlt]
  exact h _ (by simp)
/-- Behind all that is told of a row: there is room, or a new row is made. -/
theorem app_end (hm : Mem I σ M w) {x y : Operand} {t u el : TypeId} {i : TypeInfo} {z : List Value} (ht : elemT P t = some el) (hi : P.info? el = some i) (hzz : zeroT P el = some z) (hs0 : 0 < i.size)
    {b ver : Nat} {l rs : List (List AV)} {f : Bool} (hMb : M[b]? = some (.rows el i.size ver l f)) (hx : RelA I σ (.arr i.size b ver 0 l.length) (a.eval x)) {m : Nat} {news : List Value} (hsrc : Src P i.size u (a.eval y) m news w) (hF : RelF I σ i.size rs news) (hrs : rs.length = m) (hone : ∀ v ∈ news, one1 v = true) (hn63 : l.length + m ≤ 140737488355328) (hbig : (l.length + m) * i.bytes ≤ 140737488355328) :
    Turns P I σ M ⟨dst, .call { callee := .builtin .append, args := #[x, y], argTypes := #[t, u] }, ty, pos, after, gd⟩ a w (.p (.one (.arr i.size b (ver + 1) 0 (l.length + m)))) (M.set b (.rows el i.size (ver + 1) (l ++ rs) false)) := by
  obtain ⟨p, olds, hp, hps, hyv, hFo, honeo, hfc⟩ := own_src hm hMb hx hs0 (by omega)
  obtain ⟨p', hp', q1, q2, q3, q4, q5, q6⟩ := mem_rows hm hMb
  obtain rfl : p = p' := by rw [hp] at hp'; injection hp'
  simp only [List.drop_zero, List.take_length] at hFo
  have hFF := hFo.append hF
  have hol : olds.length = l.length * i.size := hFo.1
  have hnl : news.length = m * i.size := by rw [hF.1, hrs]
  have hll : (l ++ rs).length = l.length + m := by rw [List.length_append, hrs]
  have hbl : b < σ.length := getElem?_lt hp
  have hszo : (sizeOf el).run P w = .ok i.size w := run_size (by simp [sizeT, hi])
  have hval : ∀ σ' : List Plc, ∀ q : Plc, σ' = σ.set b q → q.ver = ver + 1 → q.sz = i.size → l.length + m ≤ q.cap → RelS I σ' (.p (.one (.arr i.size b (ver + 1) 0 (l.length + m)))) (.slice (q.blk.map fun g => ⟨g, 0 * i.size, none⟩) (l.length + m) (q.cap - 0)) := by
    intro σ' q hσ' h1 h2 h3
    refine ⟨rfl, q, by rw [hσ', List.getElem?_set, if_pos rfl, if_pos hbl], by omega, fun _ => ⟨h2, by omega, rfl⟩⟩
  rw [Nat.sub_zero, Nat.zero_mul] at hyv
  have hkind : ∃ d, P.underlying u = some d ∧ (d matches .int _) = false := by
    rcases hsrc.kind with ⟨e', hk⟩ | hk
    · exact ⟨_, hk, rfl⟩
    · exact ⟨_, hk, rfl⟩
  obtain ⟨d, hd, hdi⟩ := hkind
  by_cases hroom : l.length + m ≤ p.cap
  · cases hb : p.blk with
    | none =>
      rw [hb] at q6 hyv
      have q6 : p.cap = 0 := q6
      have hl0 : l = [] := List.eq_nil_of_length_eq_zero (by omega)
      have hm0 : m = 0 := by omega
      refine turns_renew (p' := { p with ver := ver + 1 }) (w' := w) (v := .slice none 0 0) hm hMb hp q2 rfl (exec_builtin (f := Builtin.append_) (fun _ _ => rfl) ?_) ?_ (World.grownBy.refl _ _) (.inl rfl) (fun σ' hσ' => ?_)
      · simp only [List.map_toArray, List.map_cons, List.map_nil]
        rw [hyv, q6]
        have hfs := hsrc.cells
        have hle := hsrc.len
        rcases hsrc.kind with ⟨e', hk⟩ | hk <;> simp [Builtin.append_, run_under (elemT_spec ht), run_under hk, hszo, hsrc.len, hl0, hm0, hfs] <;> (rw [hm0] at hfs; simp [hfs])
      · intro σ' hext hσ'
        refine ⟨fun h => (by cases h), q1, rfl, by rw [hll]; exact hroom, q4, fun i r h => (hFF.2 i r h).1, ?_⟩
        simp only [hb]
        exact q6
      · have := hval σ' { p with ver := ver + 1 } hσ' rfl q1 hroom
        simpa [hb, hl0, hm0, q6] using this
    | some g =>
      rw [hb] at q6 hyv
      obtain ⟨cs, hh, hss, ho, hcs⟩ := q6
      have hle : (l.length + m) * i.size ≤ p.cap * i.size := Nat.mul_le_mul_right _ hroom
      rw [Nat.add_mul] at hle
      have hst := run_storeCells_at (P := P) g (l.length * i.size) el news 0 cs w hh (by rw [hnl]; omega) (fun v hv => one1_cell (hone v hv))
      rw [Nat.add_zero] at hst
      obtain ⟨cs', hcs'⟩ : ∃ cs' : Array Value, cs' = (cs.toList.take (l.length * i.size) ++ news ++ cs.toList.drop (l.length * i.size + news.length)).toArray := ⟨_, rfl⟩
      have ho' : ∀ (k : Nat) (x : Value), cs'[k]? = some x → one1 x = true := by rw [hcs']; exact splice_one ho hone
      rw [← hcs'] at hst
      have hl1 : (cs.toList.take (l.length * i.size)).length = l.length * i.size := by
        have := Array.length_toList (xs := cs)
        rw [List.length_take]
        omega
      have hsz' : cs'.size = cs.size := by
        rw [hcs']
        simp only [List.size_toArray, List.length_append, hl1, List.length_drop, Array.length_toList, hnl]
        omega
      refine turns_renew (p' := { p with ver := ver + 1 }) (w' := w.setRow g cs') (v := .slice (some ⟨g, 0, none⟩) (l.length + m) p.cap) hm hMb hp q2 rfl (exec_builtin (f := Builtin.append_) (fun _ _ => rfl) ?_) ?_ ⟨rfl, rfl, rfl, by simp, fun k hk hs => setRow_other w g k cs' (fun e => hs (by rw [hb, e]))⟩ (.inl rfl) (fun σ' hσ' => ?_)
      · simp only [List.map_toArray, List.map_cons, List.map_nil]
        rw [hyv]
        have hfs := hsrc.cells
        rcases hsrc.kind with ⟨e', hk⟩ | hk <;> simp [Builtin.append_, run_under (elemT_spec ht), run_under hk, hszo, hsrc.len, hroom, hfs, add_mk, hst]
      · intro σ' hext hσ'
        refine ⟨fun h => (by cases h), q1, rfl, by rw [hll]; exact hroom, q4, fun i r h => (hFF.2 i r h).1, ?_⟩
        simp only [hb]
        refine ⟨cs', setRow_heap w g cs cs' el _ hh, by rw [hsz', hss], ho', fun k r hr j u' hu' => ?_⟩
        by_cases hk : k < l.length
        · rw [List.getElem?_append_left hk] at hr
          obtain ⟨x, hx1, hx2⟩ := hcs k r hr j u' hu'
          have hj : j < i.size := by rw [← q5 k r hr]; exact getElem?_lt hu'
          have h2 : (k + 1) * i.size ≤ l.length * i.size := Nat.mul_le_mul_right _ hk
          rw [Nat.add_mul] at h2
          refine ⟨x, ?_, RelA_mono (ExtI.refl _) hext hx2⟩
          rw [hcs', List.getElem?_toArray, List.append_assoc, List.getElem?_append_left (by rw [hl1]; omega), List.getElem?_take, if_pos (by omega)]
          simpa using hx1
        · rw [List.getElem?_append_right (by omega)] at hr
          obtain ⟨x, hx1, hx2⟩ := (hF.2 (k - l.length) r hr).2 j u' hu'
          have h2 : l.length * i.size ≤ k * i.size := Nat.mul_le_mul_right _ (by omega)
          refine ⟨x, ?_, RelA_mono (ExtI.refl _) hext hx2⟩
          rw [Nat.sub_mul] at hx1
          have hlt := getElem?_lt hx1
          rw [hcs', List.getElem?_toArray, List.append_assoc, List.getElem?_append_right (by rw [hl1]; omega), hl1, List.getElem?_append_left (by omega), show k * i.size + j - l.length * i.size = k * i.size - l.length * i.size + j by omega]
          exact hx1
      · have := hval σ' { p with ver := ver + 1 } hσ' rfl q1 hroom
        simpa [hb] using this
  · obtain ⟨hz0, hz1, hvs, hz2⟩ := zeroV_spec hi hzz
    have hge := grownCap_ge w (l.length + m) p.cap el
    have hcm : grownCap w (l.length + m) p.cap el ≤ maxLen := grownCap_le_maxLen _ _ _ _ (by unfold maxLen; omega)
    have happ := run_append_grow_src (P := P) w t u ty el i (zeroV i) (elemT_spec ht) hi hz0 (p.blk.map fun g => ⟨g, 0, none⟩) l.length p.cap olds (by rw [← hyv]; exact hfc _ (fun _ => rfl)) (a.eval y) m news hsrc (by omega) (by omega) (growslice_fits (by omega) hbig)
    have hzo := zeroCells_one1 (v := zeroV i) (n := grownCap w (l.length + m) p.cap el - (l.length + m)) (by rw [hz1]; exact fun u hu => List.all_eq_true.1 hz2 u hu) (by omega)
    refine turns_renew (p' := ⟨some w.heap.size, grownCap w (l.length + m) p.cap el, ver + 1, i.size⟩) (w' := w.drew.alloc (.cells ((olds ++ news).toArray ++ Builtin.zeroCells (zeroV i).cells (grownCap w (l.length + m) p.cap el - (l.length + m))) el)) (v := .slice (some ⟨w.heap.size, 0, none⟩) (l.length + m) (grownCap w (l.length + m) p.cap el)) hm hMb hp q2 rfl (exec_builtin (f := Builtin.append_) (fun _ _ => rfl) ?_) ?_ ⟨rfl, rfl, rfl, by simp, fun k hk _ => heap_alloc_old w.drew _ hk⟩ (.inr rfl) (fun σ' hσ' => ?_)
    · simp only [List.map_toArray, List.map_cons, List.map_nil]
      rw [hyv]
      exact happ
    · intro σ' hext hσ'
      refine ⟨fun h => (by cases h), rfl, rfl, by rw [hll]; exact hge, hcm, fun i r h => (hFF.2 i r h).1, _, heap_alloc_new w.drew _, ?_, ?_, fun k r hr j u' hu' => ?_⟩
      · simp only [Array.size_append, List.size_toArray, List.length_append, size_zeroCells, hvs, hol, hnl]
        rw [← Nat.add_mul, ← Nat.add_mul]
        congr 1
        omega
      · intro k x hk
        rw [← Array.getElem?_toList] at hk
        have hx := List.mem_of_getElem? hk
        simp only [Array.toList_append] at hx
        rcases List.mem_append.1 hx with hx | hx
        · rcases List.mem_append.1 hx with hx | hx
          · exact honeo x hx
          · exact hone x hx
        · exact hzo x hx
      · obtain ⟨x, hx1, hx2⟩ := (hFF.2 k r hr).2 j u' hu'
        refine ⟨x, ?_, RelA_mono (ExtI.refl _) hext hx2⟩
        rw [← Array.getElem?_toList]
        simp only [Array.toList_append]
        rw [List.getElem?_append_left (getElem?_lt hx1)]
        exact hx1
    · have := hval σ' ⟨some w.heap.size, grownCap w (l.length + m) p.cap el, ver + 1, i.size⟩ hσ' rfl rfl hge
      simpa using this
theorem s_app (hm : Mem I σ M w) (he : RelE I σ e a) {x y : Operand} {X Y : Opd} (hx : compX x = some X) (hy : compX y = some Y) {args : Array Operand} {ts : Array TypeId} {t el : TypeId} {i : TypeInfo} {z : List Value} (ha : args.toList = [x, y]) (hts : ts.toList = [t, t]) (ht : elemT P t = some el) (hi : P.info? el = some i) (hzz : zeroT P el = some z) (hs0 : 0 < i.size) (hb0 : 0 < i.bytes)
    (h : out e M true (.app el i.size i.bytes z X Y) = some (r, M', c)) (hc : c) : Turns P I σ M ⟨dst, .call { callee := .builtin .append, args := args, argTypes := ts }, ty, pos, after, gd⟩ a w r M' := by
  obtain rfl : args = #[x, y] := Array.toList_inj.1 (by simpa using ha)
  obtain rfl : ts = #[t, t] := Array.toList_inj.1 (by simpa using hts)
  simp only [out] at h
  split at h
  · rename_i sz' b ver off len hl
    split at h
    · rename_i t' sz2 ver' l fb rs m cy hMb hsrc
      by_cases hend : off = 0 ∧ len = l.length
      case neg =>
        rw [if_neg hend] at h
        simp only [Option.some.injEq, Prod.mk.injEq] at h
        obtain ⟨rfl, rfl, rfl⟩ := h
        obtain ⟨rfl, rfl, rfl, hle, hcy⟩ := hc
        exact s_app_in hm he hx hy ht hi hs0 hl hMb hsrc hcy hle
      rw [if_pos hend] at h
      simp only [Option.some.injEq, Prod.mk.injEq] at h
      obtain ⟨rfl, rfl, rfl⟩ := h
      obtain ⟨rfl, rfl⟩ := hend
      obtain ⟨rfl, rfl, rfl, rfl, hbig, hcy⟩ := hc
      obtain ⟨A, cap, news, hyv, hrs, hA, hF, hcell, hone⟩ := src_spec hm hs0 (vl_rel he hy) hsrc hcy
      have hlen : l.length + m ≤ 140737488355328 := Nat.le_trans (Nat.le_mul_of_pos_right _ hb0) hbig
      have hS : Src P i.size t (a.eval y) m news w := by
        rw [hyv]
        cases A with
        | none =>
          have hm0 := hA rfl
          subst hm0
          have hn : news = [] := List.eq_nil_of_length_eq_zero (by rw [hF.1, hrs, Nat.zero_mul])
          subst hn
          exact Src.ofNil w (elemT_spec ht) cap
        | some ad => exact Src.ofSlice w (elemT_spec ht) ad m cap news (by rw [hF.1, hrs]) (hcell ad rfl) (fun u hu => one1_cell (hone u hu))
      exact app_end hm ht hi hzz hs0 hMb (vl_one he hx hl) hS hF hrs hone hlen hbig
    · cases h
  · cases h
end
end Go.Proofs.YtioefecijidgkaaAbs
