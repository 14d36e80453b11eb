/- The abstract machine: cuts, structs and slices written out; operations that make memory, or write. -/
import Derived.Test.YtioefecijidgkaaAbs4
import Derived.Laws.CopyRow
set_option linter.unusedVariables false
set_option linter.unusedSimpArgs false
namespace Go.Proofs.YtioefecijidgkaaAbs
open Go Go.RowKit

theorem Keep.refl (S : Nat → Prop) (w : World) : Keep S w w := ⟨rfl, rfl, rfl, Nat.le_refl _, fun _ _ _ => rfl⟩
theorem Keep.trans {S : Nat → Prop} {u v w : World} (h : Keep S u v) (k : Keep S v w) : Keep S u w :=
  ⟨k.os.trans h.os, k.tape.trans h.tape, k.output.trans h.output, Nat.le_trans h.size k.size, fun i hi hs => (k.block i (Nat.lt_of_lt_of_le hi h.size) hs).trans (h.block i hi hs)⟩
theorem Keep.mono {S T : Nat → Prop} {u v : World} (h : Keep S u v) (hst : ∀ k, k < u.heap.size → S k → T k) : Keep T u v :=
  ⟨h.os, h.tape, h.output, h.size, fun i hi hs => h.block i hi (fun hk => hs (hst i hi hk))⟩
theorem Keep.alloc (S : Nat → Prop) (w : World) (o : Obj) : Keep S w (w.alloc o) := ⟨rfl, rfl, rfl, by simp, fun k hk _ => heap_alloc_old w o hk⟩
theorem Keep.setRow (S : Nat → Prop) (w : World) (g : Nat) (cs : Array Value) (hg : S g) : Keep S w (w.setRow g cs) := ⟨rfl, rfl, rfl, by simp, fun k hk hs => setRow_other w g k cs (fun e => hs (e ▸ hg))⟩
theorem RelB_mono {I I' : Im} {σ σ' : List Plc} {w w' : World} {p : Plc} {x : Blk} (hI : ExtI I I') (hσ : ExtP σ σ') (hw : ∀ g, x.live = true → p.blk = some g → w'.heap[g]? = w.heap[g]?) (h : RelB I σ w p x) : RelB I' σ' w' p x := by
  cases x with
  | dead => trivial
  | rows t sz ver l f =>
    obtain ⟨h0, h1, h2, h3, h4, h5, h6⟩ := h
    refine ⟨h0, h1, h2, h3, h4, h5, ?_⟩
    cases hb : p.blk with
    | none => rw [hb] at h6; exact h6
    | some g =>
      rw [hb] at h6
      obtain ⟨cs, hh, hs, ho, hc⟩ := h6
      refine ⟨cs, (hw g rfl hb).trans hh, hs, ho, fun i r hr j a ha => ?_⟩
      obtain ⟨x, hx, hra⟩ := hc i r hr j a ha
      exact ⟨x, hx, RelA_mono hI hσ hra⟩
  | sit s pos =>
    obtain ⟨h0, g, hg, h⟩ := h
    exact ⟨h0, g, hg, (hw g rfl hg).trans h⟩
theorem RelB_lt {I : Im} {σ : List Plc} {w : World} {p : Plc} {x : Blk} (h : RelB I σ w p x) (hl : x.live = true) {g : Nat} (hg : p.blk = some g) : g < w.heap.size := by
  cases x with
  | dead => cases hl
  | rows t sz ver l f =>
    obtain ⟨h0, h1, h2, h3, h4, h5, h6⟩ := h
    rw [hg] at h6
    obtain ⟨cs, hh, _⟩ := h6
    exact (Array.getElem?_eq_some_iff.1 hh).1
  | sit s pos =>
    obtain ⟨h0, g', hg', h⟩ := h
    rw [hg] at hg'
    injection hg' with hg'
    subst hg'
    exact (Array.getElem?_eq_some_iff.1 h).1
theorem Mem.lt {I : Im} {σ : List Plc} {M : List Blk} {w : World} (hm : Mem I σ M w) {g : Nat} (h : Has σ M g) : g < w.heap.size := by
  obtain ⟨b, x, p, hx, hl, hp, hg⟩ := h
  exact RelB_lt (hm.blk b x p hx hp) hl hg
theorem Mem.immlt {I : Im} {σ : List Plc} {M : List Blk} {w : World} (hm : Mem I σ M w) {a : Addr} {x : Value} (h : I a = some x) : a.block < w.heap.size := by
  have := hm.imm a x h
  unfold World.cell? at this
  split at this
  · rename_i hh; exact (Array.getElem?_eq_some_iff.1 hh).1
  · cases this
theorem cell_same {w w' : World} {a : Addr} (h : w'.heap[a.block]? = w.heap[a.block]?) : w'.cell? a = w.cell? a := by unfold World.cell?; rw [h]
/-- A memory lives on where its blocks and what is told for ever are as they were. -/
theorem Mem.keep {I : Im} {σ : List Plc} {M : List Blk} {w w' : World} (hm : Mem I σ M w) {S : Nat → Prop} (hk : Keep S w w') (hs : ∀ g, Has σ M g → ¬ S g) (hi : ∀ a x, I a = some x → ¬ S a.block) : Mem I σ M w' :=
  ⟨hm.len, fun b x p hx hp => RelB_mono (ExtI.refl _) (ExtP.refl _) (fun g hl hg => hk.block g (RelB_lt (hm.blk b x p hx hp) hl hg) (hs g ⟨b, x, p, hx, hl, hp, hg⟩)) (hm.blk b x p hx hp), hm.inj, hm.ap,
    fun a x h => (cell_same (hk.block a.block (hm.immlt h) (hi a x h))).trans (hm.imm a x h)⟩
/-- A new block. -/
theorem Mem.push {I : Im} {σ : List Plc} {M : List Blk} {w : World} (hm : Mem I σ M w) (o : Obj) (x : Blk) (p : Plc) (hp : p.blk = some w.heap.size) (hx : RelB I (σ ++ [p]) (w.alloc o) p x) : Mem I (σ ++ [p]) (M ++ [x]) (w.alloc o) := by
  have hext := ExtP.append σ [p]
  have old : ∀ b y q, (M ++ [x])[b]? = some y → (σ ++ [p])[b]? = some q → (M[b]? = some y ∧ σ[b]? = some q ∧ b < M.length) ∨ (b = M.length ∧ y = x ∧ q = p) := by
    intro b y q hy hq
    by_cases hb : b < M.length
    · rw [List.getElem?_append_left hb] at hy
      rw [List.getElem?_append_left (by rw [hm.len]; exact hb)] at hq
      exact .inl ⟨hy, hq, hb⟩
    · have h1 := getElem?_lt hy
      have h1' : b < M.length + 1 := by simpa using h1
      have h2 : b = M.length := by omega
      subst h2
      rw [List.getElem?_append_right (Nat.le_refl _)] at hy
      rw [List.getElem?_append_right (by rw [hm.len]; exact Nat.le_refl _)] at hq
      simp only [Nat.sub_self, List.getElem?_cons_zero, Option.some.injEq, hm.len] at hy hq
      exact .inr ⟨rfl, hy.symm, hq.symm⟩
  refine ⟨by simp [hm.len], ?_, ?_, ?_, ?_⟩
  · intro b y q hy hq
    rcases old b y q hy hq with ⟨h1, h2, _⟩ | ⟨_, rfl, rfl⟩
    · exact RelB_mono (ExtI.refl _) hext (fun g hl hg => heap_alloc_old w o (RelB_lt (hm.blk b y q h1 h2) hl hg)) (hm.blk b y q h1 h2)
    · exact hx
  · intro b b' y y' q q' g hy hy' hl hl' hq hq' hg hg'
    rcases old b y q hy hq with ⟨h1, h2, _⟩ | ⟨h1, rfl, rfl⟩
    · rcases old b' y' q' hy' hq' with ⟨h3, h4, _⟩ | ⟨h3, rfl, rfl⟩
      · exact hm.inj b b' y y' q q' g h1 h3 hl hl' h2 h4 hg hg'
      · have := RelB_lt (hm.blk b y q h1 h2) hl hg
        rw [hp] at hg'
        injection hg' with hg'
        omega
    · rcases old b' y' q' hy' hq' with ⟨h3, h4, _⟩ | ⟨h3, rfl, rfl⟩
      · have := RelB_lt (hm.blk b' y' q' h3 h4) hl' hg'
        rw [hp] at hg
        injection hg with hg
        omega
      · omega
  · intro b y q g hy hl hq hg a ha
    rcases old b y q hy hq with ⟨h1, h2, _⟩ | ⟨_, rfl, rfl⟩
    · exact hm.ap b y q g h1 hl h2 hg a ha
    · rw [hp] at hg
      injection hg with hg
      cases hI : I a with
      | none => rfl
      | some v => have := hm.immlt hI; omega
  · intro a v h
    exact (cell_same (heap_alloc_old w o (hm.immlt h))).trans (hm.imm a v h)
theorem Has.push {σ : List Plc} {M : List Blk} {x : Blk} {p : Plc} {n g : Nat} (hl : σ.length = M.length) (hp : p.blk = some n) (h : Has (σ ++ [p]) (M ++ [x]) g) : Has σ M g ∨ g = n := by
  obtain ⟨b, y, q, hy, hlv, hq, hg⟩ := h
  by_cases hb : b < M.length
  · rw [List.getElem?_append_left hb] at hy
    rw [List.getElem?_append_left (by rw [hl]; exact hb)] at hq
    exact .inl ⟨b, y, q, hy, hlv, hq, hg⟩
  · have h1 := getElem?_lt hy
    have h1' : b < M.length + 1 := by simpa using h1
    have h2 : b = M.length := by omega
    subst h2
    rw [List.getElem?_append_right (by rw [hl]; exact Nat.le_refl _)] at hq
    simp only [hl, Nat.sub_self, List.getElem?_cons_zero, Option.some.injEq] at hq
    subst hq
    rw [hp] at hg
    injection hg with hg
    exact .inr hg.symm
/-- A step that may turn the memory. -/
def Turns (P : Program) (I : Im) (σ : List Plc) (M : List Blk) (o : Oper) (a : Act) (w : World) (r : SV) (M' : List Blk) : Prop :=
  ∃ n σ' w', (execOp a.eval o).run P w = .ok n w' ∧ ((∃ v, n = .value v ∧ RelS I σ' r v) ∨ (n = .skip ∧ r = .any)) ∧ ExtP σ σ' ∧ Mem I σ' M' w' ∧ Keep (Has σ M) w w' ∧ ∀ g, Has σ' M' g → Has σ M g ∨ w.heap.size ≤ g
section
variable {P : Program} {I : Im} {σ : List Plc} {e : Nat → SV} {M M' : List Blk} {w : World} {a : Act} {r : SV} {c : Prop} {dst : Option Tmp} {ty : TypeId} {pos : String} {after : Array Edge} {gd : Option (Nat × Bool)}
theorem Turns.of_gives {o : Oper} (hm : Mem I σ M w) (h : Gives P I σ o a w r) : Turns P I σ M o a w r M := by
  obtain ⟨v, hv, hr⟩ := h
  exact ⟨_, σ, w, hv, .inl ⟨v, rfl, hr⟩, ExtP.refl _, hm, Keep.refl _ _, fun g h => .inl h⟩
/-- A new row of cells. -/
theorem turns_new {o : Oper} (hm : Mem I σ M w) {t sz : Nat} {l : List (List AV)} {cs : Array Value} (hs : cs.size = l.length * sz) (hlm : l.length ≤ maxLen) (hr : ∀ (i : Nat) (r : List AV), l[i]? = some r → r.length = sz ∧ ∀ (j : Nat) (u : AV), r[j]? = some u → ∃ x, cs[i * sz + j]? = some x ∧ RelA I σ u x)
    {v : Value} (hrun : (execOp a.eval o).run P w = .ok (.value v) (w.alloc (.cells cs t))) (hv : RelS I (σ ++ [⟨some w.heap.size, l.length, 0, sz⟩]) r v) : Turns P I σ M o a w r (M ++ [.rows t sz 0 l true]) := by
  have hext := ExtP.append σ [⟨some w.heap.size, l.length, 0, sz⟩]
  refine ⟨_, _, _, hrun, .inl ⟨v, rfl, hv⟩, hext, hm.push _ _ _ rfl ⟨fun _ => rfl, rfl, rfl, Nat.le_refl _, hlm, fun i r h => (hr i r h).1, cs, heap_alloc_new _ _, hs, rows_one hs hr, fun i r h j u hu => ?_⟩, Keep.alloc _ _ _, fun g h => ?_⟩
  · obtain ⟨x, hx, h2⟩ := (hr i r h).2 j u hu
    exact ⟨x, hx, RelA_mono (ExtI.refl _) hext h2⟩
  · rcases Has.push hm.len rfl h with h | h
    · exact .inl h
    · exact .inr (by omega)
/-- A new row of cells, at the memory's end or in a place that was kept for it. -/
def NewT (P : Program) (I : Im) (σ : List Plc) (M : List Blk) (o : Oper) (a : Act) (w : World) (t sz : Nat) (l : List (List AV)) (mk : Nat → Nat → SV) : Prop :=
  Turns P I σ M o a w (mk M.length 0) (M ++ [.rows t sz 0 l true]) ∧ ∀ n, M[n]? = some (.rows 0 0 0 [] true) → Turns P I σ M o a w (mk n 1) (M.set n (.rows t sz 1 l true))
theorem turns_newT {o : Oper} (hm : Mem I σ M w) {t sz : Nat} {l : List (List AV)} {cs : Array Value} (hs : cs.size = l.length * sz) (hlm : l.length ≤ maxLen) (hr : ∀ (i : Nat) (r : List AV), l[i]? = some r → r.length = sz ∧ ∀ (j : Nat) (u : AV), r[j]? = some u → ∃ x, cs[i * sz + j]? = some x ∧ RelA I σ u x)
    {v : Value} {mk : Nat → Nat → SV} (hrun : (execOp a.eval o).run P w = .ok (.value v) (w.alloc (.cells cs t))) (hv : ∀ (σ' : List Plc) (b ver : Nat), σ'[b]? = some ⟨some w.heap.size, l.length, ver, sz⟩ → RelS I σ' (mk b ver) v) : NewT P I σ M o a w t sz l mk := by
  refine ⟨turns_new hm hs hlm hr hrun (hv _ _ _ ?_), fun n hn => ?_⟩
  · rw [List.getElem?_append_right (by rw [hm.len]; exact Nat.le_refl _)]
    simp [hm.len]
  have hnm : n < M.length := (List.getElem?_eq_some_iff.1 hn).1
  have hnl : n < σ.length := by rw [hm.len]; exact hnm
  obtain ⟨p, hp⟩ : ∃ p, σ[n]? = some p := ⟨_, List.getElem?_eq_getElem hnl⟩
  obtain ⟨p', hp'⟩ : ∃ p' : Plc, p' = ⟨some w.heap.size, l.length, 1, sz⟩ := ⟨_, rfl⟩
  have hpv : p.ver = 0 := (hm.blk n _ p hn hp).2.2.1
  have hext : ExtP σ (σ.set n p') := by
    intro b q hq
    rw [List.getElem?_set]
    by_cases hb : n = b
    · subst hb
      obtain rfl : p = q := by rw [hp] at hq; injection hq
      rw [if_pos rfl, if_pos hnl]
      exact ⟨p', rfl, by omega, fun h => by rw [hp'] at h; simp only [] at h; omega⟩
    · rw [if_neg hb]
      exact ⟨q, hq, Nat.le_refl _, fun _ => rfl⟩
  have key : ∀ {b : Nat} {y : Blk} {q : Plc}, (M.set n (.rows t sz 1 l true))[b]? = some y → (σ.set n p')[b]? = some q → (b = n ∧ y = .rows t sz 1 l true ∧ q = p') ∨ (b ≠ n ∧ M[b]? = some y ∧ σ[b]? = some q) := by
    intro b y q hy hq
    rw [List.getElem?_set] at hy hq
    by_cases hb : n = b
    · subst hb
      rw [if_pos rfl, if_pos hnm] at hy
      rw [if_pos rfl, if_pos hnl] at hq
      injection hy with hy; injection hq with hq
      exact .inl ⟨rfl, hy.symm, hq.symm⟩
    · rw [if_neg hb] at hy hq
      exact .inr ⟨fun e => hb e.symm, hy, hq⟩
  have hold : ∀ {b : Nat} {y : Blk} {q : Plc} {g : Nat}, M[b]? = some y → y.live = true → σ[b]? = some q → q.blk = some g → g < w.heap.size := fun h1 h2 h3 h4 => RelB_lt (hm.blk _ _ _ h1 h3) h2 h4
  refine ⟨_, σ.set n p', _, hrun, .inl ⟨v, rfl, hv _ _ _ (by rw [List.getElem?_set, if_pos rfl, if_pos hnl, hp'])⟩, hext, ⟨by simp [hm.len], ?_, ?_, ?_, ?_⟩, Keep.alloc _ _ _, ?_⟩
  · intro b y q hy hq
    rcases key hy hq with ⟨rfl, rfl, rfl⟩ | ⟨_, h1, h2⟩
    · subst hp'
      refine ⟨fun _ => rfl, rfl, rfl, Nat.le_refl _, hlm, fun i r h => (hr i r h).1, cs, heap_alloc_new _ _, hs, rows_one hs hr, fun i r h j u hu => ?_⟩
      obtain ⟨x, hx, h2⟩ := (hr i r h).2 j u hu
      exact ⟨x, hx, RelA_mono (ExtI.refl _) hext h2⟩
    · exact RelB_mono (ExtI.refl _) hext (fun g hlv hg => heap_alloc_old w _ (hold h1 hlv h2 hg)) (hm.blk b y q h1 h2)
  · intro b b' y y' q q' g hy hy' ly ly' hq hq' hg hg'
    rcases key hy hq with ⟨rfl, rfl, rfl⟩ | ⟨_, h1, h2⟩ <;> rcases key hy' hq' with ⟨rfl, rfl, rfl⟩ | ⟨_, h1', h2'⟩
    · rfl
    · have := hold h1' ly' h2' hg'
      rw [hp'] at hg
      simp only [Option.some.injEq] at hg
      omega
    · have := hold h1 ly h2 hg
      rw [hp'] at hg'
      simp only [Option.some.injEq] at hg'
      omega
    · exact hm.inj b b' y y' q q' g h1 h1' ly ly' h2 h2' hg hg'
  · intro b y q g hy ly hq hg ad had
    rcases key hy hq with ⟨rfl, rfl, rfl⟩ | ⟨_, h1, h2⟩
    · rw [hp'] at hg
      simp only [Option.some.injEq] at hg
      cases hI : I ad with
      | none => rfl
      | some x => have := hm.immlt hI; omega
    · exact hm.ap b y q g h1 ly h2 hg ad had
  · intro ad x hI
    exact (cell_same (heap_alloc_old w _ (hm.immlt hI))).trans (hm.imm ad x hI)
  · rintro g ⟨b, y, q, hy, ly, hq, hg⟩
    rcases key hy hq with ⟨rfl, rfl, rfl⟩ | ⟨_, h1, h2⟩
    · rw [hp'] at hg
      simp only [Option.some.injEq] at hg
      exact .inr (by omega)
    · exact .inl ⟨b, y, q, h1, ly, h2, hg⟩
def mkP (b ver : Nat) : SV := .p (.one (.ptr b ver 0 0))
def mkA (sz len b ver : Nat) : SV := .p (.one (.arr sz b ver 0 len))
theorem rel_mkP {I : Im} {n sz : Nat} {g : Nat} (σ' : List Plc) (b ver : Nat) (h : σ'[b]? = some ⟨some g, n, ver, sz⟩) : RelS I σ' (mkP b ver) (.pointer (some ⟨g, 0, none⟩)) := ⟨rfl, _, h, Nat.le_refl _, fun _ => ⟨g, rfl, by simp⟩⟩
theorem rel_mkA {I : Im} {n sz : Nat} {g : Nat} (σ' : List Plc) (b ver : Nat) (h : σ'[b]? = some ⟨some g, n, ver, sz⟩) : RelS I σ' (mkA sz n b ver) (.slice (some ⟨g, 0, none⟩) n n) := ⟨rfl, _, h, Nat.le_refl _, fun _ => ⟨rfl, by simp, by simp⟩⟩
theorem maxLen_one : (1 : Nat) ≤ maxLen := by unfold maxLen; omega
theorem rel_new {l : List (List AV)} {sz : Nat} (hlen : σ.length = M.length) : RelS I (σ ++ [⟨some w.heap.size, l.length, 0, sz⟩]) (.p (.one (.ptr M.length 0 0 0))) (.pointer (some ⟨w.heap.size, 0, none⟩)) := by
  refine ⟨rfl, ⟨some w.heap.size, l.length, 0, sz⟩, ?_, Nat.le_refl _, fun _ => ⟨_, rfl, by simp⟩⟩
  rw [List.getElem?_append_right (by rw [hlen]; exact Nat.le_refl _)]
  simp [hlen]
theorem s_allocT (hm : Mem I σ M w) {t sz : Nat} {z : List Value} (hz : sizeT P t = some sz) (hzz : zeroT P t = some z)
    : NewT P I σ M ⟨dst, .alloc t, ty, pos, after, gd⟩ a w t sz [zc z] mkP := by
  obtain ⟨h1, h2, v, hv, hrun⟩ := zeroT_spec hzz
  have hsz : z.length = sz := by rw [hz] at h2; injection h2 with h2; exact h2.symm
  have hvs : v.cells.size = sz := by rw [← Array.length_toList, hv, hsz]
  have hrel : RelL I σ (zc z) v.cells.toList := by rw [hv]; exact RelL_zc h1
  refine turns_newT hm (l := [zc z]) (cs := v.cells) (by simp [hvs]) maxLen_one (fun i r hr => ?_) (v := .pointer (some ⟨w.heap.size, 0, none⟩)) ?_ rel_mkP
  · cases i with
    | succ i => simp at hr
    | zero =>
      simp only [List.getElem?_cons_zero, Option.some.injEq] at hr
      subst hr
      refine ⟨by simp [zc, hsz], fun j u hu => ?_⟩
      have hj : j < v.cells.toList.length := by rw [hrel.1]; exact getElem?_lt hu
      refine ⟨v.cells.toList[j], ?_, hrel.2 j u _ hu (List.getElem?_eq_getElem hj)⟩
      have hj' : j < v.cells.size := by simpa using hj
      simp [hj']
  · simp only [execOp]
    refine run_v ?_
    simp only [Instr.alloc, Sem.run_bind, hrun, Result.andThen_ok, newVar, newRow, newObj, Sem.run, Sem.run_pure, Sem.bind]
    rfl
theorem s_alloc (hm : Mem I σ M w) {t sz : Nat} {z : List Value} (hz : sizeT P t = some sz) (hzz : zeroT P t = some z)
    (h : out e M true (.alloc t sz z) = some (r, M', c)) : Turns P I σ M ⟨dst, .alloc t, ty, pos, after, gd⟩ a w r M' := by
  simp only [out, Option.some.injEq, Prod.mk.injEq] at h
  obtain ⟨rfl, rfl, _⟩ := h
  exact (s_allocT hm hz hzz).1
theorem s_boxT (hm : Mem I σ M w) (he : RelE I σ e a) {x : Operand} {X : Opd} (hx : compX x = some X) {t sz : Nat} 
    {q : Pt} (hq : strip true (raw e X) = .p q) (hc : q.cells.length = sz) : NewT P I σ M ⟨dst, .box t x, ty, pos, after, gd⟩ a w t sz [q.cells] mkP := by
  have hv := vl_rel he hx
  rw [hq] at hv
  have hrel := RelP_cells hv
  have hvs : (a.eval x).cells.size = sz := by rw [← Array.length_toList, hrel.1, hc]
  refine turns_newT hm (l := [q.cells]) (cs := (a.eval x).cells) (by simp [hvs]) maxLen_one (fun i r hr => ?_) (v := .pointer (some ⟨w.heap.size, 0, none⟩)) ?_ rel_mkP
  · cases i with
    | succ i => simp at hr
    | zero =>
      simp only [List.getElem?_cons_zero, Option.some.injEq] at hr
      subst hr
      refine ⟨hc, fun j u hu => ?_⟩
      have hj : j < (a.eval x).cells.toList.length := by rw [hrel.1]; exact getElem?_lt hu
      refine ⟨(a.eval x).cells.toList[j], ?_, hrel.2 j u _ hu (List.getElem?_eq_getElem hj)⟩
      have hj' : j < (a.eval x).cells.size := by simpa using hj
      simp [hj']
  · simp only [execOp]
    refine run_v ?_
    simp only [Instr.box, Sem.run_bind, newVar, newRow, newObj, Sem.run, Sem.run_pure, Sem.bind, Result.andThen_ok]
    rfl
theorem s_box (hm : Mem I σ M w) (he : RelE I σ e a) {x : Operand} {X : Opd} (hx : compX x = some X) {t sz : Nat} 
    (h : out e M true (.box t sz X) = some (r, M', c)) (hc : c) : Turns P I σ M ⟨dst, .box t x, ty, pos, after, gd⟩ a w r M' := by
  simp only [out] at h
  split at h
  · rename_i q hq
    simp only [Option.some.injEq, Prod.mk.injEq] at h
    obtain ⟨rfl, rfl, rfl⟩ := h
    exact (s_boxT hm he hx hq hc).1
  · cases h
theorem fillL_length : ∀ (as l : List AV) (off : Nat), (fillL l off as).length = l.length
  | [], l, off => rfl
  | a :: as, l, off => by rw [fillL, fillL_length as]; simp
theorem fillL_get : ∀ (as l : List AV) (off j : Nat), off + as.length ≤ l.length → (fillL l off as)[j]? = if off ≤ j ∧ j < off + as.length then as[j - off]? else l[j]?
  | [], l, off, j, h => by
    unfold fillL
    rw [if_neg (by simp)]
  | a :: as, l, off, j, h => by
    simp only [List.length_cons] at h ⊢
    unfold fillL
    rw [fillL_get as (l.set off a) (off + 1) j (by simp; omega)]
    by_cases h1 : off + 1 ≤ j ∧ j < off + 1 + as.length
    · rw [if_pos h1, if_pos (by omega), show j - off = (j - (off + 1)) + 1 by omega, List.getElem?_cons_succ]
    · rw [if_neg h1, List.getElem?_set]
      by_cases h2 : off = j
      · subst h2
        rw [if_pos rfl, if_pos (by omega), if_pos (by omega)]
        simp
      · rw [if_neg h2, if_neg (by omega)]
theorem s_st (hm : Mem I σ M w) (he : RelE I σ e a) {x y : Operand} {X Y : Opd} (hx : compX x = some X) (hy : compX y = some Y) {t sz : Nat} (hz : sizeT P t = some sz)
    (h : out e M true (.st sz X Y) = some (r, M', c)) (hc : c) : Turns P I σ M ⟨none, .store t x y, ty, pos, after, gd⟩ a w r M' := by
  simp only [out] at h
  split at h
  · rename_i b ver i j q hl hq
    split at h
    · rename_i tb sz' ver' l fb hMb
      simp only [Option.some.injEq, Prod.mk.injEq] at h
      obtain ⟨rfl, rfl, rfl⟩ := h
      obtain ⟨rfl, hi, hj, hqs⟩ := hc
      obtain ⟨p, g, cs, hp, hg, hps, hv, hh, hs, hlc, hrl, hcs⟩ := mem_ptr hm hMb (vl_one he hx hl) hi
      obtain ⟨p', hp', m1, m2, m3, m4, m5, _⟩ := mem_rows hm hMb
      obtain rfl : p = p' := by rw [hp] at hp'; injection hp'
      have hrow : l[i]? = some (l.getD i []) := getD_some hi
      generalize l.getD i [] = row at hrow hj ⊢
      have hrs : row.length = sz' := hrl i row hrow
      have hv2 := vl_rel he hy
      rw [hq] at hv2
      have hrel := RelP_cells hv2
      have hvl : (a.eval y).cells.toList.length = sz := by rw [hrel.1, hqs]
      have hvs : (a.eval y).cells.size = sz := by rw [← Array.length_toList]; exact hvl
      have hle : (i + 1) * sz' ≤ p.cap * sz' := Nat.mul_le_mul_right _ (by omega)
      have hin : i * sz' + j + sz ≤ cs.size := by rw [hs]; rw [Nat.add_mul] at hle; omega
      obtain ⟨vs, hvs'⟩ : ∃ vs, vs = (a.eval y).cells.toList := ⟨_, rfl⟩
      have hone : ∀ v ∈ vs, v.oneCell' = true := by
        intro v hv'
        obtain ⟨k, hk⟩ := List.getElem?_of_mem hv'
        rw [hvs'] at hk
        have hkl : k < q.cells.length := by rw [← hrel.1]; exact getElem?_lt hk
        exact one1_cell (RelA_one (hrel.2 k _ v (List.getElem?_eq_getElem hkl) hk))
      have hst := run_storeCells_at (P := P) g (i * sz' + j) tb vs 0 cs w hh (by rw [hvs', Nat.add_zero, hvl]; exact hin) hone
      rw [Nat.add_zero] at hst
      have hvl' : vs.length = sz := by rw [hvs']; exact hvl
      obtain ⟨cs', hcs'⟩ : ∃ cs' : Array Value, cs' = (cs.toList.take (i * sz' + j) ++ vs ++ cs.toList.drop (i * sz' + j + vs.length)).toArray := ⟨_, rfl⟩
      rw [← hcs'] at hst
      have hget : ∀ k, cs'[k]? = if i * sz' + j ≤ k ∧ k < i * sz' + j + sz then vs[k - (i * sz' + j)]? else cs[k]? := by
        intro k
        rw [hcs', List.getElem?_toArray, List.append_assoc]
        have hl1 : (cs.toList.take (i * sz' + j)).length = i * sz' + j := by rw [List.length_take, Array.length_toList]; omega
        by_cases h1 : k < i * sz' + j
        · rw [List.getElem?_append_left (by rw [hl1]; exact h1), if_neg (by omega), List.getElem?_take, if_pos h1]
          simp
        · rw [List.getElem?_append_right (by rw [hl1]; omega), hl1]
          by_cases h2 : k < i * sz' + j + sz
          · rw [List.getElem?_append_left (by omega), if_pos (by omega)]
          · rw [List.getElem?_append_right (by omega), if_neg (by omega), List.getElem?_drop, hvl']
            have : i * sz' + j + sz + (k - (i * sz' + j) - sz) = k := by omega
            rw [this]
            simp
      have hsz : cs'.size = cs.size := by
        rw [hcs']
        simp only [List.size_toArray, List.length_append, List.length_take, List.length_drop, Array.length_toList, hvl']
        omega
      refine ⟨.skip, σ, w.setRow g cs', ?_, .inr ⟨rfl, rfl⟩, ExtP.refl _, ⟨by simp [hm.len], ?_, ?_, ?_, ?_⟩, Keep.setRow _ _ _ _ ⟨b, _, p, hMb, rfl, hp, hg⟩, fun g' hg' => ?_⟩
      · simp only [execOp, hv]
        refine run_u ?_
        simp only [Instr.storeAt, Instr.sureAddr, Sem.run_bind, Sem.run_pure, Result.andThen_ok, storeVar, run_size hz, Sem.run_ite, hvs]
        simp only [ne_eq, not_true_eq_false, if_false, hst, ← hvs']
      · intro b' y' p' hy' hp'
        rw [List.getElem?_set] at hy'
        by_cases hb : b = b'
        · subst hb
          rw [if_pos rfl, if_pos (getElem?_lt hMb)] at hy'
          injection hy' with hy'
          subst hy'
          obtain rfl : p = p' := by rw [hp] at hp'; injection hp'
          refine ⟨fun hf => by rw [List.length_set]; exact (hm.blk b _ _ hMb hp).1 hf, m1, m2, by simpa using m3, m4, ?_, ?_⟩
          · intro i' r' hr'
            rw [List.getElem?_set] at hr'
            by_cases hii : i = i'
            · subst hii
              rw [if_pos rfl, if_pos hi] at hr'
              injection hr' with hr'
              subst hr'
              rw [fillL_length]
              exact hrs
            · rw [if_neg hii] at hr'
              exact m5 i' r' hr'
          · rw [hg]
            refine ⟨cs', setRow_heap w g cs cs' tb _ hh, by rw [hsz, hs], fun k x hk => ?_, ?_⟩
            · rw [hget] at hk
              split at hk
              · have := hone x (List.mem_of_getElem? hk)
                have hx := List.mem_of_getElem? hk
                rw [hvs'] at hx
                obtain ⟨k', hk'⟩ := List.getElem?_of_mem hx
                have hkl : k' < q.cells.length := by rw [← hrel.1]; exact getElem?_lt hk'
                exact RelA_one (hrel.2 k' _ x (List.getElem?_eq_getElem hkl) hk')
              · exact mem_one hm hMb hp hg hh k x hk
            intro i' r' hr' j' u hu
            have hother : ∀ i'' r'', l[i'']? = some r'' → i'' ≠ i → j' < r''.length → cs'[i'' * sz' + j']? = cs[i'' * sz' + j']? := by
              intro i'' r'' hr'' hne hj'
              have hr2 := m5 i'' r'' hr''
              rw [hget, if_neg]
              rintro ⟨h1, h2⟩
              rcases Nat.lt_or_gt_of_ne hne with hlt | hgt
              · have : (i'' + 1) * sz' ≤ i * sz' := Nat.mul_le_mul_right _ hlt
                rw [Nat.add_mul] at this
                omega
              · have : (i + 1) * sz' ≤ i'' * sz' := Nat.mul_le_mul_right _ hgt
                rw [Nat.add_mul] at this
                omega
            rw [List.getElem?_set] at hr'
            by_cases hii : i = i'
            · subst hii
              rw [if_pos rfl, if_pos hi] at hr'
              injection hr' with hr'
              subst hr'
              rw [fillL_get _ _ _ _ (by omega)] at hu
              rw [hget]
              by_cases h1 : j ≤ j' ∧ j' < j + q.cells.length
              · rw [if_pos h1] at hu
                rw [if_pos (by omega), show i * sz' + j' - (i * sz' + j) = j' - j by omega]
                have hk : j' - j < vs.length := by omega
                exact ⟨vs[j' - j], List.getElem?_eq_getElem hk, hrel.2 (j' - j) u _ hu (by rw [← hvs']; exact List.getElem?_eq_getElem hk)⟩
              · rw [if_neg h1] at hu
                rw [if_neg (by omega)]
                exact hcs i row hrow j' u hu
            · rw [if_neg hii] at hr'
              rw [hother i' r' hr' (fun e => hii e.symm) (getElem?_lt hu)]
              exact hcs i' r' hr' j' u hu
        · rw [if_neg hb] at hy'
          refine RelB_mono (ExtI.refl _) (ExtP.refl _) (fun g' hl' hg' => setRow_other w g g' cs' (fun e => ?_)) (hm.blk b' y' p' hy' hp')
          subst e
          exact hb (hm.inj b b' _ y' p p' g' hMb hy' rfl hl' hp hp' hg hg')
      · intro b1 b2 y1 y2 p1 p2 g' h1 h2 l1 l2 q1 q2 e1 e2
        have back : ∀ {b0 : Nat} {y0 : Blk}, (M.set b (.rows tb sz' ver' (l.set i (fillL row j q.cells)) fb))[b0]? = some y0 → y0.live = true → ∃ z : Blk, M[b0]? = some z ∧ z.live = true := by
          intro b0 y0 h0 l0
          rw [List.getElem?_set] at h0
          by_cases hb : b = b0
          · subst hb; exact ⟨_, hMb, rfl⟩
          · rw [if_neg hb] at h0; exact ⟨_, h0, l0⟩
        obtain ⟨z1, k1, k1'⟩ := back h1 l1
        obtain ⟨z2, k2, k2'⟩ := back h2 l2
        exact hm.inj b1 b2 z1 z2 p1 p2 g' k1 k2 k1' k2' q1 q2 e1 e2
      · intro b0 y0 p0 g0 h0 l0 q0 e0 ad had
        rw [List.getElem?_set] at h0
        by_cases hb : b = b0
        · subst hb; exact hm.ap b _ p0 g0 hMb rfl q0 e0 ad had
        · rw [if_neg hb] at h0; exact hm.ap b0 y0 p0 g0 h0 l0 q0 e0 ad had
      · intro ad v hI
        refine (cell_same (setRow_other w g ad.block cs' (fun e => ?_))).trans (hm.imm ad v hI)
        have := hm.ap b _ p g hMb rfl hp hg ad e
        rw [this] at hI
        cases hI
      · obtain ⟨b0, y0, p0, h0, l0, q0, e0⟩ := hg'
        rw [List.getElem?_set] at h0
        by_cases hb : b = b0
        · subst hb; exact .inl ⟨b, _, p0, hMb, rfl, q0, e0⟩
        · rw [if_neg hb] at h0; exact .inl ⟨b0, y0, p0, h0, l0, q0, e0⟩
    · cases h
  · cases h
end
end Go.Proofs.YtioefecijidgkaaAbs
