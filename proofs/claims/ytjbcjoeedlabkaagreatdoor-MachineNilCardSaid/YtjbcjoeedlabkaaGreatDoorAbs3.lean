/- Own work: an evaluator of closed runs over the model, and why it is right. Part of the proof; holds for any program. -/
import Derived.Test.YtjbcjoeedlabkaaGreatDoorAbs2
set_option linter.unusedVariables false
set_option linter.unusedSimpArgs false
set_option linter.unusedSectionVars false
namespace Go.Abs
set_option linter.unusedVariables false
set_option linter.unusedSimpArgs false
section
variable {rn : AState → Option (AEnd × Heap)} {A : AProg} {P : Program} {L : List (PTree AObj)} {nt : Nat} {ops : Array Oper} {items : List PItem} {bits : List Nat} {an : List (Nat × Nat)} {tm : PTree AVal} {T : List Rec} {s0 t : TSt} {E : Keep} {f f' : Inj} {w w' : World}

/-- a place on the way through a region -/
structure On (A : AProg) (L : List (PTree AObj)) (nt : Nat) (ops : Array Oper) (bits : List Nat) (an : List (Nat × Nat)) (tm : PTree AVal) (T : List Rec) (h0 : Heap) (E : Keep) (b : Frame) (k' : List Item) (S : Nat → Bool) (l : List Nat) (f : Inj) (fr : Frame) (w : World) : Prop where
  frame : fr = { b with tmps := fr.tmps, todo := .inRegion ops l :: k' }
  down : Down bits S
  inT : ∀ i, S i = true → i < T.length
  env : EInv nt tm T S f fr.tmps
  heap : HInv A L an T h0 E f S w
  glob : GRel f

theorem On.finish {b : Frame} {k' : List Item} {i : Nat} {l : List Nat} {fr : Frame} {o : Oper} (hf : fr = { b with tmps := fr.tmps, todo := .inRegion ops (i :: l) :: k' }) (ho : ops[i]? = some o) (v : Value) :
    fr.finish v = { b with tmps := putDst fr.tmps o.dst v, todo := .inRegion ops l :: k' } := by
  have ht : fr.todo = .inRegion ops (i :: l) :: k' := by rw [hf]
  unfold Frame.finish
  rw [ht]
  simp only [ho, Option.bind_some]
  rw [hf]
  rfl

/-- one listed operation is done -/
theorem walk_step (hA : A.Ok P) (hrn : RunSound P L rn) (tr : Tr rn A L nt ops items bits an tm T s0 t) (hres : ∀ x, E.res x → x.toNat < s0.id.toNat) {b : Frame} {k' : List Item} (hb : b.mode = .run) {S : Nat → Bool} {i : Nat} {l : List Nat} {fr : Frame} {cs : List Frame}
    (h : On A L nt ops bits an tm T s0.h E b k' S (i :: l) f fr w) (hn : S i = false) (hr : Ready ops S i) {r : Rec} (hi : T[i]? = some r) :
    ∃ f' fr' w', Steps P (lone fr cs w) (lone fr' cs w') ∧ f.le f' ∧ On A L nt ops bits an tm T s0.h E b k' (addS S i) l f' fr' w' := by
  obtain ⟨hfr, hS, hin, hE, hH, hg⟩ := h
  have hm : fr.mode = .run := by rw [hfr]; exact hb
  have ht : fr.todo = .inRegion ops (i :: l) :: k' := by rw [hfr]
  have ho := tr.op hi
  have hgood := tr.good hi
  have hdown := tr.st.down_add hS hr
  have hin' : ∀ j, addS S i j = true → j < T.length := fun j hj => (addS_true hj).elim (fun e => e ▸ (List.getElem?_eq_some_iff.1 hi).1) (hin j)
  have hwant := hE.wanted tr hS hi hr ((tr_env tr.e0 tr.chain).1 i r hi) hgood.want
  have henv := hE.reads tr hg hS hi hn hr
  have fin : ∀ (f' : Inj) (v' : Value) (w' : World), f.le f' → VRel f' r.v v' → HInv A L an T s0.h E f' (addS S i) w' → Steps P (lone fr cs w) (lone (fr.finish v') cs w') →
      ∃ f' fr' w', Steps P (lone fr cs w) (lone fr' cs w') ∧ f.le f' ∧ On A L nt ops bits an tm T s0.h E b k' (addS S i) l f' fr' w' := by
    intro f' v' w' hle hv hH' hs
    refine ⟨f', fr.finish v', w', hs, hle, ⟨?_, hdown, hin', ?_, hH', hg.mono hle⟩⟩
    · rw [On.finish hfr ho]
    · rw [On.finish hfr ho]
      exact (hE.mono hle).put tr hi hv
  have hkind := tr.kinds r (List.mem_of_getElem? hi)
  cases hw : r.want with
  | false =>
    rw [hw] at hwant
    have hv : r.v = undefA := hgood.skip hw
    have hstep := Steps.one (step_skipped (P := P) (cs := cs) (w := w) hm ht ho hwant)
    by_cases hk : r.it.kind = 2
    · obtain ⟨h1, h2⟩ := hH.before tr hS hi hn hr hk
      refine fin f undef w f.le_refl (by rw [hv]; exact undef_rel) (hH.after tr hS hi hn hr hk f.le_refl h2 ?_) hstep
      rw [(hgood.anchor hk).2.2.1 hw]
      exact h1
    · exact fin f undef w f.le_refl (by rw [hv]; exact undef_rel) (hH.quiet tr hi hn hk (.inr hw)) hstep
  | true =>
    rw [hw] at hwant
    rcases hkind with hk | hk | hk
    · -- it reads
      have hlo := tr.st.lo_le hS hr (tr.hit i r hi)
      have hhi := tr.st.le_hi hS hn (tr.hit i r hi)
      have hq : quiet A L r.pre.e (Abs.hk T s0.h (stage an S)) r.it.o.op = some r.v := by
        have hp := (tr_heap tr.chain).2.2 i r hi
        by_cases hne : r.it.lo = r.it.hi
        · have e1 := (tr_stage tr.st tr.k0 tr.chain tr.hit).1 i r hi
          have l1 := tr.st.lo_le (tr.st.down_upto i) (tr.st.ready_upto i) (tr.hit i r hi)
          have l2 := tr.st.le_hi (tr.st.down_upto i) (show upto i i = false by simp [upto]) (tr.hit i r hi)
          have : stage an S = r.pre.k := by omega
          rw [this]
          have h3 := hp.2.2.1
          rw [tr.k0, Nat.sub_zero] at h3
          rw [← h3]
          exact (hgood.read hk).2.2 hw
        · have hle : stage an S ≤ t.k := by
            rw [(tr_stage tr.st tr.k0 tr.chain tr.hit).2]
            refine List.countP_mono_left ?_
            intro x _ hx
            simpa [upto] using hin _ hx
          have hb2 := hk_back (hs := []) tr.chain (t.k - stage an S) (by rw [tr.k0]; omega)
          rw [tr.k0] at hb2
          have e1 : t.k - 0 - (t.k - stage an S) = stage an S := by omega
          rw [e1] at hb2
          exact tr.seen r (List.mem_of_getElem? hi) hk hw hne _ _ hb2 (by omega) (by omega)
      have hnd : ∀ c, r.it.o.op ≠ .defer c := by
        intro c e
        have := (tr.st.item i r.it (tr.hit i r hi)).2.1
        rw [hk, e] at this
        simp [kindOf] at this
      obtain ⟨v', h1, h2⟩ := quiet_ok (P := P) hA hH.heap henv hq
      exact fin f v' w f.le_refl h2 (hH.quiet tr hi hn (by omega) (.inl (by omega))) (.one (step_value hm ht ho hwant h1 (.inl rfl) (.inr hnd)))
    · obtain ⟨ob, m, g1, g2, g3, g4⟩ := hgood.make hk hw
      have hmk : Makes A T i r ob m := ⟨hi, hk, hw, g1⟩
      obtain ⟨v', w1, h1, h2⟩ := fresh_ok (P := P) (w := w) hA henv g1
      have hids := (tr_ids tr.chain tr.kinds).1 i r hi
      have hnd : ∀ c, r.it.o.op ≠ .defer c := by
        intro c e
        have := (tr.st.item i r.it (tr.hit i r hi)).2.1
        rw [hk, e] at this
        simp [kindOf] at this
      obtain ⟨f', h3, h4, h5⟩ := hH.make tr hS hmk hn (fun hx => by have := hres _ hx; omega) h2
      exact fin f' v' w1 h3 h4 h5 (.one (step_value hm ht ho hwant h1 (.inl rfl) (.inr hnd)))
    · obtain ⟨hsh, hun⟩ := hH.before tr hS hi hn hr hk
      rcases (hgood.anchor hk).2.2.2 hw with hwr | ⟨g, args, a, hwr, hen, hrun⟩
      · have hout := writes_ok (P := P) hA hsh (ρ := fr.eval) (fun _ => rfl) henv
        rw [hwr] at hout
        obtain ⟨f', n, v', w1, h1, h2, h3, h4, h5⟩ := hout
        have hnd : ∀ c, r.it.o.op ≠ .defer c := by
          intro c e
          rw [e] at hwr
          simp only [writes, wDefer] at hwr
          split at hwr
          · split at hwr <;> simp at hwr
          · simp at hwr
        exact fin f' v' w1 h3 h4 (hH.after tr hS hi hn hr hk h3 hun h5) (.one (step_value hm ht ho hwant h1 h2 (.inr hnd)))
      · have hout := writes_ok (P := P) hA hsh (ρ := fr.eval) (fun _ => rfl) henv
        rw [hwr] at hout
        obtain ⟨fn, c, hfn, hc⟩ : ∃ fn c, A.funcs.get (posOf g) = some fn ∧ fn.body = some c := by
          have he := hen
          unfold enterA at he
          split at he
          · rename_i fn hfn
            split at he
            · rename_i c hc; exact ⟨fn, c, hfn, hc⟩
            · simp at he
          · simp at he
        obtain ⟨vargs, h1, h2⟩ := hout fn c hfn hc
        obtain ⟨h3, _⟩ := enterA_ok hA hen h2
        have hnd : ∀ c, r.it.o.op ≠ .defer c := by
          intro c e
          rw [e] at hwr
          simp only [writes, wDefer] at hwr
          split at hwr
          · split at hwr <;> simp at hwr
          · simp at hwr
        obtain ⟨f', fr2, w2, s1, s2, s3, ⟨v', s4, s5⟩, _⟩ := hrn _ _ hrun _ f _ [] (fr :: cs) w ⟨h3, rfl, hsh, hg⟩
        exact fin f' v' w2 s2 s5 (hH.after tr hS hi hn hr hk s2 hun s3) (.head (step_enter hm ht ho hwant h1 (.inr hnd)) (s1.trans (.one (step_leave_returned s4))))
end
end Go.Abs

namespace Go.Abs
set_option linter.unusedVariables false
set_option linter.unusedSimpArgs false
section
variable {rn : AState → Option (AEnd × Heap)} {A : AProg} {P : Program} {L : List (PTree AObj)} {nt : Nat} {ops : Array Oper} {items : List PItem} {bits : List Nat} {an : List (Nat × Nat)} {tm : PTree AVal} {T : List Rec} {s0 t : TSt} {E : Keep} {f f' : Inj} {w w' : World}

theorem walk_done (hA : A.Ok P) (hrn : RunSound P L rn) (tr : Tr rn A L nt ops items bits an tm T s0 t) (hres : ∀ x, E.res x → x.toNat < s0.id.toNat) {b : Frame} {k' : List Item} (hb : b.mode = .run) {cs : List Frame} (hlen : T.length = ops.size) :
    ∀ (l : List Nat) (S : Nat → Bool) (f : Inj) (fr : Frame) (w : World), On A L nt ops bits an tm T s0.h E b k' S l f fr w → Listing ops S l →
      ∃ S' f' fr' w', Steps P (lone fr cs w) (lone fr' cs w') ∧ f.le f' ∧ On A L nt ops bits an tm T s0.h E b k' S' [] f' fr' w' ∧ ∀ i, i < ops.size → S' i = true := by
  intro l
  induction l with
  | nil => intro S f fr w h hl; exact ⟨S, f, fr, w, .refl _ _, f.le_refl, h, hl⟩
  | cons i l ih =>
    intro S f fr w h hl
    obtain ⟨h1, h2, h3, h4⟩ := hl
    obtain ⟨r, hr⟩ : ∃ r, T[i]? = some r := ⟨T[i]'(by omega), List.getElem?_eq_getElem (by omega)⟩
    obtain ⟨f1, fr1, w1, s1, s2, s3⟩ := walk_step (cs := cs) hA hrn tr hres hb h h2 h3 hr
    obtain ⟨S', f2, fr2, w2, s4, s5, s6, s7⟩ := ih _ _ _ _ s3 h4
    exact ⟨S', f2, fr2, w2, s1.trans s4, Inj.le_trans s2 s5, s6, s7⟩

/-- behind all operations -/
theorem On.last (tr : Tr rn A L nt ops items bits an tm T s0 t) {b : Frame} {k' : List Item} {S : Nat → Bool} {fr : Frame} (h : On A L nt ops bits an tm T s0.h E b k' S [] f fr w) (hlen : T.length = ops.size) (hall : ∀ i, i < ops.size → S i = true)
    {msk : Nat} (hst : ∀ t v, tm.get (posOf t) = some v → Nat.testBit msk t = true) : ERel f msk nt t.e fr.tmps ∧ HRel E f (hget L (adoptAll t.pd t.h)) (adoptAll t.pd t.h).next w := by
  have hfe := (tr_env tr.e0 tr.chain).2
  have hk : stage an S = t.k := by
    rw [(tr_stage tr.st tr.k0 tr.chain tr.hit).2]
    refine List.countP_congr ?_
    intro x hx
    obtain ⟨a, ba⟩ := x
    obtain ⟨it, h1, _, _⟩ := (tr.st.an_mem a ba).1 hx
    have hlt := (List.getElem?_eq_some_iff.1 h1).1
    rw [tr.st.len] at hlt
    simp [hall a hlt, upto, hlen, hlt]
  have hh : t.h = Abs.hk T s0.h (stage an S) := by
    have := (tr_heap tr.chain).2.1
    rw [this, tr.k0, Nat.sub_zero, hk]
  constructor
  · refine ⟨?_, h.env.size, ?_⟩
    · intro d v hv
      rcases hfe.2 d v hv with ⟨j, rj, hj, hT, hd, rfl⟩ | ⟨hno, hb⟩
      · exact h.env.vals j rj d (hall j (by omega)) hT hd
      · refine h.env.base d v hb fun j rj hj hT => hno j rj ?_ hT
        exact (List.getElem?_eq_some_iff.1 hT).1
    · intro d v hv
      rw [hfe.1] at hv
      exact hst d v hv
  · rw [adoptAll_next]
    have hpend := (tr_pend tr.st tr.k0 tr.pd0 tr.chain tr.hit).2
    have hdue : ∀ p ∈ t.pd, ∃ j rj ob m q, Makes A T j rj ob m ∧ p = ⟨rj.pre.id, ob, rj.it.hi⟩ ∧ S j = true ∧ stage an S ≤ rj.it.hi ∧ f rj.pre.id = some q := by
      intro p hp
      obtain ⟨j, rj, ob, m, hj, hmk, rfl, hle⟩ := (hpend p).1 hp
      have hSj := hall j (by omega)
      obtain ⟨b', g1, _⟩ := h.heap.pend j rj ob m hmk hSj (by omega)
      obtain ⟨q, _, e1, _⟩ := g1.ex
      exact ⟨j, rj, ob, m, q, hmk, rfl, hSj, by omega, e1⟩
    refine adoptAll_ok (fun p => match f p.id with | some q => q.block | none => 0) (by rw [hh]; exact h.heap.heap) ?_ ?_
    · intro p hp
      obtain ⟨j, rj, ob, m, q, hmk, rfl, hSj, hhi, hq⟩ := hdue p hp
      obtain ⟨g1, g2⟩ := h.heap.block hmk hSj hhi hq
      simp only [hq]
      refine ⟨g1, ?_, by rw [hh]; exact g2⟩
      have := h.heap.heap.fresh _ _ hq
      rw [hh]; exact this
    · refine List.Pairwise.imp_of_mem ?_ (tr_pd_apart tr).2
      intro p p' hp hp' hne
      obtain ⟨j, rj, ob, m, q, hmk, rfl, hSj, hhi, hq⟩ := hdue p hp
      obtain ⟨j', rj', ob', m', q', hmk', rfl, hSj', hhi', hq'⟩ := hdue p' hp'
      simp only [hq, hq']
      refine h.heap.apart j j' rj rj' ob ob' m m' q q' ?_ hmk hmk' hSj hSj' hhi hhi' hq hq'
      rintro rfl
      have := hmk.same hmk'.1
      subst this
      exact hne rfl
end
end Go.Abs

namespace Go.Abs
set_option linter.unusedVariables false
set_option linter.unusedSimpArgs false
section
variable {rn : AState → Option (AEnd × Heap)} {A : AProg} {P : Program} {L : List (PTree AObj)} {nt : Nat} {ops : Array Oper} {items : List PItem} {bits : List Nat} {an : List (Nat × Nat)} {tm : PTree AVal} {T : List Rec} {s0 t : TSt} {E : Keep} {f f' : Inj} {w w' : World}


/-- a place of a trace: at an operation, or at its end -/
structure At (A : AProg) (L : List (PTree AObj)) (an : List (Nat × Nat)) (tm : PTree AVal) (items : List PItem) (T : List Rec) (s0 : TSt) (i : Nat) (it : PItem) (s : TSt) : Prop where
  item : items[i]? = some it
  le : i ≤ T.length
  env : FromTr T tm i s.e
  k : s.k = stage an (upto i)
  h : s.h = Abs.hk T s0.h s.k
  pd : ∀ p, p ∈ s.pd ↔ ∃ j rj ob m, j < i ∧ Makes A T j rj ob m ∧ p = ⟨rj.pre.id, ob, rj.it.hi⟩ ∧ s.k ≤ rj.it.hi
  apart : s.pd.Pairwise fun p q => p.id ≠ q.id

theorem At.of_end (tr : Tr rn A L nt ops items bits an tm T s0 t) {it : PItem} (hi : items[T.length]? = some it) : At A L an tm items T s0 T.length it t :=
  ⟨hi, Nat.le_refl _, (tr_env tr.e0 tr.chain).2, (tr_stage tr.st tr.k0 tr.chain tr.hit).2, by have := (tr_heap tr.chain).2.1; rw [this, tr.k0, Nat.sub_zero], (tr_pend tr.st tr.k0 tr.pd0 tr.chain tr.hit).2, (tr_pd_apart tr).2⟩

theorem EInv.reads_at (tr : Tr rn A L nt ops items bits an tm T s0 t) {S : Nat → Bool} {fr : Frame} (h : EInv nt tm T S f fr.tmps) (hg : GRel f) (hS : Down bits S) {i : Nat} {it : PItem} {s : TSt} (at_ : At A L an tm items T s0 i it s) (hn : S i = false) (hr : Ready ops S i) :
    OpEnv f s.e fr.eval it.o.op.operands.toList := by
  intro x hx v hv
  cases x with
  | tmp d =>
    have hv' : s.e.get d = some v := hv
    obtain ⟨v', h1, h2⟩ : ∃ v', fr.tmps[d]? = some v' ∧ VRel f v v' := by
      rcases at_.env.2 d v hv' with ⟨j, rj, hj, hT, hd, rfl⟩ | ⟨hno, hb⟩
      · have hbit : Bit bits i j := by
          rcases (tr.st.pair j i _ _ hj (tr.hit j rj hT) at_.item).2 with h | h
          · exact h
          · rw [hd, reads_in hx] at h; simp at h
        exact h.vals j rj d (tr.st.ready hS hr j hbit) hT hd
      · refine h.base d v hb ?_
        intro j rj hj hT hd
        rcases Nat.lt_trichotomy j i with hlt | rfl | hlt
        · exact hno j rj hlt hT hd
        · rw [hn] at hj; simp at hj
        · have hbit : Bit bits j i := by
            rcases (tr.st.pair i j _ _ hlt at_.item (tr.hit j rj hT)).2 with h | h
            · exact h
            · rw [hd, reads_in hx] at h; simp at h
          have := hS j i hj hbit
          rw [hn] at this; simp at this
    simp only [Frame.eval, Array.getD_eq_getD_getElem?, h1]
    exact h2
  | const c => exact ofValue_rel c v hv
  | global g =>
    simp only [aeval, cond_eq] at hv
    split at hv
    · rename_i hlt
      have hlt : g < 32 := Nat.lt_of_succ_le (Nat.le_of_ble_eq_true hlt)
      simp at hv; subst hv
      obtain ⟨p, h1, h2, h3⟩ := hg g hlt
      refine ⟨p, h1, ?_⟩
      simp [Frame.eval, h2, h3]
    · simp at hv
  | func g => simp [aeval] at hv; subst hv; exact ⟨#[], #[], rfl, rfl, rfl⟩

theorem EInv.wanted_at (tr : Tr rn A L nt ops items bits an tm T s0 t) {S : Nat → Bool} {tmps : Array Value} (h : EInv nt tm T S f tmps) (hS : Down bits S) {i : Nat} {it : PItem} {s : TSt} (at_ : At A L an tm items T s0 i it s) (hr : Ready ops S i) {e : Env} {b : Bool}
    (he : FromTr T tm i e) (hw : awanted it.o.guard ops e = some b) : Region.wanted it.o (yielded ops tmps) = b := by
  unfold awanted at hw
  unfold Region.wanted
  split at hw
  · rename_i hg; simp at hw; subst hw; rw [hg]
  · rename_i j want hg
    rw [hg]
    simp only
    have hbit := tr.st.guard i it j want at_.item hg
    have hji := tr.st.lt i j hbit
    have hlen : i ≤ T.length := at_.le
    obtain ⟨rj, hj⟩ : ∃ rj, T[j]? = some rj := ⟨T[j]'(by omega), List.getElem?_eq_getElem (by omega)⟩
    have hn := tr.op hj
    have key : ∀ o' d x, nth j ops.toList = some o' → o'.dst = some d → e.get d = some x → rj.it.o.dst = some d ∧ ∃ v', tmps[d]? = some v' ∧ VRel f x v' := by
      intro o' d x ho' hd hx
      rw [nth_eq, Array.getElem?_toList, hn] at ho'
      cases ho'
      refine ⟨hd, ?_⟩
      rcases he.2 d x hx with ⟨j', rj', hlt, hT, hd', rfl⟩ | ⟨hno, _⟩
      · by_cases hjj : j = j'
        · subst hjj
          rw [hj] at hT; cases hT
          exact h.vals j rj d (tr.st.ready hS hr j hbit) hj hd
        · exact absurd hd' (tr.dst_ne hj hT hjj hd)
      · exact absurd hd (hno j rj hji hj)
    split at hw
    · rename_i b' hy
      simp at hw; subst hw
      unfold ayielded at hy
      split at hy
      · rename_i o' ho'
        split at hy
        · rename_i d hd
          split at hy
          · rename_i x hx
            simp at hy; subst hy
            obtain ⟨hdj, v', h1, h2⟩ := key o' d _ ho' hd hx
            rw [VRel] at h2; subst h2
            simp only [yielded, hn, Option.bind_some, hdj, h1]
            cases x <;> cases want <;> rfl
          · simp at hy
          · simp at hy
        · simp at hy
      · simp at hy
    · rename_i hy
      simp at hw; subst hw
      unfold ayielded at hy
      split at hy
      · rename_i o' ho'
        split at hy
        · rename_i d hd
          split at hy
          · simp at hy
          · rename_i hx
            obtain ⟨hdj, v', h1, a, rfl, h2⟩ := key o' d _ ho' hd hx
            simp only [yielded, hn, Option.bind_some, hdj, h1]
            rfl
          · simp at hy
        · simp at hy
      · simp at hy
    · simp at hw
theorem At.now {i : Nat} {it : PItem} {s : TSt} (at_ : At A L an tm items T s0 i it s) (tr : Tr rn A L nt ops items bits an tm T s0 t) {S : Nat → Bool} (hS : Down bits S) (hn : S i = false) (hr : Ready ops S i) (hk : it.kind = 2) :
    s.k = stage an S ∧ ∃ b, an[stage an S]? = some (i, b) := by
  obtain ⟨b, hb⟩ := tr.st.next hS hr hn at_.item hk
  obtain ⟨b', hb'⟩ := tr.st.next (tr.st.down_upto i) (tr.st.ready_upto i) (by simp [upto]) at_.item hk
  refine ⟨?_, b, hb⟩
  rw [at_.k]
  rcases Nat.lt_trichotomy (stage an (upto i)) (stage an S) with h | h | h
  · have := tr.st.lt _ _ (tr.st.chain h hb' hb); simp only at this; omega
  · exact h
  · have := tr.st.lt _ _ (tr.st.chain h hb hb'); simp only at this; omega

theorem HInv.before_at (tr : Tr rn A L nt ops items bits an tm T s0 t) {S : Nat → Bool} (h : HInv A L an T s0.h E f S w) (hS : Down bits S) {i : Nat} {it : PItem} {s : TSt} (at_ : At A L an tm items T s0 i it s) (hn : S i = false) (hr : Ready ops S i) (hk : it.kind = 2) :
    HRel (shield E w (waitB A T f S (stage an S + 1)) (freeR A T S)) f (hget L (adopt s.k s.pd s.h)) (adopt s.k s.pd s.h).next w ∧ HRel E f (hget L (adopt s.k s.pd s.h)) (adopt s.k s.pd s.h).next w := by
  obtain ⟨hnow, b, hb⟩ := at_.now tr hS hn hr hk
  have hh : s.h = Abs.hk T s0.h (stage an S) := by
    rw [at_.h, hnow]
  have hpend := at_.pd
  -- who is to be seen from now on
  have hdue : ∀ p ∈ s.pd, p.hi = s.k → ∃ j rj ob m q, Makes A T j rj ob m ∧ p = ⟨rj.pre.id, ob, rj.it.hi⟩ ∧ S j = true ∧ rj.it.hi = stage an S ∧ f rj.pre.id = some q := by
    intro p hp hpk
    obtain ⟨j, rj, ob, m, hj, hmk, rfl, hle⟩ := (hpend p).1 hp
    simp only at hpk
    have hSj := tr.st.ready hS hr j (tr.st.due (tr.hit j rj hmk.1) (by rw [← hnow, hpk]; exact Nat.le_refl _) hb)
    obtain ⟨b', g1, _⟩ := h.pend j rj ob m hmk hSj (by rw [← hnow, hpk]; exact Nat.le_refl _)
    obtain ⟨q, _, e1, _⟩ := g1.ex
    exact ⟨j, rj, ob, m, q, hmk, rfl, hSj, by rw [hpk, hnow], e1⟩
  have hH1 : HRel E f (hget L (adopt s.k s.pd s.h)) (adopt s.k s.pd s.h).next w := by
    rw [adopt_next]
    refine adopt_ok (fun p => match f p.id with | some q => q.block | none => 0) (by rw [hh]; exact h.heap) ?_ ?_
    · intro p hp hpk
      obtain ⟨j, rj, ob, m, q, hmk, rfl, hSj, hhi, hq⟩ := hdue p hp hpk
      obtain ⟨g1, g2⟩ := h.block hmk hSj (by omega) hq
      simp only [hq]
      refine ⟨g1, ?_, by rw [hh]; exact g2⟩
      have := h.heap.fresh _ _ hq
      rw [hh]; exact this
    · refine List.Pairwise.imp_of_mem ?_ at_.apart
      intro p p' hp hp' hne e1 e2
      obtain ⟨j, rj, ob, m, q, hmk, rfl, hSj, hhi, hq⟩ := hdue p hp e1
      obtain ⟨j', rj', ob', m', q', hmk', rfl, hSj', hhi', hq'⟩ := hdue p' hp' e2
      simp only [hq, hq']
      refine h.apart j j' rj rj' ob ob' m m' q q' ?_ hmk hmk' hSj hSj' (by omega) (by omega) hq hq'
      rintro rfl
      have := hmk.same hmk'.1
      subst this
      exact hne rfl
  refine ⟨hH1.shield ?_ ?_, hH1⟩
  · rintro b' ⟨j, rj, ob, m, p, hmk, hSj, hhi, hp, rfl⟩
    obtain ⟨g1, g2⟩ := h.block hmk hSj (by omega) hp
    refine ⟨?_, ?_⟩
    · obtain ⟨q, ob', e1, e2, e3, _⟩ := g1.ex
      exact (Array.getElem?_eq_some_iff.1 e3).1
    · intro x o q hg hl hq
      rcases adopt_get hg with ⟨p', hp', hpk, rfl, rfl⟩ | hg
      · obtain ⟨j', rj', ob', m', q', hmk', rfl, hSj', hhi', hq'⟩ := hdue p' hp' hpk
        simp only at hq
        rw [hq'] at hq; cases hq
        refine h.apart j' j rj' rj ob' ob m' m _ _ ?_ hmk' hmk hSj' hSj (by omega) (by omega) hq' hp
        rintro rfl
        have := hmk.same hmk'.1
        subst this
        omega
      · rw [hh] at hg
        exact g2 x o q hg hl hq
  · rintro x ⟨j, rj, ob, m, hmk, hSj, rfl⟩
    rw [adopt_next, hh]
    exact h.free j rj ob m hmk hSj

end
end Go.Abs

namespace Go.Abs
set_option linter.unusedVariables false
set_option linter.unusedSimpArgs false
section
variable {rn : AState → Option (AEnd × Heap)} {A : AProg} {P : Program} {L : List (PTree AObj)} {nt : Nat} {ops : Array Oper} {items : List PItem} {bits : List Nat} {an : List (Nat × Nat)} {tm : PTree AVal} {T : List Rec} {s0 t : TSt} {E : Keep} {f f' : Inj} {w w' : World}

/-- ahead of all operations -/
theorem On.start (tr : Tr rn A L nt ops items bits an tm T s0 t) {h : Heap} {cnt : Nat} (hh : s0.h = ⟨h.top, incs cnt h.next⟩) (hid : s0.id = h.next) (hcnt : countFresh (T.map (·.it)) ≤ cnt) {fr : Frame} {l : List Nat} {k' : List Item}
    (ht : fr.todo = .inRegion ops l :: k') {msk : Nat} (hE : ERel f msk nt ⟨[], tm⟩ fr.tmps) (hg : GRel f) (hH : HRel E f (hget L h) h.next w) :
    On A L nt ops bits an tm T s0.h E fr k' (fun _ => false) l f fr w := by
  have hst : stage an (fun _ => false) = 0 := by
    unfold stage; rw [List.countP_eq_zero]; intro x _; simp
  have hget0 : hget L s0.h = hget L h := by rw [hh]; funext i; rfl
  have hnext : s0.h.next.toNat = h.next.toNat + cnt := by rw [hh]; exact incs_toNat cnt h.next
  refine ⟨?_, fun j i hj => by simp at hj, fun i hi => by simp at hi, ⟨fun i r d hi => by simp at hi, ?_, hE.nt⟩, ⟨?_, ?_, fun i r ob m _ hi => by simp at hi, fun i i' r r' ob ob' m m' p p' _ _ _ hi => by simp at hi⟩, hg⟩
  · rw [← ht]
  · intro d v hv _
    exact hE.get d v (by simpa [Env.get, rget] using hv)
  · rw [hst, hk_zero, hget0]
    exact hH.less (fun _ _ h _ => h) (by omega)
  · intro i r ob m hmk _
    rw [hst, hk_zero]
    have := (tr_ids tr.chain tr.kinds).1 i r hmk.1
    have h2 := this.2 hmk.2.1 hmk.2.2.1
    rw [hid] at this h2
    exact ⟨hH.next_none this.1, by omega⟩

/-- an anchor panics, after the operations ahead of it -/
theorem walk_pan (hA : A.Ok P) (hrn : RunSound P L rn) (tr : Tr rn A L nt ops items bits an tm T s0 t) (hres : ∀ x, E.res x → x.toNat < s0.id.toNat) {b : Frame} {k' : List Item} (hb : b.mode = .run) {cs : List Frame} {it : PItem} {c : List (AVal × Bool)} {h2 : Heap}
    (hit : items[T.length]? = some it) (hk : it.kind = 2) (hw : awanted it.o.guard ops t.e = some true) (hp : AnchorPans rn A L t.e (adopt t.k t.pd t.h) it.o.op c h2) (hlater : ∀ (j : Nat) (x : PItem), T.length < j → items[j]? = some x → t.k + 1 ≤ x.lo) :
    ∀ (l : List Nat) (S : Nat → Bool) (f : Inj) (fr : Frame) (w : World), On A L nt ops bits an tm T s0.h E b k' S l f fr w → Listing ops S l →
      ∃ (S' : Nat → Bool) (f' : Inj) (fr' : Frame) (w' : World) (fr'' : Frame) (l' : List Nat) (c' : List PanicEntry), Steps P (lone fr cs w) (lone fr' cs w') ∧ f.le f' ∧ EInv nt tm T S' f' fr''.tmps ∧ Down bits S' ∧ fr'' = { b with tmps := fr''.tmps, todo := .inRegion ops l' :: k' } ∧ fr' = fr''.raise c' ∧ ChRel f' c c' ∧ HRel E f' (hget L h2) h2.next w' := by
  have hat := At.of_end tr hit
  have hlt : T.length < ops.size := by rw [← tr.st.len]; exact (List.getElem?_eq_some_iff.1 hit).1
  intro l
  induction l with
  | nil =>
    intro S f fr w h hl
    have := h.inT _ (hl T.length hlt)
    omega
  | cons i l ih =>
    intro S f fr w h hl
    obtain ⟨h1, h2', h3, h4⟩ := hl
    rcases Nat.lt_trichotomy i T.length with hlt' | rfl | hgt
    · obtain ⟨r, hr⟩ : ∃ r, T[i]? = some r := ⟨T[i], List.getElem?_eq_getElem hlt'⟩
      obtain ⟨f1, fr1, w1, s1, s2, s3⟩ := walk_step (cs := cs) hA hrn tr hres hb h h2' h3 hr
      obtain ⟨S', f2, fr2, w2, fr3, l', c', s4, s5, s6⟩ := ih _ _ _ _ s3 h4
      exact ⟨S', f2, fr2, w2, fr3, l', c', s1.trans s4, Inj.le_trans s2 s5, s6⟩
    · obtain ⟨hfr, hS, hin, hE, hH, hg⟩ := h
      have hm : fr.mode = .run := by rw [hfr]; exact hb
      have ht : fr.todo = .inRegion ops (T.length :: l) :: k' := by rw [hfr]
      have ho := (tr.st.item _ it hit).1
      have hwant := hE.wanted_at tr hS hat h3 hat.env hw
      have henv := hE.reads_at tr hg hS hat h2' h3
      obtain ⟨hsh, hun⟩ := hH.before_at tr hS hat h2' h3 hk
      have hout := writes_ok (P := P) hA hsh (ρ := fr.eval) (fun _ => rfl) henv
      rcases hp with ⟨v, hwr, rfl, rfl⟩ | ⟨g, args, a, hwr, hen, hrun⟩
      · rw [hwr] at hout
        obtain ⟨v', g1, g2⟩ := hout
        have hnd : ∀ c, it.o.op ≠ .defer c := by
          intro c e
          rw [e] at hwr
          simp only [writes, wDefer] at hwr
          split at hwr
          · split at hwr <;> simp at hwr
          · simp at hwr
        exact ⟨S, f, _, w, fr, T.length :: l, _, .one (step_panic hm ht ho hwant g1 (.inr hnd)), f.le_refl, hE, hS, hfr, rfl, ⟨v', [], rfl, g2, rfl⟩, hun⟩
      · rw [hwr] at hout
        obtain ⟨fn, cc, hfn, hc⟩ : ∃ fn c, A.funcs.get (posOf g) = some fn ∧ fn.body = some c := by
          have he := hen
          unfold enterA at he
          split at he
          · rename_i fn hfn
            split at he
            · rename_i c hc; exact ⟨fn, c, hfn, hc⟩
            · simp at he
          · simp at he
        obtain ⟨vargs, g1, g2⟩ := hout fn cc hfn hc
        obtain ⟨g3, _⟩ := enterA_ok hA hen g2
        have hnd : ∀ c, it.o.op ≠ .defer c := by
          intro c e
          rw [e] at hwr
          simp only [writes, wDefer] at hwr
          split at hwr
          · split at hwr <;> simp at hwr
          · simp at hwr
        obtain ⟨f', fr2, w2, s1, s2, s3, ⟨c', s4, s5⟩, _⟩ := hrn _ _ hrun _ f _ [] (fr :: cs) w ⟨g3, rfl, hsh, hg⟩
        exact ⟨S, f', _, w2, fr, T.length :: l, c', .head (step_enter hm ht ho hwant g1 (.inr hnd)) (s1.trans (.one (step_leave_panicked s4))), s2, hE.mono s2, hS, hfr, rfl, s5, hun.unshield s3⟩
    · exfalso
      obtain ⟨x, hx⟩ : ∃ x, items[i]? = some x := ⟨items[i]'(by rw [tr.st.len]; exact h1), List.getElem?_eq_getElem _⟩
      have a1 := hlater i x hgt hx
      have a2 := tr.st.lo_le h.down h3 hx
      have a3 : stage an S ≤ t.k := by
        rw [(tr_stage tr.st tr.k0 tr.chain tr.hit).2]
        refine List.countP_mono_left ?_
        intro y _ hy
        simpa [upto] using h.inT _ hy
      omega

theorem delTmp_get : ∀ (p q : Pos) (t : PTree AVal) (v : AVal), (delTmp p t).get q = some v → p ≠ q ∧ t.get q = some v := by
  intro p
  induction p with
  | H => intro q t v h; cases t with
    | leaf => rw [show delTmp .H .leaf = .leaf from rfl, leaf_get] at h; simp at h
    | node l x r => cases q with
      | H => simp [delTmp, PTree.get] at h
      | O q => exact ⟨by simp, h⟩
      | I q => exact ⟨by simp, h⟩
  | O p ih => intro q t v h; cases t with
    | leaf => rw [show delTmp (.O p) .leaf = .leaf from rfl, leaf_get] at h; simp at h
    | node l x r => cases q with
      | H => exact ⟨by simp, h⟩
      | O q => have := ih q l v h; exact ⟨by simp [this.1], this.2⟩
      | I q => exact ⟨by simp, h⟩
  | I p ih => intro q t v h; cases t with
    | leaf => rw [show delTmp (.I p) .leaf = .leaf from rfl, leaf_get] at h; simp at h
    | node l x r => cases q with
      | H => exact ⟨by simp, h⟩
      | O q => exact ⟨by simp, h⟩
      | I q => have := ih q r v h; exact ⟨by simp [this.1], this.2⟩
theorem delDsts_get {t : Nat} {v : AVal} {tm : PTree AVal} : ∀ {l : List Oper}, (delDsts l tm).get (posOf t) = some v → tm.get (posOf t) = some v ∧ ∀ o ∈ l, o.dst ≠ some t := by
  intro l
  induction l with
  | nil => intro h; exact ⟨h, by simp⟩
  | cons o l ih =>
    intro h
    simp only [delDsts] at h
    split at h
    · rename_i d hd
      obtain ⟨h1, h2⟩ := delTmp_get _ _ _ _ h
      obtain ⟨h3, h4⟩ := ih h2
      refine ⟨h3, ?_⟩
      intro o' ho'
      rcases List.mem_cons.1 ho' with rfl | ho'
      · rw [hd]; rintro e; cases e; exact h1 rfl
      · exact h4 o' ho'
    · rename_i hd
      obtain ⟨h3, h4⟩ := ih h
      refine ⟨h3, ?_⟩
      intro o' ho'
      rcases List.mem_cons.1 ho' with rfl | ho'
      · rw [hd]; simp
      · exact h4 o' ho'

theorem draw_sound (hA : A.Ok P) (hrn : RunSound P L rn) : DrawSound A P L rn := by
  intro nt ops tm h out hd E f fi k ds fr cs w tt k' hnt hF ht hg hH
  subst hnt
  unfold drawRun at hd
  split at hd
  · rename_i items hplan
    obtain ⟨bits, an, st⟩ := plan_ok hplan
    obtain ⟨top, n⟩ := h
    simp only at hd
    have hkinds : ∀ x ∈ items, x.kind = 0 ∨ x.kind = 1 ∨ x.kind = 2 := by
      intro x hx
      obtain ⟨j, hj⟩ := List.getElem?_of_mem hx
      have := (st.item j x hj).2.1
      rw [this]; unfold kindOf
      repeat' split
      all_goals simp
    have told := dgo_told items _ out hd hkinds rfl
    have hmode : fr.mode = .run := hF.mode
    have hres : ∀ x, E.res x → x.toNat < n.toNat := fun x hx => (hH.res x hx).2
    have hls := listing_ok st tt
    cases told with
    | done T t hT hc hseen _ =>
      have hlen : T.length = ops.size := by rw [← st.len, ← hT]; simp
      have tr : Tr rn A L fi.nt ops items bits an tm T ⟨0, ⟨[], tm⟩, ⟨top, incs (countFresh items) n⟩, [], n⟩ t :=
        ⟨st, hc, rfl, rfl, rfl, fun i r hi => by rw [← hT, List.getElem?_map, hi]; rfl, hseen⟩
      have hstart := On.start (h := ⟨top, n⟩) (cnt := countFresh items) tr rfl rfl (by rw [hT]; exact Nat.le_refl _) ht (msk := fi.msk) hF.env hg hH
      obtain ⟨S', f1, fr1, w1, s1, s2, s3, s4⟩ := walk_done (cs := cs) hA hrn tr hres hmode hlen _ _ _ _ _ hstart hls
      obtain ⟨e1, e2⟩ := s3.last tr hlen s4 hF.env.stay
      have hf1 := s3.frame
      refine ⟨f1, { fr with tmps := fr1.tmps, todo := k' }, w1, s1.trans (.one (step_lone_go ?_)), s2, ⟨hF.fn, e1, hF.todo.imp (TRel.mono s2) id, hF.defers.mono s2, rfl.trans (by rw [hmode]), hF.kind, hF.rnd.mono s2, hF.rndk, hF.fnok⟩, e2⟩
      rw [hf1]
      simp [stepG, hmode, stepG.exec]
    | pan T t l1 l2 it c h2 g1 g2 g3 g4 g5 g6 g7 g8 g9 =>
      have tr : Tr rn A L fi.nt ops items bits an tm T ⟨0, ⟨[], tm⟩, ⟨top, incs (countFresh items) n⟩, [], n⟩ t :=
        ⟨st, g3, rfl, rfl, rfl, fun i r hi => by
          rw [g1, List.getElem?_append_left (by rw [← g2]; simpa using (List.getElem?_eq_some_iff.1 hi).1), ← g2, List.getElem?_map, hi]; rfl, g8⟩
      have hTl : T.length = l1.length := by rw [← g2]; simp
      have hcf : ∀ a b : List PItem, countFresh a ≤ countFresh (a ++ b) := by
        intro a b
        induction a with
        | nil => exact Nat.zero_le _
        | cons x a ih => simp only [countFresh, List.cons_append, cond_eq]; split <;> omega
      have hstart := On.start (h := ⟨top, n⟩) (cnt := countFresh items) tr rfl rfl (by rw [g2, g1]; exact hcf _ _) ht (msk := fi.msk) hF.env hg hH
      obtain ⟨S', f1, fr1, w1, fr2, l', c', s1, s2, s3, s4, s5, s6, s7, s8⟩ := walk_pan (cs := cs) hA hrn tr hres hmode (it := it) (c := c) (h2 := h2) (by rw [g1, hTl]; simp) g4 g5 g6 (by
        intro j x hj hx
        refine g7 x ?_
        rw [g1, List.getElem?_append_right (by omega)] at hx
        have : j - l1.length = (j - l1.length - 1) + 1 := by omega
        rw [this, List.getElem?_cons_succ] at hx
        exact List.mem_of_getElem? hx) _ _ _ _ _ hstart hls
      have hfr2 : FrRel P f1 ⟨fi, ⟨[], delDsts ops.toList tm⟩, [.lost], ds, .run⟩ fr2 := by
        rw [s5]
        refine ⟨hF.fn, ⟨?_, s3.size, ?_⟩, .inr ⟨rfl, ?_⟩, hF.defers.mono s2, hmode, hF.kind, hF.rnd.mono s2, hF.rndk, hF.fnok⟩
        · intro d v hv
          have hv' : (delDsts ops.toList tm).get (posOf d) = some v := by simpa [Env.get, rget] using hv
          obtain ⟨h1, h2⟩ := delDsts_get hv'
          exact s3.base d v h1 fun i r _ hT => h2 _ (List.mem_of_getElem? (by rw [Array.getElem?_toList]; exact tr.op hT))
        · intro d v hv
          exact hF.env.stay d v (delDsts_get hv).1
        · intro d wr r s k e
          simp at e
      exact ⟨f1, fr1, w1, s1, s2, by rw [s6]; exact raise_ok hfr2 s7, s8⟩
  · simp at hd
end
end Go.Abs

namespace Go.Abs
/-- the evaluator is right about whole runs -/
theorem run_sound {A : AProg} {P : Program} (hA : A.Ok P) (n : Nat) (L : List (PTree AObj)) : RunSound P L (run n A L) := run_ok hA (fun _ _ h => draw_sound hA h) n L
end Go.Abs


namespace Go.Abs

/-- a call without arguments, by a run of the evaluator -/
theorem calls_of_run {A : AProg} {P : Program} (hA : A.Ok P) {g : FuncId} {a : AFrame} {n : Nat} {L : List (PTree AObj)} {nx : Pos} {v : AVal} {h' : Heap} (hen : enterA A g [] false = some a) (hrun : run n A L ⟨a, [], ⟨.leaf, nx⟩⟩ = some (.ret v, h'))
    {E : Keep} {f : Inj} {w : World} (hH : HRel E f (lowGet L) nx w) (hg : GRel f) : Calls P g #[] w fun e w' => ∃ f' v', e = .returned v' ∧ VRel f' v v' ∧ f.le f' ∧ HRel E f' (hget L h') h'.next w' := by
  intro cs
  obtain ⟨hfe, _⟩ := enterA_ok hA hen (vargs := #[]) (f := f) rfl
  have hget0 : hget L ⟨.leaf, nx⟩ = lowGet L := by funext i; simp only [hget, leaf_get]
  obtain ⟨f', fr', w', s1, s2, s3, ⟨v', s4, s5⟩, s6⟩ := run_sound hA n L _ _ hrun E f _ [] cs w ⟨hfe, rfl, by rw [hget0]; exact hH, hg⟩
  have hfi : a.fi.fn = g := by
    unfold enterA at hen
    split at hen
    · split at hen
      · rw [cond_eq] at hen
        split at hen
        · simp at hen; subst hen; rfl
        · simp at hen
      · simp at hen
    · simp at hen
  exact ⟨.returned v', w', fr', ⟨f', v', rfl, s5, s2, s3⟩, s1, by rw [s6]; exact hfi, s4⟩
end Go.Abs

namespace Go.Abs
/-! ## a run in parts -/
/-- one step of a run; what is run apart within it is done whole -/
def advance (n : Nat) (A : AProg) (L : List (PTree AObj)) (s : AState) : Option AState :=
  match over? A L s with
  | some _ => none
  | none => match astep A L s with
    | .fail => none
    | .next s' => some s'
    | .ways _ => none
    | .call f args s' => match s', enterA A f args false with
      | ⟨fr, cs, ⟨t, nx⟩⟩, some g => match run n A (t :: L) ⟨g, [], ⟨.leaf, nx⟩⟩ with
        | some (.ret v, ⟨t', nx'⟩) => (match finishA fr v with | some fr' => some ⟨fr', cs, ⟨t'.union t, nx'⟩⟩ | none => none)
        | some (.pan c, ⟨t', nx'⟩) => some ⟨raiseA fr c, cs, ⟨t'.union t, nx'⟩⟩
        | none => none
      | _, none => none
    | .draw _ ops k s' => match s' with
      | ⟨⟨fi, e, _, ds, m⟩, cs, h⟩ => match drawRun (run n A L) A L fi.nt ops (flush fi.msk e.rc e.tm) h with
        | some (.done e' h') => some ⟨⟨fi, e', k, ds, m⟩, cs, h'⟩
        | some (.pan c h') => some ⟨raiseA ⟨fi, ⟨[], delDsts ops.toList (flush fi.msk e.rc e.tm)⟩, [.lost], ds, m⟩ c, cs, h'⟩
        | none => none
def runTo : Nat → Nat → AProg → List (PTree AObj) → AState → Option AState
  | 0, _, _, _, s => some s
  | k + 1, n, A, L, s => match advance n A L s with
    | some s' => runTo k n A L s'
    | none => none
/-- some blocks alone -/
def keepIn (t : PTree AObj) : List Nat → PTree AObj
  | [] => .leaf
  | k :: ks => match t.get (posOf k) with
    | some o => (keepIn t ks).put (posOf k) o
    | none => keepIn t ks
def noneOf (t : PTree AObj) : List Nat → Bool
  | [] => true
  | k :: ks => match t.get (posOf k) with
    | some _ => false
    | none => noneOf t ks
/-- a state with fewer blocks; those of the low layer (gs) may not have been written -/
def trimA (gs ks : List Nat) (s : AState) : Option AState :=
  match s with
  | ⟨fr, cs, ⟨t, nx⟩⟩ => bif noneOf t gs then some ⟨fr, cs, ⟨keepIn t ks, nx⟩⟩ else none
def part (k n : Nat) (gs ks : List Nat) (A : AProg) (L : List (PTree AObj)) (s : AState) : Option AState :=
  match runTo k n A L s with
  | some s' => trimA gs ks s'
  | none => none
/-! ## states, told -/
def heapOf : List (Nat × AObj) → PTree AObj
  | [] => .leaf
  | x :: l => (heapOf l).put (posOf x.1) x.2
def tmpsOf : List (Nat × AVal) → PTree AVal
  | [] => .leaf
  | x :: l => (tmpsOf l).put (posOf x.1) x.2
/-- a piece of code by its place: 0, 1, .. : which part -/
def codeAt : List Nat → Code → Code
  | [], c => c
  | i :: p, c => match c with
    | .seq a b => codeAt p (bif Nat.beq i 0 then a else b)
    | .cond _ a b => codeAt p (bif Nat.beq i 0 then a else b)
    | .block _ b => codeAt p b
    | .loop b => codeAt p b
    | .scope b => codeAt p b
    | .rangeFunc _ _ a b => codeAt p (bif Nat.beq i 0 then a else b)
    | c => c
def opsAt (p : List Nat) (c : Code) : Array Oper := match codeAt p c with | .region _ ops _ => ops | _ => #[]
def bodyOf (A : AProg) (f : FuncId) : Code := match A.funcs.get (posOf f) with | some fn => (match fn.body with | some c => c | none => .skip) | none => .skip
end Go.Abs

