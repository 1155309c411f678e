/- Own work: an evaluator of closed runs over the model, and why it is right. Part of the proof; holds for any program. -/
import Derived.Calls
import Derived.Orders
import Derived.Test.YtjbcjoeedlabkaaGreatDoorAbs1
set_option linter.unusedVariables false
set_option linter.unusedSimpArgs false
set_option linter.unusedSectionVars false
namespace Go.Abs
set_option linter.unusedVariables false
set_option linter.unusedSimpArgs false
section
variable {A : AProg} {P : Program} {L : List (PTree AObj)} {E : Keep} {f : Inj} {h h' : Heap} {nx : Pos} {w : World}

theorem growBy_le (n : Nat) : ∀ (r c : Nat), c ≤ n + (n + 768) / 4 → Builtin.growBy n r c ≤ n + (n + 768) / 4 := by
  intro r
  induction r with
  | zero => intro c h; exact h
  | succ r ih =>
    intro c h
    simp only [Builtin.growBy]
    split
    · exact h
    · exact ih _ (by omega)
theorem nextcap_le {n c : Nat} (h : c < n) : Builtin.nextslicecap n c ≤ 2 * n + 192 := by
  unfold Builtin.nextslicecap
  split
  · omega
  · split
    · omega
    · have := growBy_le n 4 c (by omega); omega

theorem run_bytes' {t : TypeId} {n : Nat} (hA : A.Ok P) (h : bytesA A t = some n) : ∃ i, (∀ w, (typeInfo t).run P w = .ok i w) ∧ i.bytes = n := by
  unfold bytesA at h
  split at h
  · rename_i i hi; simp at h; exact ⟨i, fun w => by simp [typeInfo, hA.types _ _ hi], h⟩
  · simp at h
theorem run_zero' {f : Inj} {t : TypeId} {a : AVal} (hA : A.Ok P) (h : zeroA A t = some a) : ∃ v, (∀ w, (zeroValue t).run P w = .ok v w) ∧ VRel f a v := by
  unfold zeroA at h
  split at h
  · rename_i i hi
    split at h
    · rename_i v hv
      exact ⟨v, fun w => by simp [zeroValue, typeInfo, hA.types _ _ hi, hv], ofValue_rel v a h⟩
    · simp at h
  · simp at h
def isIntD : TypeDesc → Bool
  | .int _ => true
  | _ => false

/-- what an append of n members comes to: there is room, or there is none -/
structure Tail (P : Program) (w : World) (elem size n : Nat) (base : Option Addr) (sLen sCap : Nat) (app : Sem (Array Value)) (T : Sem Value) : Prop where
  fits : sLen + n ≤ sCap → ∀ {cvs : Array Value}, app.run P w = .ok cvs w →
    T.run P w = ((match base with | some a => storeCells (a.add (sLen * size)) cvs.toList | none => pure ()).run P w).andThen fun _ w' => .ok (.slice base (sLen + n) sCap) w'
  grows : sCap < sLen + n → sLen + n ≤ 1048576 → ∀ {z : Value} {cvs olds : Array Value},
    (∀ w', w'.heap = w.heap → app.run P w' = .ok cvs w') → (∀ w', w'.heap = w.heap → (Builtin.firstCells size sLen (.slice base sLen sCap)).run P w' = .ok olds w') → (∀ w', (zeroValue elem).run P w' = .ok z w') →
    ∃ newCap w', sLen + n ≤ newCap ∧ w'.heap = w.heap.push (.cells (olds ++ cvs ++ Builtin.zeroCells z.cells (newCap - (sLen + n))) elem) ∧ WSame w w' ∧
      T.run P w = .ok (.slice (some ⟨w.heap.size, 0, none⟩) (sLen + n) newCap) w'

theorem run_append {ts : Array TypeId} {t t' elem size n bs : Nat} {d' : TypeDesc} {x : Value} {base : Option Addr} {sLen sCap : Nat} (hA : A.Ok P) (ht : ts[0]? = some t) (ht' : ts[1]? = some t') (hu : und A t = some (.slice elem)) (hs : sizeA A elem = some size)
    (hu' : und A t' = some d') (hd : isIntD d' = false) (hn : (Builtin.lenOf x).run P w = .ok n w) (hb : bytesA A elem = some bs) (hb20 : bs ≤ 1048576) (ty : TypeId) :
    Tail P w elem size n base sLen sCap (Builtin.firstCells size n x) (Builtin.append_ ts ty #[.slice base sLen sCap, x]) := by
  have e0 : (#[Value.slice base sLen sCap, x])[0]? = some (Value.slice base sLen sCap) := rfl
  have e1 : (#[Value.slice base sLen sCap, x])[1]? = some x := rfl
  constructor
  · intro hfit cvs hc
    unfold Builtin.append_
    simp only [ht, ht', e0, e1, Sem.run_bind, run_und hA hu, run_size hA hs, run_und hA hu', Result.andThen_ok, Sem.run_pure]
    cases d' with
    | int k => simp [isIntD] at hd
    | _ =>
      rw [if_neg Bool.false_ne_true]
      rw [Sem.run_bind, hn, Result.andThen_ok]
      simp only [Bool.not_false, if_true, if_pos hfit, Sem.run_bind, hc, Result.andThen_ok]
      cases base with
      | none => rfl
      | some a => simp only [Sem.run_bind]; rfl
  · intro hfit hneed z cvs olds hc ho hz
    have hnc := nextcap_le hfit
    obtain ⟨i, hi', rfl⟩ := run_bytes' (P := P) hA hb
    have h1 : ¬ (Builtin.nextslicecap (sLen + n) sCap * i.bytes > 2 ^ 48) := by
      have : Builtin.nextslicecap (sLen + n) sCap * i.bytes ≤ (2 * 1048576 + 192) * 1048576 := Nat.mul_le_mul (by omega) hb20
      omega
    have h2 : ¬ ((((sLen + n : Nat)) : Int) > IntKind.i64.max) := by
      have : IntKind.i64.max = 9223372036854775807 := rfl
      rw [this]; omega
    have hfit' : ¬ (sLen + n ≤ sCap) := by omega
    generalize hq : Question.appendCap (sLen + n) sCap elem = q
    obtain ⟨newCap, d, hcap, hch⟩ : ∃ c d, sLen + n ≤ c ∧ (choose q).run P w = .ok c { w with drawn := d } := by
      rw [run_choose]
      subst hq
      refine ⟨_, w.drawn + 1, ?_, by simp [Question.forced]; rfl⟩
      simp [Question.cut]
    refine ⟨newCap, ({ w with drawn := d } : World).alloc (.cells (olds ++ cvs ++ Builtin.zeroCells z.cells (newCap - (sLen + n))) elem), hcap, rfl, ⟨rfl, rfl, rfl⟩, ?_⟩
    unfold Builtin.append_
    simp only [ht, ht', e0, e1, Sem.run_bind, run_und hA hu, run_size hA hs, run_und hA hu', Result.andThen_ok, Sem.run_pure]
    cases d' with
    | int k => simp [isIntD] at hd
    | _ =>
      rw [if_neg Bool.false_ne_true]
      rw [Sem.run_bind, hn, Result.andThen_ok]
      simp only [Bool.not_false, if_true, if_neg hfit', Sem.run_bind, hi', Result.andThen_ok]
      rw [if_neg (fun e => h2 e.1)]
      simp only [Sem.run_bind, hi', Result.andThen_ok, Sem.run_pure]
      rw [if_neg h1, hq]
      simp only [Sem.run_bind, hi', Result.andThen_ok, Sem.run_pure, hch, run_askRoom]
      rw [ho { w with drawn := d } rfl, Result.andThen_ok, hc { w with drawn := d } rfl]
      simp [hz, newRow]

theorem run_append_zeros {ts : Array TypeId} {t t' elem size n bs : Nat} {d' : TypeDesc} {base : Option Addr} {sLen sCap : Nat} (hA : A.Ok P) (ht : ts[0]? = some t) (ht' : ts[1]? = some t') (hu : und A t = some (.slice elem)) (hs : sizeA A elem = some size)
    (hu' : und A t' = some d') (hd : isIntD d' = true) (hnb : n ≤ 1048576) (hb : bytesA A elem = some bs) (hb20 : bs ≤ 1048576) (ty : TypeId) :
    Tail P w elem size n base sLen sCap (if n * size = 0 then pure #[] else do pure (Builtin.zeroCells (← zeroValue elem).cells n)) (Builtin.append_ ts ty #[.slice base sLen sCap, .int .i64 (n : Int)]) := by
  have e0 : (#[Value.slice base sLen sCap, .int .i64 (n : Int)])[0]? = some (Value.slice base sLen sCap) := rfl
  have e1 : (#[Value.slice base sLen sCap, .int .i64 (n : Int)])[1]? = some (.int .i64 (n : Int)) := rfl
  obtain ⟨i, hi, hbs⟩ := run_bytes (P := P) hA hb w
  have hw : IntKind.i64.wrap (n : Int) = n := by
    rw [← wrapA_eq]
    show wrapA .i64 (.ofNat n) = _
    simp only [wrapA, cond_eq, Nat.ble_eq]
    rw [if_neg (by omega)]; rfl
  have hbig : ¬ ((n : Int) * (i.bytes : Int) > 2 ^ 48) := by
    have : n * i.bytes ≤ 1048576 * 1048576 := Nat.mul_le_mul hnb (by omega)
    have := Int.ofNat_le.2 this
    rw [Int.natCast_mul] at this
    omega
  constructor
  · intro hfit cvs hc
    unfold Builtin.append_
    simp only [ht, ht', e0, e1, Sem.run_bind, run_und hA hu, run_size hA hs, run_und hA hu', Result.andThen_ok, Sem.run_pure]
    cases d' with
    | int k =>
      rw [if_pos rfl, Sem.run_bind, show (asInt (.int .i64 (n : Int))).run P w = .ok (n : Int) w from rfl, Result.andThen_ok]
      rw [hw, if_neg (show ¬ ((n : Int) < 0) by omega), Sem.run_bind, hi, Result.andThen_ok, if_neg hbig, Sem.run_bind, Sem.run_pure, Result.andThen_ok, Int.toNat_natCast]
      simp only [Bool.not_true, if_false, Bool.false_eq_true, if_pos hfit, Sem.run_bind, hc, Result.andThen_ok]
      cases base with
      | none => rfl
      | some a => simp only [Sem.run_bind]; rfl
    | _ => simp [isIntD] at hd
  · intro hfit hneed z cvs olds hc ho hz
    have hnc := nextcap_le hfit
    obtain ⟨j, hi', rfl⟩ := run_bytes' (P := P) hA hb
    have h1 : ¬ (Builtin.nextslicecap (sLen + n) sCap * j.bytes > 2 ^ 48) := by
      have : Builtin.nextslicecap (sLen + n) sCap * j.bytes ≤ (2 * 1048576 + 192) * 1048576 := Nat.mul_le_mul (by omega) hb20
      omega
    have h2 : ¬ ((((sLen + n : Nat)) : Int) > IntKind.i64.max) := by
      have : IntKind.i64.max = 9223372036854775807 := rfl
      rw [this]; omega
    have hfit' : ¬ (sLen + n ≤ sCap) := by omega
    generalize hq : Question.appendCap (sLen + n) sCap elem = q
    obtain ⟨newCap, d, hcap, hch⟩ : ∃ c d, sLen + n ≤ c ∧ (choose q).run P w = .ok c { w with drawn := d } := by
      rw [run_choose]
      subst hq
      refine ⟨_, w.drawn + 1, ?_, by simp [Question.forced]; rfl⟩
      simp [Question.cut]
    refine ⟨newCap, ({ w with drawn := d } : World).alloc (.cells (olds ++ cvs ++ Builtin.zeroCells z.cells (newCap - (sLen + n))) elem), hcap, rfl, ⟨rfl, rfl, rfl⟩, ?_⟩
    unfold Builtin.append_
    simp only [ht, ht', e0, e1, Sem.run_bind, run_und hA hu, run_size hA hs, run_und hA hu', Result.andThen_ok, Sem.run_pure]
    cases d' with
    | int k =>
      rw [if_pos rfl, Sem.run_bind, show (asInt (.int .i64 (n : Int))).run P w = .ok (n : Int) w from rfl, Result.andThen_ok]
      rw [hw, if_neg (show ¬ ((n : Int) < 0) by omega), Sem.run_bind, hi, Result.andThen_ok, if_neg hbig, Sem.run_bind, Sem.run_pure, Result.andThen_ok, Int.toNat_natCast]
      simp only [Bool.not_true, if_false, Bool.false_eq_true, if_neg hfit', Sem.run_bind, hi', Result.andThen_ok]
      rw [if_neg (fun e => h2 e.1)]
      simp only [Sem.run_bind, hi', Result.andThen_ok, Sem.run_pure]
      rw [if_neg h1, hq]
      simp only [Sem.run_bind, hi', Result.andThen_ok, Sem.run_pure, hch, run_askRoom]
      rw [ho { w with drawn := d } rfl, Result.andThen_ok, hc { w with drawn := d } rfl]
      simp [hz, newRow]
    | _ => simp [isIntD] at hd
theorem loadCells_of {p : Place} {c l : List AVal} {off n : Nat} {cs : Array Value} {e : TypeId} {fz : Nat × Nat} (hw : w.heap[p.block]? = some (.cells cs e fz)) (hr : CRel f p.base c cs) (hl : takeN n (dropN off c) = some l) :
    VsRel f l (cs.extract (p.base + off) (p.base + off + n)).toList ∧ (loadCells ⟨p.block, p.base + off, none⟩ n).run P w = .ok (cs.extract (p.base + off) (p.base + off + n)) w := by
  obtain ⟨h1, h2⟩ := hr.part hl
  refine ⟨h1, ?_⟩
  by_cases hn : n = 0
  · subst hn; simp [loadCells, loadCellsFrom]; omega
  · exact loadCells_run hw _ _ (h2 (by omega))

/-- the cells that are appended, or copied -/
theorem src_ok (hH : HRel E f (hget L h) nx w) {es : Nat} {x : AVal} {v : Value} (hx : VRel f x v) {cs : List AVal} {n : Nat} (hs : srcCells L h es x = some (cs, n)) (ht : wAppend.textFits es x = true) :
    ∃ cvs : Array Value, VsRel f cs cvs.toList ∧ cs.length = n * es ∧ ∀ w', w'.heap = w.heap → (Builtin.lenOf v).run P w' = .ok n w' ∧ (Builtin.firstCells es n v).run P w' = .ok cvs w' := by
  unfold srcCells at hs
  split at hs
  · rw [VRel] at hx; subst hx
    simp at hs; obtain ⟨rfl, rfl⟩ := hs
    exact ⟨#[], rfl, by simp, fun w' _ => ⟨by simp [Builtin.lenOf], by simp [Builtin.firstCells]⟩⟩
  · obtain ⟨s, rfl, rfl⟩ := hx
    simp at hs; obtain ⟨rfl, rfl⟩ := hs
    have he : es = 1 := by simp only [wAppend.textFits] at ht; exact Nat.eq_of_beq_eq_true ht
    subst he
    have hsz : (bytesOf s).length = s.size := by simp [bytesOf]
    refine ⟨s.data.map (fun b => .int .u8 b.toNat), by simpa [bytesOf] using bytesVals_rel (f := f) s.data.toList, ?_, fun w' _ => ⟨by simp [Builtin.lenOf, hsz], ?_⟩⟩
    · have := (bytesVals_rel (f := f) s.data.toList).length
      simp at this
      simp [hsz]; simpa [bytesOf] using this
    · have : s.extract 0 s.size = s := ByteArray.extract_zero_size
      simp [Builtin.firstCells, hsz, this]
  · rename_i b off len cap
    obtain ⟨p, hp, rfl, _⟩ := hx
    split at hs
    · rename_i c hc
      obtain ⟨p', cs', e, fz, o, s, r, hg, hp', hw, hrel⟩ := cells_of hH hc
      rw [hp] at hp'; cases hp'
      split at hs
      · rename_i l hl
        simp at hs; obtain ⟨rfl, rfl⟩ := hs
        have h1 := loadCells_of (P := P) hw hrel hl
        refine ⟨_, h1.1, by have := (takeN_some _ _ _ hl); rw [this.2]; simp; omega, fun w' hw' => ⟨by simp [Builtin.lenOf], ?_⟩⟩
        simp only [Builtin.firstCells]
        exact (loadCells_of (P := P) (w := w') (by rw [hw']; exact hw) hrel hl).2
      · simp at hs
    · simp at hs
  · rename_i b off len es'
    obtain ⟨p, hp, _, hx⟩ := hx
    split at hs
    · rename_i c hc
      obtain ⟨p', cs', e, fz, o, s, r, hg, hp', hw, hrel⟩ := cells_of hH hc
      rw [hp] at hp'; cases hp'
      split at hs
      · rename_i l hl
        simp at hs; obtain ⟨rfl, rfl⟩ := hs
        have hlen : l.length = len * es := by have := (takeN_some _ _ _ hl); rw [this.2]; simp; omega
        rcases hx with ⟨cap, rfl, _⟩ | ⟨rfl, _, a, rfl⟩
        · have h1 := loadCells_of (P := P) hw hrel hl
          refine ⟨_, h1.1, hlen, fun w' hw' => ⟨by simp [Builtin.lenOf], ?_⟩⟩
          simp only [Builtin.firstCells]
          exact (loadCells_of (P := P) (w := w') (by rw [hw']; exact hw) hrel hl).2
        · have hl0 : l = [] := by simpa using hlen
          subst hl0
          exact ⟨#[], rfl, hlen, fun w' _ => ⟨by simp [Builtin.lenOf], by simp [Builtin.firstCells, loadCells, loadCellsFrom]⟩⟩
      · simp at hs
    · simp at hs
  · simp at hs


theorem add_none (b o k : Nat) : (⟨b, o, none⟩ : Addr).add k = ⟨b, o + k, none⟩ := by
  unfold Addr.add
  split
  · rename_i h; subst h; rfl
  · rfl

theorem zeroCells_size (z : Array Value) (n : Nat) : (Builtin.zeroCells z n).size = n * z.size := by simp [Builtin.zeroCells]

/-- what append lays behind all other blocks -/
theorem grown {g : Pos → Option AObj} {w' : World} {es newCap len n : Nat} {elem : TypeId} {olds cvs : Array Value} {old cs : List AVal} {z : Value} (hH : HRel E f g nx w) (ho : VsRel f old olds.toList) (hc : VsRel f cs cvs.toList)
    (hlo : old.length = len * es) (hlc : cs.length = n * es) (hes : 0 < es) (hz : z.cells.size = es) (hcap : len + n ≤ newCap)
    (hw : w'.heap = w.heap.push (.cells (olds ++ cvs ++ Builtin.zeroCells z.cells (newCap - (len + n))) elem)) (hs : WSame w w') (str : Bool) :
    f.le (f.upd nx ⟨w.heap.size, 0, newCap * es⟩) ∧ HRel E (f.upd nx ⟨w.heap.size, 0, newCap * es⟩) (upd g nx (.cells (old ++ cs) es str false)) nx.inc w' ∧
      VRel (f.upd nx ⟨w.heap.size, 0, newCap * es⟩) (.sliceO nx 0 (len + n) es) (.slice (some ⟨w.heap.size, 0, none⟩) (len + n) newCap) := by
  have hle : f.le (f.upd nx ⟨w.heap.size, 0, newCap * es⟩) := Inj.le_upd (hH.next_none (Nat.le_refl _))
  have hoc := ho.append hc
  have hlen := hoc.length
  have e1 : (len + n) * es + (newCap - (len + n)) * es = newCap * es := by rw [← Nat.add_mul]; congr 1; omega
  have e2 : (len + n) * es = len * es + n * es := Nat.add_mul ..
  refine ⟨hle, hH.new hw hs ⟨_, elem, (0, 0), rfl, ?_, by simp, ?_, by simp⟩, ⟨_, Inj.upd_same, hes, .inl ⟨newCap, rfl, hcap, by simp⟩⟩⟩
  · refine CRel.mono hle ?_
    intro k v hv
    obtain ⟨v', h1, h2⟩ := hoc.get k v hv
    refine ⟨v', ?_, h2⟩
    have hk := (List.getElem?_eq_some_iff.1 h1).1
    simp only [Nat.zero_add]
    rw [Array.getElem?_append_left (by simp at hk ⊢; omega)]
    simpa [List.getElem?_append, Array.getElem?_append] using h1
  · intro _
    simp only [List.length_append, Array.size_append, zeroCells_size, hz, Nat.zero_add] at hlen ⊢
    simp only [Array.length_toList] at hlen
    have := ho.length
    have := hc.length
    simp at this
    omega

theorem appendTo_ok (hA : A.Ok P) (hH : HRel E f (hget L h) h.next w) {elem es bs n : Nat} {s : AVal} {vs : Value} {cs : List AVal} {cvs : Array Value} {app : Sem (Array Value)} {z : AVal} (hs : VRel f s vs)
    (hes : 0 < es) (hn : 0 < n) (hb : bytesA A elem = some bs) (hb20 : bs ≤ 1048576) (hz : zeroA A elem = some z) (hze : z.cells.length = es) (hneed : wAppend.lenOf s + n ≤ 1048576)
    (hc : VsRel f cs cvs.toList) (hcl : cs.length = n * es) (ho1 : allOne cs = true) (happ : ∀ w', w'.heap = w.heap → app.run P w' = .ok cvs w') {T : Value → Sem Value} (hT : ∀ base sLen sCap, Tail P w elem es n base sLen sCap app (T (.slice base sLen sCap))) {v : AVal} (hr : appendTo L h es s cs n = .val v h') :
    ∃ base sLen sCap, vs = .slice base sLen sCap ∧ ∃ f' v' w', (T vs).run P w = .ok v' w' ∧ f.le f' ∧ VRel f' v v' ∧ HRel E f' (hget L h') h'.next w' := by
  obtain ⟨vz, hvz, rz⟩ := run_zero' (P := P) (f := f) hA hz
  have hzs : vz.cells.size = es := by have := (VRel.cells rz).length; simp at this; omega
  unfold appendTo at hr
  split at hr
  · rw [VRel] at hs; subst hs
    simp at hr; obtain ⟨rfl, rfl⟩ := hr
    simp only [wAppend.lenOf] at hneed
    obtain ⟨newCap, w', h1, h2, h3, h4⟩ := (hT none 0 0).grows (by omega) hneed happ (olds := #[]) (fun w' _ => by simp [Builtin.firstCells]) hvz
    refine ⟨_, _, _, rfl, ?_⟩
    obtain ⟨g1, g2, g3⟩ := grown (len := 0) (n := n) hH (old := []) (olds := #[]) VsRel.nil hc (by simp) hcl hes hzs h1 h2 h3 false
    refine ⟨_, _, w', h4, g1, by simpa using g3, ?_⟩
    rw [hget_new, next_new]
    simpa using g2
  · rename_i b off len cap
    obtain ⟨p, hp, rfl, hlc⟩ := hs
    refine ⟨_, _, _, rfl, ?_⟩
    simp only [wAppend.lenOf] at hneed
    rw [cond_eq] at hr
    split at hr
    · rename_i hfit
      simp only [Nat.ble_eq] at hfit
      split at hr
      · rename_i h1 hst
        simp at hr; obtain ⟨rfl, rfl⟩ := hr
        obtain ⟨p', w', hp', g1, g2, g3⟩ := storeA_ok (P := P) hH hst hc
        rw [hp] at hp'; cases hp'
        refine ⟨f, _, w', ?_, f.le_refl, ⟨p, hp, rfl, hfit⟩, by rw [g3]; exact g2⟩
        rw [(hT _ _ _).fits hfit (happ w rfl)]
        simp only [add_none]
        rw [Nat.add_assoc, g1]
        rfl
      · simp at hr
    · rename_i hfit
      simp only [Nat.ble_eq] at hfit
      split at hr
      · rename_i c hca
        split at hr
        · rename_i old hold
          simp at hr; obtain ⟨rfl, rfl⟩ := hr
          obtain ⟨p', cs', e, fz, o, st, r, hg, hp', hw, hrel⟩ := cells_of hH hca
          rw [hp] at hp'; cases hp'
          have hl := loadCells_of (P := P) hw hrel hold
          have hlen : old.length = len * es := by have := (takeN_some _ _ _ hold); rw [this.2]; simp; omega
          obtain ⟨newCap, w', h1, h2, h3, h4⟩ := (hT (some ⟨p.block, p.base + off, none⟩) len cap).grows (by omega) hneed happ
            (fun w' hw' => (loadCells_of (P := P) (w := w') (by rw [hw']; exact hw) hrel hold).2) hvz
          obtain ⟨g1, g2, g3⟩ := grown (len := len) (n := n) hH hl.1 hc hlen hcl hes hzs h1 h2 h3 false
          refine ⟨_, _, w', h4, g1, g3, ?_⟩
          rw [hget_new, next_new]
          exact g2
        · simp at hr
      · simp at hr
  · rename_i b off len es'
    rw [cond_eq] at hr
    split at hr
    · rename_i hee
      have hee : es = es' := Nat.eq_of_beq_eq_true hee
      subst hee
      split at hr
      · rename_i c opn st hg
        obtain ⟨p, hp, _, hs⟩ := hs
        obtain ⟨q, ob, hq, hw, hrel⟩ := hH.objs _ _ hg rfl
        rw [hp] at hq; cases hq
        obtain ⟨rcs, e, fz, rfl, hcr, hfz, hroom, hstr⟩ := hrel
        have hroom := hroom (by simp)
        simp only [wAppend.lenOf] at hneed
        rw [cond_eq] at hr
        split at hr
        · rename_i hin
          simp only [Nat.ble_eq] at hin
          split at hr
          · rename_i h1 hst
            simp at hr; obtain ⟨rfl, rfl⟩ := hr
            obtain ⟨p', w', hp', g1, g2, g3⟩ := storeA_ok (P := P) hH hst hc
            rw [hp] at hp'; cases hp'
            rcases hs with ⟨cap, rfl, hlc, hcap⟩ | ⟨rfl, hoff, a, rfl⟩
            · refine ⟨_, _, _, rfl, ?_⟩
              have hfit : len + n ≤ cap := by
                have : (len + n) * es ≤ cap * es := by omega
                exact Nat.le_of_mul_le_mul_right this hes
              refine ⟨f, _, w', ?_, f.le_refl, ⟨p, hp, hes, .inl ⟨cap, rfl, hfit, hcap⟩⟩, by rw [g3]; exact g2⟩
              rw [(hT _ _ _).fits hfit (happ w rfl)]
              simp only [add_none]
              rw [Nat.add_assoc, g1]
              rfl
            · exfalso
              have : 0 < (0 + n) * es := Nat.mul_pos (by omega) hes
              omega
          · simp at hr
        · split at hr
          · rename_i old hold
            simp at hr; obtain ⟨rfl, rfl⟩ := hr
            have hl := loadCells_of (P := P) hw hcr hold
            have hlen : old.length = len * es := by have := (takeN_some _ _ _ hold); rw [this.2]; simp; omega
            have hgrow : ∀ base sLen sCap (olds : Array Value), sLen = len → VsRel f old olds.toList → sCap < len + n → (∀ w', w'.heap = w.heap → (Builtin.firstCells es sLen (.slice base sLen sCap)).run P w' = .ok olds w') →
                ∃ f' v' w', (T (.slice base sLen sCap)).run P w = .ok v' w' ∧ f.le f' ∧ VRel f' (.sliceO h.next 0 (len + n) es) v' ∧ HRel E f' (hget L ((h.set b .gone).new (.cells (old ++ cs) es true false))) ((h.set b .gone).new (.cells (old ++ cs) es true false)).next w' := by
              intro base sLen sCap olds e0 hvo hlt hol
              subst e0
              obtain ⟨newCap, w', h1, h2, h3, h4⟩ := (hT base sLen sCap).grows hlt hneed happ hol hvz
              obtain ⟨g1, g2, g3⟩ := grown (len := sLen) (n := n) (hH.gone b) hvo hc hlen hcl hes hzs h1 h2 h3 true
              refine ⟨_, _, w', h4, g1, g3, ?_⟩
              rw [hget_new, next_new, hget_set, next_set]
              exact g2
            rcases hs with ⟨cap, rfl, hlc, hcap⟩ | ⟨rfl, hoff, a, rfl⟩
            · refine ⟨_, _, _, rfl, ?_⟩
              by_cases hfit : len + n ≤ cap
              · have hspace : off + (len + n) * es ≤ p.room := by
                  have : (len + n) * es ≤ cap * es := Nat.mul_le_mul_right _ hfit
                  omega
                have e2 : (len + n) * es = len * es + n * es := Nat.add_mul ..
                have hclen := hc.length
                obtain ⟨w', cs', g1, g2, g3, g4, g5, g6⟩ := storeCells_run (P := P) (p.base + off + len * es) cvs.toList 0 rcs w hw (by simp at hclen ⊢; omega) hfz (allOne_mem ho1 hc)
                have hcs : cs'.size = rcs.size := by
                  have := congrArg List.length g5
                  simp at this hclen; omega
                have hH1 : HRel E f (upd (hget L h) b .gone) h.next w' := hH.write hg rfl rfl hp g2 g3 g4 g6 trivial
                have hnone : f h.next = none := hH.next_none (Nat.le_refl _)
                have hpos : h.next.toNat < h.next.inc.toNat := by rw [Pos.toNat_inc]; omega
                have hH2 := (hH1.less (nx' := h.next.inc) (fun _ _ h _ => h) (by omega)).name (b := h.next) (p := ⟨p.block, p.base + off, p.room - off⟩) hpos hnone (fun hr => by have := (hH.res h.next hr).2; omega)
                have hle : f.le (f.upd h.next ⟨p.block, p.base + off, p.room - off⟩) := Inj.le_upd hnone
                have hlh : h.next ≠ b := by rintro rfl; rw [hnone] at hp; simp at hp
                have hH3 := hH2.adopt (b := h.next) (o := .cells (old ++ cs) es true false) hpos Inj.upd_same g4 ⟨cs', e, fz, rfl, ?_, ?_, ?_, by simp⟩ (show ¬ E.keep p.block from hH.wr _ _ _ hg rfl rfl hp) ?_
                · refine ⟨_, _, w', ?_, hle, ⟨_, Inj.upd_same, hes, .inl ⟨cap, rfl, hfit, ?_⟩⟩, ?_⟩
                  · rw [(hT _ _ _).fits hfit (happ w rfl)]
                    simp only [add_none]
                    rw [g1]
                    rfl
                  · simp only; omega
                  · rw [hget_new, next_new, hget_set, next_set]; exact hH3
                · have h5 : CRel f (p.base + off) (old ++ cs) cs' := by
                    intro k v hk
                    have hh : cs'[p.base + off + k]? = (rcs.toList.take (p.base + off + len * es + 0) ++ cvs.toList ++ rcs.toList.drop (p.base + off + len * es + 0 + cvs.toList.length))[p.base + off + k]? := by rw [← g5]; simp
                    rw [hh]
                    by_cases hk1 : k < old.length
                    · rw [List.getElem?_append_left hk1] at hk
                      rw [List.append_assoc, List.getElem?_append_left (by simp; omega), List.getElem?_take, if_pos (by omega)]
                      obtain ⟨v', h1, h2⟩ := hl.1.get k v hk
                      refine ⟨v', ?_, h2⟩
                      simp only [Array.toList_extract, List.extract_eq_take_drop, List.getElem?_take, List.getElem?_drop] at h1
                      split at h1
                      · exact h1
                      · simp at h1
                    · rw [List.getElem?_append_right (by omega)] at hk
                      obtain ⟨v', h1, h2⟩ := hc.get _ v hk
                      have h3 := (List.getElem?_eq_some_iff.1 h1).1
                      have e3 : (rcs.toList.take (p.base + off + len * es + 0)).length = p.base + off + len * es := by simp at hclen ⊢; omega
                      rw [List.getElem?_append_left (by rw [List.length_append, e3]; omega), List.getElem?_append_right (by omega), e3]
                      refine ⟨v', ?_, h2⟩
                      have : p.base + off + k - (p.base + off + len * es) = k - old.length := by omega
                      rw [this]; exact h1
                  exact h5.mono hle
                · rw [hcs]; exact hfz
                · intro _
                  simp only [List.length_append] at hclen ⊢
                  simp only [hcs]
                  omega
                · intro i oi q h1 h2 h3 h4
                  unfold upd at h1
                  split at h1
                  · simp at h1; subst h1; simp [AObj.live] at h2
                  · rename_i hbi
                    unfold Inj.upd at h4
                    rw [if_neg (fun e => h3 e.symm)] at h4
                    exact hH.sep i b oi _ q p h1 hg h2 rfl (fun e => hbi e.symm) h4 hp
              · exact hgrow _ _ _ _ rfl hl.1 (by omega) fun w' hw' => (loadCells_of (P := P) (w := w') (by rw [hw']; exact hw) hcr hold).2
            · refine ⟨_, _, _, rfl, ?_⟩
              have hl0 : old = [] := by simpa using hlen
              subst hl0
              exact hgrow _ _ _ #[] rfl VsRel.nil (by omega) fun w' hw' => by simp [Builtin.firstCells, loadCells, loadCellsFrom]
          · simp at hr
      · simp at hr
    · simp at hr
  · simp at hr
end
end Go.Abs

namespace Go.Abs
set_option linter.unusedVariables false
set_option linter.unusedSimpArgs false
section
variable {A : AProg} {P : Program} {L : List (PTree AObj)} {E : Keep} {f : Inj} {h h' : Heap} {nx : Pos} {w : World}

theorem run_builtin {ρ : Operand → Value} {o : Oper} {c : Call} {b : Builtin} (ho : o.op = .call c) (hb : c.callee = .builtin b) :
    (execOp ρ o).run P w = (builtin b c.argTypes o.type (c.args.map fun | .const _ => true | _ => false) (c.args.map ρ)).run P w := by
  simp only [execOp, ho, Sem.run_bind, resolve, hb, Sem.run_pure, Result.andThen_ok, invoke]
  rfl

theorem two_args {ρ : Operand → Value} {e : Env} {l : Array Operand} {a b : AVal} (henv : OpEnv f e ρ l.toList) (h : evalAll e l.toList = some [a, b]) : ∃ va vb, l.map ρ = #[va, vb] ∧ VRel f a va ∧ VRel f b vb := by
  obtain ⟨va, l1, h1, ra, h2⟩ := evalAll_ok henv h
  obtain ⟨vb, l2, rfl, rb, h3⟩ := h2
  rw [VsRel] at h3; subst h3
  exact ⟨va, vb, by apply Array.ext'; simpa using h1, ra, rb⟩
theorem one_arg {ρ : Operand → Value} {e : Env} {l : Array Operand} {a : AVal} (henv : OpEnv f e ρ l.toList) (h : evalAll e l.toList = some [a]) : ∃ va, l.map ρ = #[va] ∧ VRel f a va := by
  obtain ⟨va, l1, h1, ra, h2⟩ := evalAll_ok henv h
  rw [VsRel] at h2; subst h2
  exact ⟨va, by apply Array.ext'; simpa using h1, ra⟩

theorem toList_get {ts : Array TypeId} {t : TypeId} {l : List TypeId} (h : ts.toList = t :: l) : ts[0]? = some t := by rw [← Array.getElem?_toList, h]; rfl
theorem toList_get1 {ts : Array TypeId} {t t' : TypeId} {l : List TypeId} (h : ts.toList = t :: t' :: l) : ts[1]? = some t' := by rw [← Array.getElem?_toList, h]; rfl

theorem appendNone_ok (hH : HRel E f (hget L h) h.next w) {elem es : Nat} {s : AVal} {vs : Value} {app : Sem (Array Value)} (hs : VRel f s vs) (happ : app.run P w = .ok #[] w) {T : Value → Sem Value} (hT : ∀ base sLen sCap, Tail P w elem es 0 base sLen sCap app (T (.slice base sLen sCap))) {v : AVal} (hr : appendNone h s = .val v h') :
    ∃ base sLen sCap, vs = .slice base sLen sCap ∧ ∃ f' v' w', (T vs).run P w = .ok v' w' ∧ f.le f' ∧ VRel f' v v' ∧ HRel E f' (hget L h') h'.next w' := by
  have key : ∀ base sLen sCap, sLen ≤ sCap → (T (.slice base sLen sCap)).run P w = .ok (.slice base sLen sCap) w := by
    intro base sLen sCap hle
    rw [(hT base sLen sCap).fits (by omega) happ]
    cases base with
    | none => rfl
    | some a => simp [storeCells]
  unfold appendNone at hr
  split at hr
  · rw [VRel] at hs; subst hs
    simp at hr; obtain ⟨rfl, rfl⟩ := hr
    exact ⟨_, _, _, rfl, f, _, w, key _ _ _ (Nat.le_refl _), f.le_refl, rfl, hH⟩
  · obtain ⟨p, hp, rfl, hlc⟩ := hs
    rw [cond_eq] at hr
    split at hr
    · simp at hr; obtain ⟨rfl, rfl⟩ := hr
      exact ⟨_, _, _, rfl, f, _, w, key _ _ _ hlc, f.le_refl, ⟨p, hp, rfl, hlc⟩, hH⟩
    · simp at hr
  · simp at hr; obtain ⟨rfl, rfl⟩ := hr
    have hs' := hs
    obtain ⟨p, hp, _, ⟨cap, rfl, hlc, _⟩ | ⟨rfl, _, a, rfl⟩⟩ := hs
    · exact ⟨_, _, _, rfl, f, _, w, key _ _ _ hlc, f.le_refl, hs', hH⟩
    · exact ⟨_, _, _, rfl, f, _, w, key _ _ _ (Nat.le_refl _), f.le_refl, hs', hH⟩
  · simp at hr

theorem wAppend_ok (hA : A.Ok P) (hH : HRel E f (hget L h) h.next w) {ts : Array TypeId} {s x : AVal} {vs vx : Value} (hs : VRel f s vs) (hx : VRel f x vx) {v : AVal} (hr : wAppend A L h ts.toList s x = .val v h') (ty : TypeId) :
    ∃ f' v' w', (Builtin.append_ ts ty #[vs, vx]).run P w = .ok v' w' ∧ f.le f' ∧ VRel f' v v' ∧ HRel E f' (hget L h') h'.next w' := by
  unfold wAppend at hr
  split at hr
  · rename_i t t' rest hts
    have ht := toList_get hts
    have ht' := toList_get1 hts
    split at hr
    · rename_i elem hu
      split at hr
      · rename_i es bs z d' hes hbs hz hu'
        rw [cond_eq] at hr
        split at hr
        · rename_i hck
          simp only [small, Bool.and_eq_true, Nat.ble_eq] at hck
          obtain ⟨⟨hb20, hes20⟩, hze⟩ := hck
          have hze : z.cells.length = es := Nat.eq_of_beq_eq_true hze
          obtain ⟨vz, hvz, rz⟩ := run_zero' (P := P) (f := f) hA hz
          split at hr
          · rename_i k n
            rw [cond_eq] at hr
            split at hr
            · rename_i hck
              simp only [small, Bool.and_eq_true, Nat.ble_eq] at hck
              obtain ⟨⟨hn20, hneed⟩, hone⟩ := hck
              rw [VRel] at hx; subst hx
              have hrun := fun base sLen sCap => run_append_zeros (P := P) (w := w) (n := n) (base := base) (sLen := sLen) (sCap := sCap) hA ht ht' hu hes hu' rfl hn20 hbs hb20 ty
              split at hr
              · obtain ⟨base, sLen, sCap, rfl, h1⟩ := appendNone_ok (P := P) (elem := elem) (es := es) hH hs (app := pure #[]) rfl (T := fun v => Builtin.append_ ts ty #[v, .int .i64 ((0 : Nat) : Int)]) (fun base sLen sCap => by
                  have := hrun base sLen sCap
                  rw [if_pos (by simp)] at this
                  exact this) hr
                exact h1
              · rename_i m
                split at hr
                · simp at hr
                · have hzero := zeros_rel (VRel.cells rz) (m + 1)
                  obtain ⟨base, sLen, sCap, rfl, h1⟩ := appendTo_ok (P := P) (app := do pure (Builtin.zeroCells (← zeroValue elem).cells (m + 1))) hA hH hs (Nat.succ_pos _) (Nat.succ_pos m) hbs hb20 hz hze hneed
                    (cvs := Builtin.zeroCells vz.cells (m + 1)) (by
                      have := hzero
                      have e1 : z.cells.length = vz.cells.size := by have := (VRel.cells rz).length; simpa using this
                      rw [e1] at this
                      exact this) (by rw [repl_length, hze]) (by
                      have : ∀ n, allOne z.cells = true → allOne (repl n z.cells) = true := by
                        intro n h1
                        induction n with
                        | zero => rfl
                        | succ n ih =>
                          simp only [repl]
                          have : ∀ a b : List AVal, allOne a = true → allOne b = true → allOne (a ++ b) = true := by
                            intro a
                            induction a with
                            | nil => intro b _ hb; exact hb
                            | cons y a ih =>
                              intro b ha hb
                              simp only [allOne, cond_eq, List.cons_append] at ha ⊢
                              split at ha
                              · rename_i hy; rw [if_pos hy]; exact ih b ha hb
                              · simp at ha
                          exact this _ _ h1 ih
                      exact this _ hone) (fun w' _ => by simp [hvz]) (T := fun v => Builtin.append_ ts ty #[v, .int .i64 ((m + 1 : Nat) : Int)]) (fun base sLen sCap => by
                      have h5 := hrun base sLen sCap
                      rw [if_neg (by
                        intro h0
                        rcases Nat.mul_eq_zero.1 h0 with h0 | h0 <;> omega)] at h5
                      exact h5) hr
                  exact h1
            · simp at hr
          · simp at hr
          · rename_i d'' x' hne1 hne2
            have hd : isIntD d' = false := by
              cases d' with
              | int k => exact absurd rfl (hne1 k)
              | _ => rfl
            split at hr
            · rename_i cs n hsrc
              rw [cond_eq] at hr
              split at hr
              · rename_i hck
                simp only [small, Bool.and_eq_true, Nat.ble_eq] at hck
                obtain ⟨⟨hneed, hone⟩, htf⟩ := hck
                obtain ⟨cvs, h1, h2, h3⟩ := src_ok (P := P) hH hx hsrc htf
                have hrun := fun base sLen sCap => run_append (P := P) (w := w) (n := n) (x := vx) (base := base) (sLen := sLen) (sCap := sCap) hA ht ht' hu hes hu' hd (h3 w rfl).1 hbs hb20 ty
                split at hr
                · have hcv : cvs = #[] := by
                    have := h1.length
                    simp at h2; subst h2
                    apply Array.eq_empty_of_size_eq_zero; simpa using this.symm
                  subst hcv
                  obtain ⟨base, sLen, sCap, rfl, h4⟩ := appendNone_ok (P := P) (elem := elem) (es := es) hH hs (app := Builtin.firstCells es 0 vx) (h3 w rfl).2 (T := fun v => Builtin.append_ ts ty #[v, vx]) hrun hr
                  exact h4
                · rename_i m
                  split at hr
                  · simp at hr
                  · obtain ⟨base, sLen, sCap, rfl, h4⟩ := appendTo_ok (P := P) (app := Builtin.firstCells _ (m + 1) vx) hA hH hs (Nat.succ_pos _) (Nat.succ_pos m) hbs hb20 hz hze hneed h1 h2 hone (fun w' hw' => (h3 w' hw').2) (T := fun v => Builtin.append_ ts ty #[v, vx]) hrun hr
                    exact h4
              · simp at hr
            · simp at hr
        · simp at hr
      · simp at hr
    · simp at hr
  · simp at hr

/-- what a slice is, where its block is named -/
theorem slice_of {d : AVal} {vd : Value} {b : Pos} {off m : Nat} (hd : VRel f d vd) (h : (∃ c, d = .slice b off m c) ∨ (∃ c, d = .sliceO b off m c)) :
    ∃ p, f b = some p ∧ ((∃ cap, vd = .slice (some ⟨p.block, p.base + off, none⟩) m cap) ∨ (m = 0 ∧ ∃ a, vd = .slice (some a) 0 0)) := by
  rcases h with ⟨c, rfl⟩ | ⟨c, rfl⟩
  · obtain ⟨p, hp, rfl, _⟩ := hd
    exact ⟨p, hp, .inl ⟨_, rfl⟩⟩
  · obtain ⟨p, hp, _, ⟨cap, rfl, _⟩ | ⟨rfl, _, a, rfl⟩⟩ := hd
    · exact ⟨p, hp, .inl ⟨_, rfl⟩⟩
    · exact ⟨p, hp, .inr ⟨rfl, a, rfl⟩⟩

/-- cells laid over some from the front of a slice on, or none at all -/
theorem storeAt_ok (hH : HRel E f (hget L h) h.next w) {d : AVal} {vd : Value} {b : Pos} {off m : Nat} (hd : VRel f d vd) (hs : (∃ c, d = .slice b off m c) ∨ (∃ c, d = .sliceO b off m c))
    {cs : List AVal} {cvs : List Value} (hc : VsRel f cs cvs) (h0 : m = 0 → cs = []) (hr : storeA L h b off cs = some h') :
    ∃ a cap w', vd = .slice (some a) m cap ∧ (storeCells a cvs 0).run P w = .ok () w' ∧ (cvs = [] → w' = w) ∧ HRel E f (hget L h') h'.next w' := by
  obtain ⟨p, hp, ⟨cap, rfl⟩ | ⟨rfl, a, rfl⟩⟩ := slice_of hd hs
  · obtain ⟨p', w', hp', g1, g2, g3⟩ := storeA_ok (P := P) hH hr hc
    rw [hp] at hp'; cases hp'
    refine ⟨_, cap, w', rfl, g1, ?_, by rw [g3]; exact g2⟩
    rintro rfl
    simp [storeCells] at g1
    exact g1.symm
  · have := h0 rfl
    subst this
    rw [VsRel] at hc; subst hc
    obtain ⟨p', w', hp', g1, g2, g3⟩ := storeA_ok (P := P) hH hr VsRel.nil
    simp [storeCells] at g1
    subst g1
    exact ⟨a, 0, w, rfl, by simp [storeCells], fun _ => rfl, by rw [g3]; exact g2⟩

theorem cp_ok (hH : HRel E f (hget L h) h.next w) {es : Nat} {d s : AVal} {vd vs : Value} {b b' : Pos} {off m off' n : Nat} (hd : VRel f d vd) (hs : VRel f s vs)
    (ed : (∃ c, d = .slice b off m c) ∨ (∃ c, d = .sliceO b off m c)) (es' : (∃ c, s = .slice b' off' n c) ∨ (∃ c, s = .sliceO b' off' n c)) {v : AVal} (hr : wCopy.cp L h es b off m b' off' n = .val v h') :
    ∃ base cap cvs w', vd = .slice (some base) m cap ∧ (Builtin.lenOf vs).run P w = .ok n w ∧ (Builtin.firstCells es (Nat.min n m) vs).run P w = .ok cvs w ∧ (storeCells base cvs.toList 0).run P w = .ok () w' ∧
      v = .int .i64 (.ofNat (Nat.min n m)) ∧ HRel E f (hget L h') h'.next w' := by
  unfold wCopy.cp at hr
  split at hr
  · rename_i c hca
    split at hr
    · rename_i cs hcs
      split at hr
      · rename_i h1 hst
        simp at hr; obtain ⟨rfl, rfl⟩ := hr
        obtain ⟨p', cs', e, fz, o, st, r, hg, hp', hw, hrel⟩ := cells_of hH hca
        have hlen : cs.length = Nat.min n m * es := by have := (takeN_some _ _ _ hcs); rw [this.2]; simp; omega
        have h0 : m = 0 → cs = [] := by
          intro e; subst e
          have : cs.length = 0 := by rw [hlen]; simp
          simpa using this
        obtain ⟨q, hq, hvs⟩ := slice_of hs es'
        rw [hp'] at hq; cases hq
        have hl := loadCells_of (P := P) hw hrel hcs
        obtain ⟨cvs, hf, hcv⟩ : ∃ cvs : Array Value, (Builtin.firstCells es (Nat.min n m) vs).run P w = .ok cvs w ∧ VsRel f cs cvs.toList := by
          rcases hvs with ⟨cap, rfl⟩ | ⟨rfl, a, rfl⟩
          · exact ⟨_, hl.2, hl.1⟩
          · have : cs = [] := by have : cs.length = 0 := by rw [hlen]; simp
                                 simpa using this
            subst this
            exact ⟨#[], by simp [Builtin.firstCells, loadCells, loadCellsFrom], VsRel.nil⟩
        obtain ⟨a, cap, w', rfl, g1, _, g2⟩ := storeAt_ok (P := P) hH hd ed hcv h0 hst
        refine ⟨a, cap, cvs, w', rfl, ?_, hf, g1, rfl, g2⟩
        rcases hvs with ⟨cap, rfl⟩ | ⟨rfl, a, rfl⟩ <;> simp [Builtin.lenOf]
      · simp at hr
    · simp at hr
  · simp at hr

theorem wCopy_ok (hA : A.Ok P) (hH : HRel E f (hget L h) h.next w) {ts : Array TypeId} {d s : AVal} {vd vs : Value} (hd : VRel f d vd) (hs : VRel f s vs) {v : AVal} (hr : wCopy A L h ts.toList d s = .val v h') (ty : TypeId) :
    ∃ f' v' w', (Builtin.copy_ ts ty #[vd, vs]).run P w = .ok v' w' ∧ f.le f' ∧ VRel f' v v' ∧ HRel E f' (hget L h') h'.next w' := by
  unfold wCopy at hr
  split at hr
  · rename_i t rest hts
    have ht := toList_get hts
    split at hr
    · rename_i elem hu
      split at hr
      · rename_i es hes
        have go : ∀ b off m, ((∃ c, d = .slice b off m c) ∨ (∃ c, d = .sliceO b off m c)) → wCopy.to L h es b off m s = .val v h' →
            ∃ f' v' w', (Builtin.copy_ ts ty #[vd, vs]).run P w = .ok v' w' ∧ f.le f' ∧ VRel f' v v' ∧ HRel E f' (hget L h') h'.next w' := by
          intro b off m ed hr
          have fin : ∀ b' off' n, ((∃ c, s = .slice b' off' n c) ∨ (∃ c, s = .sliceO b' off' n c)) → wCopy.cp L h es b off m b' off' n = .val v h' →
              ∃ f' v' w', (Builtin.copy_ ts ty #[vd, vs]).run P w = .ok v' w' ∧ f.le f' ∧ VRel f' v v' ∧ HRel E f' (hget L h') h'.next w' := by
            intro b' off' n es' hr
            obtain ⟨base, cap, cvs, w', rfl, g1, g2, g3, rfl, g4⟩ := cp_ok (P := P) hH hd hs ed es' hr
            refine ⟨f, .int .i64 ((Nat.min n m : Nat) : Int), w', ?_, f.le_refl, rfl, g4⟩
            simp [Builtin.copy_, ht, run_und hA hu, g1, run_size hA hes, g2, g3, goInt]
          unfold wCopy.to at hr
          split at hr
          · exact fin _ _ _ (.inl ⟨_, rfl⟩) hr
          · exact fin _ _ _ (.inr ⟨_, rfl⟩) hr
          · simp at hr; obtain ⟨rfl, rfl⟩ := hr
            rw [VRel] at hs; subst hs
            obtain ⟨p, hp, hvd⟩ := slice_of hd ed
            obtain ⟨a, cap, rfl⟩ : ∃ a cap, vd = .slice (some a) m cap := by
              rcases hvd with ⟨cap, rfl⟩ | ⟨rfl, a, rfl⟩
              · exact ⟨_, _, rfl⟩
              · exact ⟨_, _, rfl⟩
            refine ⟨f, .int .i64 ((0 : Nat) : Int), w, ?_, f.le_refl, rfl, hH⟩
            simp [Builtin.copy_, ht, run_und hA hu, Builtin.lenOf, run_size hA hes, Builtin.firstCells, goInt, storeCells]
          · simp at hr
        split at hr
        · exact go _ _ _ (.inl ⟨_, rfl⟩) hr
        · exact go _ _ _ (.inr ⟨_, rfl⟩) hr
        · simp at hr
      · simp at hr
    · simp at hr
  · simp at hr

theorem wClear_ok (hA : A.Ok P) (hH : HRel E f (hget L h) h.next w) {ts : Array TypeId} {x : AVal} {vx : Value} (hx : VRel f x vx) {v : AVal} (hr : wClear A L h ts.toList x = .val v h') (ty : TypeId) :
    ∃ w', (Builtin.clear_ ts ty #[vx]).run P w = .ok (.tuple #[]) w' ∧ v = undefA ∧ HRel E f (hget L h') h'.next w' := by
  unfold wClear at hr
  split at hr
  · rename_i t rest hts
    have ht := toList_get hts
    split at hr
    · rename_i elem hu
      split at hr
      · rename_i z hz
        obtain ⟨vz, hvz, rz⟩ := run_zero' (P := P) (f := f) hA hz
        have e1 : z.cells.length = vz.cells.size := by have := (VRel.cells rz).length; simpa using this
        have go : ∀ b off n, ((∃ c, x = .slice b off n c) ∨ (∃ c, x = .sliceO b off n c)) → storeA L h b off (repl n z.cells) = some h' → ∃ w', (Builtin.clear_ ts ty #[vx]).run P w = .ok (.tuple #[]) w' ∧ HRel E f (hget L h') h'.next w' := by
          intro b off n ed hr
          have hzero := zeros_rel (VRel.cells rz) n
          rw [e1] at hzero
          obtain ⟨a, cap, w', rfl, g1, g0, g2⟩ := storeAt_ok (P := P) hH hx ed hzero (by rintro rfl; rfl) hr
          refine ⟨w', ?_, g2⟩
          cases n with
          | zero =>
            have := g0 (by simp)
            subst this
            simp [Builtin.clear_, ht, run_und hA hu]
          | succ n =>
            have g1' : (storeCells a (Builtin.zeroCells vz.cells (n + 1)).toList 0).run P w = .ok () w' := g1
            simp only [Builtin.clear_, Sem.run_bind]
            simp [ht, run_und hA hu, hvz, g1']
        split at hr
        · split at hr
          · rename_i h1 hst
            simp at hr; obtain ⟨rfl, rfl⟩ := hr
            obtain ⟨w', g1, g2⟩ := go _ _ _ (.inl ⟨_, rfl⟩) hst
            exact ⟨w', g1, rfl, g2⟩
          · simp at hr
        · split at hr
          · rename_i h1 hst
            simp at hr; obtain ⟨rfl, rfl⟩ := hr
            obtain ⟨w', g1, g2⟩ := go _ _ _ (.inr ⟨_, rfl⟩) hst
            exact ⟨w', g1, rfl, g2⟩
          · simp at hr
        · simp at hr; obtain ⟨rfl, rfl⟩ := hr
          rw [VRel] at hx; subst hx
          exact ⟨w, by simp [Builtin.clear_, ht, run_und hA hu], rfl, hH⟩
        · simp at hr
      · simp at hr
    · simp at hr
  · simp at hr
end
end Go.Abs

namespace Go.Abs
set_option linter.unusedVariables false
set_option linter.unusedSimpArgs false
section
variable {A : AProg} {P : Program} {L : List (PTree AObj)} {E : Keep} {f : Inj} {h h' : Heap} {nx : Pos} {w : World}

theorem wUpdate_ok (hA : A.Ok P) (hH : HRel E f (hget L h) h.next w) {e : Env} {ρ : Operand → Value} {t : TypeId} {m k x : Operand} (henv : OpEnv f e ρ [m, k, x]) {v : AVal}
    (hr : wUpdate A L e h t m k x = .val v h') : ∃ w', (Instr.mapUpdate t (ρ m) (ρ k) (ρ x)).run P w = .ok () w' ∧ v = undefA ∧ HRel E f (hget L h') h'.next w' := by
  unfold wUpdate at hr
  split at hr
  · rename_i a b c ha hb hc
    split at hr
    · rename_i h1 hu
      simp at hr; obtain ⟨rfl, rfl⟩ := hr
      obtain ⟨w', g1, g2⟩ := updateA_ok (P := P) hA hH (henv m (by simp) _ ha) (henv k (by simp) _ hb) (henv x (by simp) _ hc) hu
      exact ⟨w', g1, rfl, g2⟩
    · simp at hr
  · simp at hr

theorem wBuiltin_ok (hA : A.Ok P) (hH : HRel E f (hget L h) h.next w) {e : Env} {ρ : Operand → Value} {o : Oper} {c : Call} {b : Builtin} (ho : o.op = .call c) (hb : c.callee = .builtin b) (henv : OpEnv f e ρ o.op.operands.toList) {v : AVal}
    (hr : wBuiltin A L e h b c.argTypes.toList c.args.toList = .val v h') : VOut E f L ((execOp ρ o).run P w) v h' := by
  have henv' : OpEnv f e ρ c.args.toList := by
    intro x hx
    refine henv x ?_
    rw [ho]
    simp only [Op.operands]
    obtain ⟨callee, args, ats⟩ := c
    simp only at hb; subst hb
    simpa [Call.operands] using hx
  rw [run_builtin ho hb]
  unfold wBuiltin at hr
  split at hr
  · split at hr
    · rename_i s x ha
      obtain ⟨vs, vx, e1, rs, rx⟩ := two_args henv' ha
      rw [e1]
      obtain ⟨f', v', w', g1, g2, g3, g4⟩ := wAppend_ok (P := P) hA hH rs rx hr o.type
      exact ⟨f', .value v', v', w', by simp [builtin, g1], .inl rfl, g2, g3, g4⟩
    · simp at hr
  · split at hr
    · rename_i s x ha
      obtain ⟨vs, vx, e1, rs, rx⟩ := two_args henv' ha
      rw [e1]
      obtain ⟨f', v', w', g1, g2, g3, g4⟩ := wCopy_ok (P := P) hA hH rs rx hr o.type
      exact ⟨f', .value v', v', w', by simp [builtin, g1], .inl rfl, g2, g3, g4⟩
    · simp at hr
  · split at hr
    · rename_i x ha
      obtain ⟨vx, e1, rx⟩ := one_arg henv' ha
      rw [e1]
      obtain ⟨w', g1, rfl, g4⟩ := wClear_ok (P := P) hA hH rx hr o.type
      exact ⟨f, .value undef, undef, w', by simp [builtin, g1]; rfl, .inl rfl, f.le_refl, undef_rel, g4⟩
    · simp at hr
  · split at hr
    · rename_i m k t rest ha hts
      obtain ⟨vm, vk, e1, rm, rk⟩ := two_args henv' ha
      rw [e1]
      split at hr
      · rename_i h1 hd
        simp at hr; obtain ⟨rfl, rfl⟩ := hr
        obtain ⟨w', g1, g4⟩ := deleteA_ok (P := P) hA hH rm rk hd c.argTypes (toList_get hts) o.type
        exact ⟨f, .value undef, undef, w', by simp [builtin, g1]; rfl, .inl rfl, f.le_refl, undef_rel, g4⟩
      · simp at hr
    · simp at hr
  · simp at hr
  · simp at hr

theorem clone_ok (hH : HRel E f (hget L h) h.next w) {args : List AVal} {vargs : Array Value} (ha : VsRel f args vargs.toList) {v : AVal} (hr : cloneA L h args = .val v h') :
    ∃ f' v' w', (Extern.MapsClone.clone vargs).run P w = .ok v' w' ∧ f.le f' ∧ VRel f' v v' ∧ HRel E f' (hget L h') h'.next w' := by
  unfold cloneA at hr
  split at hr
  · rename_i t b
    obtain ⟨x, l1, h1, ⟨y, rfl, p, hp, rfl⟩, h2⟩ := ha
    rw [VsRel] at h2; subst h2
    have : vargs = #[.iface t (.map (some p.block))] := by apply Array.ext'; simpa using h1
    subst this
    split at hr
    · rename_i es c hma
      simp at hr; obtain ⟨rfl, rfl⟩ := hr
      obtain ⟨p', ces, hg, hp', hw, hes, hborn⟩ := map_of hH hma
      rw [hp] at hp'; cases hp'
      have hle : f.le (f.upd h.next ⟨w.heap.size, 0, 0⟩) := Inj.le_upd (hH.next_none (Nat.le_refl _))
      refine ⟨f.upd h.next ⟨w.heap.size, 0, 0⟩, .iface t (.map (some w.heap.size)), w.alloc (.map ces c), ?_, hle, ⟨_, rfl, _, Inj.upd_same, rfl⟩, ?_⟩
      · show (do let .map entries clock ← getObj p.block | stuck "maps.clone: a map expected"
                 pure (.iface t (.map (some (← newObj (.map entries clock))))) : Sem Value).run P w = _
        simp [run_getObj_map hw]
      · rw [hget_new, next_new]
        exact hH.new rfl ⟨rfl, rfl, rfl⟩ ⟨ces, rfl, hes.mono hle, hborn⟩
    · simp at hr
  · simp at hr

/-- what an operation comes to, by what the evaluator says -/
def Out (A : AProg) (E : Keep) (f : Inj) (L : List (PTree AObj)) (h : Heap) (w : World) (res : Result Next) : ARes → Prop
  | .fail => True
  | .val v h' => VOut E f L res v h'
  | .enter g args => (∀ fn c, A.funcs.get (posOf g) = some fn → fn.body = some c → ∃ vargs, res = .ok (.enter g vargs) w ∧ VsRel f args vargs.toList)
  | .round l args => ∀ lp, hget L h l = some (.loop lp) → lp.params.length = args.length → ∃ p vargs tmps, f l = some p ∧ VsRel f args vargs ∧ ERel f lp.msk lp.nt lp.env tmps ∧
      res = .ok (.round p.block lp.fn ((lp.params.zip vargs).foldl (fun tmps (t, a) => tmps.setIfInBounds t a) tmps) lp.assign lp.body) w
  | .defer d => ∃ d', res = .ok (.defer d') w ∧ d.Rel f d'
  | .recover => res = .ok .recover w
  | .panic v => ∃ v', res = .halt (.panic v') w ∧ VRel f v v'
  | .next r m since seen left => ∃ a v w', a ∈ left ∧ res = .ok (.value v) w' ∧ VRel f (.tuple [.bool true, a.k, a.v]) v ∧ HRel E f (hget L (h.set r (.mapIter (some m) since (a.born :: seen)))) h.next w'

theorem callA_ok (hA : A.Ok P) (hH : HRel E f (hget L h) h.next w) {v : AVal} {vv : Value} {args : List AVal} {vargs : Array Value} (hv : VRel f v vv) (ha : VsRel f args vargs.toList) :
    Out A E f L h w ((do let d ← Deferred.ofValue vv vargs; invoke d.target d.args : Sem Next).run P w) (callA v args) := by
  unfold callA
  split
  · rename_i g first captured
    obtain ⟨a, b, rfl, h1, h2⟩ := hv
    intro fn c hfn hc
    refine ⟨a ++ vargs ++ b, ?_, by simpa using (h1.append ha).append h2⟩
    simp only [Deferred.ofValue, Sem.run_bind, Sem.run_pure, Result.andThen_ok, invoke]
    exact hA.calls g fn c hfn hc _ w
  · rename_i l
    obtain ⟨p, hp, rfl⟩ := hv
    intro lp hg hpl
    obtain ⟨p', ob, hp', hw, tmps, q, hq, hE, rfl⟩ := hH.objs _ _ hg rfl
    rw [hp] at hp'; cases hp'
    refine ⟨p, vargs.toList, tmps, hp, ha, hE, ?_⟩
    have hlen := ha.length
    simp only [Deferred.ofValue, Sem.run_bind, Sem.run_pure, Result.andThen_ok, invoke, Instr.yield]
    simp [Instr.getLoop, getObj, Sem.run, hw]
    rw [if_pos (by simp at hlen; omega)]
    congr 2
    have e1 : min lp.params.length vargs.size = (lp.params.toArray.zip vargs).size := by simp
    rw [e1, ← Array.foldl_toList]
    simp
  · trivial

theorem ok_ne {α : Type} {a b : α} {w w' : World} : (Result.ok a w = Result.ok b w') → a = b := by intro h; cases h; rfl

theorem appendNone_no {s : AVal} {r : ARes} (hr : appendNone h s = r) : r = .fail ∨ ∃ v h', r = .val v h' := by
  unfold appendNone at hr
  split at hr
  · subst hr; simp
  · rw [cond_eq] at hr; split at hr <;> subst hr <;> simp
  · subst hr; simp
  · subst hr; simp
theorem appendTo_no {es n : Nat} {s : AVal} {cs : List AVal} {r : ARes} (hr : appendTo L h es s cs n = r) : r = .fail ∨ ∃ v h', r = .val v h' := by
  unfold appendTo at hr
  split at hr
  · subst hr; simp
  · rw [cond_eq] at hr; split at hr
    · split at hr <;> subst hr <;> simp
    · split at hr
      · split at hr <;> subst hr <;> simp
      · subst hr; simp
  · rw [cond_eq] at hr; split at hr
    · split at hr
      · rw [cond_eq] at hr; split at hr
        · split at hr <;> subst hr <;> simp
        · split at hr <;> subst hr <;> simp
      · subst hr; simp
    · subst hr; simp
  · subst hr; simp
theorem wAppend_no (ts : List TypeId) (s x : AVal) {r : ARes} (hr : wAppend A L h ts s x = r) : r = .fail ∨ ∃ v h', r = .val v h' := by
  unfold wAppend at hr
  split at hr
  · split at hr
    · split at hr
      · rw [cond_eq] at hr; split at hr
        · split at hr
          · rw [cond_eq] at hr; split at hr
            · split at hr
              · exact appendNone_no hr
              · split at hr
                · subst hr; simp
                · exact appendTo_no hr
            · subst hr; simp
          · subst hr; simp
          · split at hr
            · rw [cond_eq] at hr; split at hr
              · split at hr
                · exact appendNone_no hr
                · split at hr
                  · subst hr; simp
                  · exact appendTo_no hr
              · subst hr; simp
            · subst hr; simp
        · subst hr; simp
      · subst hr; simp
    · subst hr; simp
  · subst hr; simp
theorem cp_no {es : Nat} {b b' : Pos} {off m off' n : Nat} {r : ARes} (hr : wCopy.cp L h es b off m b' off' n = r) : r = .fail ∨ ∃ v h', r = .val v h' := by
  unfold wCopy.cp at hr
  split at hr
  · split at hr
    · split at hr <;> subst hr <;> simp
    · subst hr; simp
  · subst hr; simp
theorem to_no {es : Nat} {b : Pos} {off m : Nat} {s : AVal} {r : ARes} (hr : wCopy.to L h es b off m s = r) : r = .fail ∨ ∃ v h', r = .val v h' := by
  unfold wCopy.to at hr
  split at hr
  · exact cp_no hr
  · exact cp_no hr
  · subst hr; simp
  · subst hr; simp
theorem wCopy_no (ts : List TypeId) (d s : AVal) {r : ARes} (hr : wCopy A L h ts d s = r) : r = .fail ∨ ∃ v h', r = .val v h' := by
  unfold wCopy at hr
  split at hr
  · split at hr
    · split at hr
      · split at hr
        · exact to_no hr
        · exact to_no hr
        · subst hr; simp
      · subst hr; simp
    · subst hr; simp
  · subst hr; simp
theorem wClear_no (ts : List TypeId) (x : AVal) {r : ARes} (hr : wClear A L h ts x = r) : r = .fail ∨ ∃ v h', r = .val v h' := by
  unfold wClear at hr
  split at hr
  · split at hr
    · split at hr
      · split at hr
        · split at hr <;> subst hr <;> simp
        · split at hr <;> subst hr <;> simp
        · subst hr; simp
        · subst hr; simp
      · subst hr; simp
    · subst hr; simp
  · subst hr; simp

/-- the operations that are neither reading nor making a block -/
theorem writes_ok (hA : A.Ok P) (hH : HRel E f (hget L h) h.next w) {e : Env} {ρ : Operand → Value} {o : Oper} (hρ : ∀ g, ρ (.func g) = .func (.func g) #[] #[]) (henv : OpEnv f e ρ o.op.operands.toList) :
    Out A E f L h w ((execOp ρ o).run P w) (writes A L e h o.op) := by
  unfold writes
  split
  · rename_i t a x ho
    have hno : ∀ r, wStore A L e h t a x = r → r = .fail ∨ ∃ v h', r = .val v h' := by
      intro r hr
      unfold wStore at hr
      split at hr
      · split at hr
        · rw [cond_eq] at hr; split at hr
          · split at hr <;> subst hr <;> simp
          · subst hr; simp
        · subst hr; simp
      · subst hr; simp
    rcases hno _ rfl with hr | ⟨v, h', hr⟩
    · rw [hr]; trivial
    · rw [hr]; exact wStore_ok hA hH ho henv hr
  · rename_i t m k x ho
    have hno : ∀ r, wUpdate A L e h t m k x = r → r = .fail ∨ ∃ v h', r = .val v h' := by
      intro r hr
      unfold wUpdate at hr
      split at hr
      · split at hr <;> subst hr <;> simp
      · subst hr; simp
    rcases hno _ rfl with hr | ⟨v, h', hr⟩
    · rw [hr]; trivial
    · rw [hr]
      obtain ⟨w', g1, rfl, g2⟩ := wUpdate_ok (P := P) hA hH (ρ := ρ) (t := t) (m := m) (k := k) (x := x) (by rw [ho] at henv; simpa [Op.operands] using henv) hr
      have : (execOp ρ o).run P w = .ok .skip w' := by simp [execOp, ho, g1]
      rw [this]
      exact VOut.skip g2
  · rename_i t m k x ho
    have hno : ∀ r, wUpdate A L e h t m k x = r → r = .fail ∨ ∃ v h', r = .val v h' := by
      intro r hr
      unfold wUpdate at hr
      split at hr
      · split at hr <;> subst hr <;> simp
      · subst hr; simp
    rcases hno _ rfl with hr | ⟨v, h', hr⟩
    · rw [hr]; trivial
    · rw [hr]
      obtain ⟨w', g1, rfl, g2⟩ := wUpdate_ok (P := P) hA hH (ρ := ρ) (t := t) (m := m) (k := k) (x := x) (by rw [ho] at henv; simpa [Op.operands] using henv) hr
      have : (execOp ρ o).run P w = .ok .skip w' := by simp [execOp, ho, g1]
      rw [this]
      exact VOut.skip g2
  · rename_i t x ho
    have hno : ∀ r, wRange A L e h t x = r → r = .fail ∨ ∃ v h', r = .val v h' := by
      intro r hr
      unfold wRange at hr
      split at hr
      · subst hr; simp
      · subst hr; simp
      · split at hr <;> subst hr <;> simp
      · subst hr; simp
    rcases hno _ rfl with hr | ⟨v, h', hr⟩
    · rw [hr]; trivial
    · rw [hr]; exact wRange_ok hA hH ho henv hr
  · rename_i it isS ho
    have hno : ∀ r, wNext L e h it isS = r → r = .fail ∨ (∃ v h', r = .val v h') ∨ ∃ a b c d e, r = .next a b c d e := by
      intro r hr
      unfold wNext at hr
      split at hr
      · split at hr
        · split at hr
          · subst hr; simp
          · rw [cond_eq] at hr; split at hr <;> subst hr <;> simp
        · subst hr; simp
        · split at hr
          · rw [cond_eq] at hr; split at hr
            · split at hr <;> subst hr <;> simp
            · subst hr; simp
          · subst hr; simp
        · subst hr; simp
      · subst hr; simp
    rcases hno _ rfl with hr | ⟨v, h', hr⟩ | ⟨a, b, c, d, l, hr⟩
    · rw [hr]; trivial
    · rw [hr]; exact wNext_val_ok hA hH ho henv hr
    · rw [hr]; exact wNext_next_ok hA hH ho henv hr
  · rename_i c ho
    unfold wCall
    split
    · rename_i b hb
      have hno : ∀ r, wBuiltin A L e h b c.argTypes.toList c.args.toList = r → r = .fail ∨ (r = .recover ∧ b = .recover) ∨ (∃ v h', r = .val v h') := by
        intro r hr
        unfold wBuiltin at hr
        split at hr
        · split at hr
          · rcases wAppend_no (A := A) (L := L) (h := h) _ _ _ hr with hr | hr
            · exact .inl hr
            · exact .inr (.inr hr)
          · subst hr; simp
        · split at hr
          · rcases wCopy_no (A := A) (L := L) (h := h) _ _ _ hr with hr | hr
            · exact .inl hr
            · exact .inr (.inr hr)
          · subst hr; simp
        · split at hr
          · rcases wClear_no (A := A) (L := L) (h := h) _ _ hr with hr | hr
            · exact .inl hr
            · exact .inr (.inr hr)
          · subst hr; simp
        · split at hr
          · split at hr <;> subst hr <;> simp
          · subst hr; simp
        · subst hr; simp
        · subst hr; simp
      rcases hno _ rfl with hr | ⟨hr, rfl⟩ | ⟨v, h', hr⟩
      · rw [hr]; trivial
      · rw [hr, run_builtin ho hb]
        simp [builtin, Out]
      · rw [hr]; exact wBuiltin_ok hA hH ho hb henv hr
    · rename_i x hx
      obtain ⟨callee, args, ats⟩ := c
      simp only at hx; subst hx
      have henv' : OpEnv f e ρ args.toList := fun y hy => henv y (by rw [ho]; simp [Op.operands, Call.operands]; exact .inr (by simpa using hy))
      split
      · rename_i v l hv hl
        have ra := evalAll_ok henv' hl
        have rv := henv x (by rw [ho]; simp [Op.operands, Call.operands]) _ hv
        have hrun : (execOp ρ o).run P w = (do let d ← Deferred.ofValue (ρ x) (args.map ρ); invoke d.target d.args : Sem Next).run P w := by
          simp [execOp, ho, resolve]
        rw [hrun]
        rw [cond_eq]
        split
        · rename_i hcl
          unfold isClone at hcl
          split at hcl
          · rename_i g
            split at hcl
            · rename_i u hu
              have hno : ∀ r, cloneA L h l = r → r = .fail ∨ (∃ v h', r = .val v h') := by
                intro r hr
                unfold cloneA at hr
                split at hr
                · split at hr <;> subst hr <;> simp
                · subst hr; simp
              rcases hno _ rfl with hr | ⟨v, h', hr⟩
              · rw [hr]; trivial
              · rw [hr]
                obtain ⟨f', v', w', g1, g2, g3, g4⟩ := clone_ok (P := P) hH (vargs := args.map ρ) (by simpa using ra) hr
                refine ⟨f', .value v', v', w', ?_, .inl rfl, g2, g3, g4⟩
                rw [hρ]
                simp only [Deferred.ofValue, Sem.run_bind, Sem.run_pure, Result.andThen_ok, invoke]
                rw [hA.clones g u hu]
                simp [g1]
            · simp at hcl
          · simp at hcl
        · exact callA_ok hA hH rv (by simpa using ra)
      · trivial
    · trivial
  · rename_i c ho
    unfold wDefer
    split
    · rename_i x hx
      obtain ⟨callee, args, ats⟩ := c
      simp only at hx; subst hx
      have henv' : OpEnv f e ρ args.toList := fun y hy => henv y (by rw [ho]; simp [Op.operands, Call.operands]; exact .inr (by simpa using hy))
      split
      · rename_i g first captured l hv hl
        have ra := evalAll_ok henv' hl
        obtain ⟨a, b, e1, h1, h2⟩ := henv x (by rw [ho]; simp [Op.operands, Call.operands]) _ hv
        refine ⟨{ target := .fn (.func g) b, args := a ++ args.map ρ }, ?_, ⟨b, a ++ args.map ρ, rfl, h2, by simpa using h1.append ra⟩⟩
        simp [execOp, ho, resolve, e1, Deferred.ofValue]
      · trivial
    · trivial
  · rename_i x ho
    unfold wPanic
    split
    · rename_i t v hx
      have r := henv x (by rw [ho]; simp [Op.operands]) _ hx
      have r' := r
      obtain ⟨y, e1, _⟩ := r
      refine ⟨ρ x, ?_, r'⟩
      simp [execOp, ho, Instr.panic, e1, goPanic, Sem.run]
    · trivial
  · trivial
end
end Go.Abs

namespace Go.Abs
set_option linter.unusedVariables false
set_option linter.unusedSimpArgs false

/-! ## frames -/
def IRel (f : Inj) : AItem → Item → Prop
  | .code c, x => x = .code c
  | .inBlock id, x => x = .inBlock id
  | .inLoop b, x => x = .inLoop b
  | .inScope b, x => x = .inScope b
  | .inRegion w rest, x => ∃ l, x = .inRegion w l ∧ l.map (fun i => w[i]?) = rest.map some
  | .inRangeFunc l, x => ∃ p, f l = some p ∧ x = .inRangeFunc p.block
  | .endRangeFunc l, x => ∃ p, f l = some p ∧ x = .endRangeFunc p.block
  | .beginRound, x => x = .beginRound
  | .lost, _ => False
def TRel (f : Inj) : List AItem → List Item → Prop
  | [], t => t = []
  | a :: l, t => ∃ x t', t = x :: t' ∧ IRel f a x ∧ TRel f l t'
/-- nothing that calls stands in front -/
def NoCall (t : List Item) : Prop := ∀ d wr r s k, t ≠ .call d wr r s :: k
def TdRel (f : Inj) (a : List AItem) (t : List Item) : Prop := TRel f a t ∨ (a = [.lost] ∧ NoCall t)
theorem TdRel.left {f : Inj} {x : AItem} {k : List AItem} {t : List Item} (h : TdRel f (x :: k) t) (hx : x ≠ .lost) : TRel f (x :: k) t := h.resolve_right (fun h => hx (by simpa using congrArg List.head? h.1))
theorem TdRel.nil {f : Inj} {t : List Item} (h : TdRel f [] t) : t = [] := h.resolve_right (fun h => by simp at h)
def ChRel (f : Inj) : List (AVal × Bool) → List PanicEntry → Prop
  | [], t => t = []
  | a :: l, t => ∃ v t', t = { v := v, recovered := a.2 } :: t' ∧ VRel f a.1 v ∧ ChRel f l t'
def MoRel (f : Inj) : AMode → FrameMode → Prop
  | .run, m => m = .run
  | .returning, m => m = .returning
  | .panicking c, m => ∃ c', m = .panicking c' ∧ ChRel f c c'
def RndRel (f : Inj) : Option Pos → Option Nat → Prop
  | none, r => r = none
  | some l, r => ∃ p, f l = some p ∧ r = some p.block

structure FrRel (P : Program) (f : Inj) (a : AFrame) (fr : Frame) : Prop where
  fn : fr.fn = a.fi.fn
  env : ERel f a.fi.msk a.fi.nt a.env fr.tmps
  todo : TdRel f a.todo fr.todo
  defers : DsRel f a.defers fr.defers
  mode : MoRel f a.mode fr.mode
  kind : fr.kind = if a.fi.dk then .deferred else .normal
  rnd : RndRel f a.fi.rnd fr.roundOf
  rndk : a.fi.rnd.isSome = true → a.fi.dk = false
  fnok : a.fi.rnd = none → ∃ fn, P.funcs[a.fi.fn]? = some fn
def CsRel (P : Program) (f : Inj) : List AFrame → List Frame → Prop
  | [], t => t = []
  | a :: l, t => ∃ x t', t = x :: t' ∧ FrRel P f a x ∧ CsRel P f l t'

section
variable {P : Program} {f g : Inj} (h : f.le g)
include h
theorem IRel.mono {a : AItem} {x : Item} (r : IRel f a x) : IRel g a x := by
  cases a with
  | inRangeFunc l => obtain ⟨p, hp, e⟩ := r; exact ⟨p, h _ _ hp, e⟩
  | endRangeFunc l => obtain ⟨p, hp, e⟩ := r; exact ⟨p, h _ _ hp, e⟩
  | _ => exact r
theorem TRel.mono : ∀ {a : List AItem} {t : List Item}, TRel f a t → TRel g a t := by
  intro a
  induction a with
  | nil => intro t r; exact r
  | cons x a ih => intro t r; obtain ⟨y, t', rfl, r, s⟩ := r; exact ⟨y, t', rfl, r.mono h, ih s⟩
theorem ChRel.mono : ∀ {a : List (AVal × Bool)} {t : List PanicEntry}, ChRel f a t → ChRel g a t := by
  intro a
  induction a with
  | nil => intro t r; exact r
  | cons x a ih => intro t r; obtain ⟨y, t', rfl, r, s⟩ := r; exact ⟨y, t', rfl, VRel.mono h _ _ r, ih s⟩
theorem MoRel.mono {a : AMode} {m : FrameMode} (r : MoRel f a m) : MoRel g a m := by
  cases a with
  | panicking c => obtain ⟨c', e, r⟩ := r; exact ⟨c', e, r.mono h⟩
  | _ => exact r
theorem RndRel.mono {a : Option Pos} {m : Option Nat} (r : RndRel f a m) : RndRel g a m := by
  cases a with
  | some c => obtain ⟨c', e, r⟩ := r; exact ⟨c', h _ _ e, r⟩
  | _ => exact r
theorem FrRel.mono {a : AFrame} {fr : Frame} (r : FrRel P f a fr) : FrRel P g a fr :=
  ⟨r.fn, r.env.mono h, r.todo.imp (TRel.mono h) id, r.defers.mono h, r.mode.mono h, r.kind, r.rnd.mono h, r.rndk, r.fnok⟩
theorem CsRel.mono : ∀ {a : List AFrame} {t : List Frame}, CsRel P f a t → CsRel P g a t := by
  intro a
  induction a with
  | nil => intro t r; exact r
  | cons x a ih => intro t r; obtain ⟨y, t', rfl, r, s⟩ := r; exact ⟨y, t', rfl, r.mono h, ih s⟩
end

section
variable {A : AProg} {P : Program} {L : List (PTree AObj)} {E : Keep} {f : Inj} {h h' : Heap} {nx : Pos} {w : World}

theorem rget_cons (t : Nat) (v : AVal) (l : List (Nat × AVal)) (k : Nat) : rget ((t, v) :: l) k = if t = k then some v else rget l k := by
  simp only [rget, cond_eq, Nat.beq_eq]

theorem Env.get_cons (d : Nat) (v : AVal) (rc : List (Nat × AVal)) (tm : PTree AVal) (t : Nat) : (⟨(d, v) :: rc, tm⟩ : Env).get t = if d = t then some v else (⟨rc, tm⟩ : Env).get t := by
  simp only [Env.get, rget_cons]
  by_cases h : d = t
  · simp [h]
  · simp [h]

/-- what was come to is laid down -/
def putDst (tmps : Array Value) (d : Option Tmp) (v : Value) : Array Value :=
  match d with
  | some d => tmps.setIfInBounds d v
  | none => tmps

theorem ERel.set {msk nt : Nat} {e e' : Env} {tmps : Array Value} {d : Option Tmp} {v : AVal} {v' : Value} (he : ERel f msk nt e tmps) (hv : VRel f v v') (hs : setDst nt d v e = some e') :
    ERel f msk nt e' (putDst tmps d v') := by
  cases d with
  | none => simp [setDst] at hs; subst hs; exact he
  | some d =>
    simp only [setDst] at hs
    rw [cond_eq] at hs
    split at hs
    · rename_i hd
      have hd : @LT.lt Nat _ d nt := Nat.lt_of_succ_le (Nat.le_of_ble_eq_true hd)
      obtain ⟨rc, tm⟩ := e
      simp at hs; subst hs
      have hnt := he.nt
      refine ⟨?_, by simpa [putDst] using hnt, he.stay⟩
      intro t u hu
      rw [Env.get_cons] at hu
      split at hu
      · rename_i e; subst e; simp at hu; subst hu
        exact ⟨v', by simp only [putDst]; rw [Array.getElem?_setIfInBounds, if_pos rfl, if_pos (Nat.lt_of_lt_of_le hd hnt)], hv⟩
      · rename_i hne
        obtain ⟨u', a, b⟩ := he.get t u hu
        refine ⟨u', ?_, b⟩
        simp only [putDst, Array.getElem?_setIfInBounds]
        rw [if_neg hne]; exact a
    · simp at hs

theorem put_get (t : PTree AVal) (a b : Nat) (v : AVal) : (t.put (posOf a) v).get (posOf b) = if a = b then some v else t.get (posOf b) := by
  rw [PTree.get_put]
  by_cases h : a = b
  · subst h; simp
  · rw [if_neg h, if_neg]
    intro e
    exact h (posOf_inj e)

theorem flush_get {msk : Nat} {tm : PTree AVal} (hst : ∀ t v, tm.get (posOf t) = some v → Nat.testBit msk t = true) : ∀ (rc : List (Nat × AVal)) (t : Nat) (v : AVal), (flush msk rc tm).get (posOf t) = some v →
    (⟨rc, tm⟩ : Env).get t = some v ∧ Nat.testBit msk t = true := by
  intro rc
  induction rc with
  | nil => intro t v h; exact ⟨by simpa [flush, Env.get, rget] using h, hst t v (by simpa [flush] using h)⟩
  | cons x rc ih =>
    intro t v h
    obtain ⟨d, u⟩ := x
    simp only [flush, stay, cond_eq] at h
    rw [Env.get_cons]
    split at h
    · rename_i hb
      rw [put_get] at h
      split at h
      · rename_i e; subst e; simp at h; subst h; exact ⟨by simp, hb⟩
      · rename_i hne; rw [if_neg hne]; exact ih t v h
    · rename_i hb
      have := ih t v h
      rw [if_neg (by rintro rfl; exact hb this.2)]
      exact this

theorem ERel.flush {msk nt : Nat} {e : Env} {tmps : Array Value} (he : ERel f msk nt e tmps) : ERel f msk nt ⟨[], Abs.flush msk e.rc e.tm⟩ tmps where
  get t v hv := by
    have : (Abs.flush msk e.rc e.tm).get (posOf t) = some v := by simpa [Env.get, rget] using hv
    obtain ⟨h1, _⟩ := flush_get he.stay e.rc t v this
    exact he.get t v h1
  nt := he.nt
  stay t v hv := (flush_get he.stay e.rc t v hv).2

theorem ERel.less {msk nt : Nat} {e e' : Env} {tmps : Array Value} (he : ERel f msk nt e tmps) (h : ∀ t v, e'.get t = some v → e.get t = some v) (hs : ∀ t v, e'.tm.get (posOf t) = some v → Nat.testBit msk t = true) : ERel f msk nt e' tmps :=
  ⟨fun t v hv => he.get t v (h t v hv), he.nt, hs⟩

end
end Go.Abs

namespace Go.Abs
set_option linter.unusedVariables false
set_option linter.unusedSimpArgs false

/-- the program's variables lie where they lie -/
def GRel (f : Inj) : Prop := ∀ g, g < 32 → ∃ p, f (posOf g) = some p ∧ p.block = g ∧ p.base = 0
theorem GRel.mono {f g : Inj} (h : f.le g) (r : GRel f) : GRel g := fun i hi => let ⟨p, a, b⟩ := r i hi; ⟨p, h _ _ a, b⟩

section
variable {A : AProg} {P : Program} {L : List (PTree AObj)} {E : Keep} {f : Inj} {h h' : Heap} {nx : Pos} {w : World}

theorem env_ok {msk nt : Nat} {e : Env} {fr : Frame} (he : ERel f msk nt e fr.tmps) (hg : GRel f) (l : List Operand) : OpEnv f e fr.eval l := by
  intro x _ v hv
  cases x with
  | tmp t =>
    obtain ⟨v', h1, h2⟩ := he.get t v hv
    simp only [Frame.eval, Array.getD_eq_getD_getElem?, h1]
    exact h2
  | const c => exact ofValue_rel c v hv
  | global g =>
    simp only [aeval, cond_eq] at hv
    split at hv
    · rename_i hlt
      have hlt : g < 32 := Nat.lt_of_succ_le (Nat.le_of_ble_eq_true hlt)
      simp at hv; subst hv
      obtain ⟨p, h1, h2, h3⟩ := hg g hlt
      refine ⟨p, h1, ?_⟩
      simp [Frame.eval, h2, h3]
    · simp at hv
  | func g => simp [aeval] at hv; subst hv; exact ⟨#[], #[], rfl, rfl, rfl⟩

theorem aop_ok (hA : A.Ok P) (hH : HRel E f (hget L h) h.next w) {e : Env} {fr : Frame} {o : Oper} (henv : OpEnv f e fr.eval o.op.operands.toList) :
    Out A E f L h w ((execOp fr.eval o).run P w) (aop A L e h o.op) := by
  unfold aop
  split
  · split
    · rename_i v hv
      obtain ⟨v', h1, h2⟩ := quiet_ok (P := P) hA hH henv hv
      rw [h1]
      exact VOut.value h2 hH
    · trivial
  · split
    · rename_i ob m hm
      obtain ⟨v, w', h1, h2⟩ := fresh_ok (P := P) (w := w) hA henv hm
      obtain ⟨x, room, h3, h4⟩ := h2.ex
      rw [h1]
      have hle : f.le (f.upd h.next ⟨w.heap.size, 0, room⟩) := Inj.le_upd (hH.next_none (Nat.le_refl _))
      obtain ⟨h5, h6⟩ := h4 _ h.next hle Inj.upd_same
      refine ⟨_, .value v, v, w', rfl, .inl rfl, hle, h6, ?_⟩
      rw [hget_new, next_new]
      exact hH.new h3 h2.same h5
    · trivial
  · exact writes_ok hA hH (fun _ => rfl) henv

/-! ## one operation of a region -/
theorem stepG_oper {fr : Frame} {cs : List Frame} {ops : Array Oper} {i : Nat} {is : List Nat} {k : List Item} {o : Oper} (hm : fr.mode = .run) (ht : fr.todo = .inRegion ops (i :: is) :: k) (ho : ops[i]? = some o)
    (hw : Region.wanted o (yielded ops fr.tmps) = true) (hr : fr.roundOf = none ∨ ∀ c, o.op ≠ .defer c) :
    stepG P true { frame := fr, callers := cs, status := .running, dying := none } w = stepG.apply P true fr cs none (execOp fr.eval o) w := by
  have h1 : stepG P true { frame := fr, callers := cs, status := .running, dying := none } w = stepG.oper P true fr cs none w := by
    simp [stepG, hm, stepG.exec, ht, ho, hw]
  rw [h1]
  unfold stepG.oper
  simp only [Frame.oper?, ht, ho]
  rcases hr with hr | hr
  · rw [hr]
  · cases hro : fr.roundOf with
    | none => rfl
    | some l =>
      cases hop : o.op <;> first | rfl | exact absurd hop (hr _)

theorem step_skipped {fr : Frame} {cs : List Frame} {ops : Array Oper} {i : Nat} {is : List Nat} {k : List Item} {o : Oper} (hm : fr.mode = .run) (ht : fr.todo = .inRegion ops (i :: is) :: k) (ho : ops[i]? = some o)
    (hw : Region.wanted o (yielded ops fr.tmps) = false) : step P (lone fr cs w) = .next (lone (fr.finish undef) cs w) :=
  step_lone_go (by simp [stepG, hm, stepG.exec, ht, ho, hw])

theorem FrRel.inRegion {fi : FInfo} {e : Env} {ops : Array Oper} {o : Oper} {rest : List Oper} {k : List AItem} {ds : List ADef} {m : AMode} {fr : Frame} (h : FrRel P f ⟨fi, e, .inRegion ops (o :: rest) :: k, ds, m⟩ fr) :
    ∃ i is k', fr.todo = .inRegion ops (i :: is) :: k' ∧ ops[i]? = some o ∧ is.map (fun i => ops[i]?) = rest.map some ∧ TRel f k k' := by
  obtain ⟨x, k', h1, ⟨l, rfl, h2⟩, h3⟩ := h.todo.left (by simp)
  cases l with
  | nil => simp at h2
  | cons i is =>
    simp only [List.map_cons, List.cons.injEq] at h2
    exact ⟨i, is, k', h1, h2.1, h2.2, h3⟩

theorem finish_region {fi : FInfo} {e e' : Env} {ops : Array Oper} {o : Oper} {rest : List Oper} {k : List AItem} {ds : List ADef} {m : AMode} {fr : Frame} {v : AVal} {v' : Value}
    (h : FrRel P f ⟨fi, e, .inRegion ops (o :: rest) :: k, ds, m⟩ fr) (hv : VRel f v v') (hs : setDst fi.nt o.dst v e = some e') :
    FrRel P f ⟨fi, e', .inRegion ops rest :: k, ds, m⟩ (fr.finish v') := by
  obtain ⟨i, is, k', ht, ho, his, hk⟩ := h.inRegion
  have hf : fr.finish v' = { fr with tmps := putDst fr.tmps o.dst v', todo := .inRegion ops is :: k' } := by
    unfold Frame.finish
    rw [ht]
    simp only [ho, Option.bind_some]
    rfl
  rw [hf]
  exact ⟨h.fn, h.env.set hv hs, .inl ⟨_, _, rfl, ⟨is, rfl, his⟩, hk⟩, h.defers, h.mode, h.kind, h.rnd, h.rndk, h.fnok⟩

theorem awanted_ok {msk nt : Nat} {e : Env} {tmps : Array Value} {ops : Array Oper} {o : Oper} {b : Bool} (he : ERel f msk nt e tmps) (h : awanted o.guard ops e = some b) : Region.wanted o (yielded ops tmps) = b := by
  unfold awanted at h
  unfold Region.wanted
  split at h
  · rename_i hg; simp at h; subst h; rw [hg]
  · rename_i j want hg
    rw [hg]
    simp only
    split at h
    · rename_i b' hy
      simp at h; subst h
      unfold ayielded at hy
      split at hy
      · rename_i o' ho'
        split at hy
        · rename_i d hd
          have hn : ops[j]? = some o' := by rw [← Array.getElem?_toList]; rw [nth_eq] at ho'; exact ho'
          split at hy
          · rename_i x hx
            simp at hy; subst hy
            obtain ⟨v', h1, h2⟩ := he.get d _ hx
            rw [VRel] at h2; subst h2
            simp only [yielded, hn, Option.bind_some, hd, h1]
            cases x <;> cases want <;> rfl
          · simp at hy
          · simp at hy
        · simp at hy
      · simp at hy
    · rename_i hy
      simp at h; subst h
      unfold ayielded at hy
      split at hy
      · rename_i o' ho'
        split at hy
        · rename_i d hd
          have hn : ops[j]? = some o' := by rw [← Array.getElem?_toList]; rw [nth_eq] at ho'; exact ho'
          split at hy
          · simp at hy
          · rename_i hx
            obtain ⟨v', h1, a, rfl, h2⟩ := he.get d _ hx
            simp only [yielded, hn, Option.bind_some, hd, h1]
            rfl
          · simp at hy
        · simp at hy
      · simp at hy
    · simp at h

theorem step_value {fr : Frame} {cs : List Frame} {ops : Array Oper} {i : Nat} {is : List Nat} {k : List Item} {o : Oper} {n : Next} {v : Value} {w' : World} (hm : fr.mode = .run) (ht : fr.todo = .inRegion ops (i :: is) :: k) (ho : ops[i]? = some o)
    (hw : Region.wanted o (yielded ops fr.tmps) = true) (hr : (execOp fr.eval o).run P w = .ok n w') (hn : n = .value v ∨ (n = .skip ∧ v = undef)) (hd : fr.roundOf = none ∨ ∀ c, o.op ≠ .defer c) :
    step P (lone fr cs w) = .next (lone (fr.finish v) cs w') := by
  refine step_lone_go ?_
  rw [stepG_oper hm ht ho hw hd]
  rcases hn with rfl | ⟨rfl, rfl⟩ <;> simp [stepG.apply, hr]

theorem not_defer {e : Env} {op : Op} {r : ARes} (hr : aop A L e h op = r) (hne : ∀ d, r ≠ .defer d) (hf : r ≠ .fail) : ∀ c, op ≠ .defer c := by
  rintro c rfl
  simp only [aop, kindOf, writes, wDefer] at hr
  split at hr
  · split at hr
    · exact hne _ hr.symm
    · exact hf hr.symm
  · exact hf hr.symm

/-- what a row of operations comes to -/
def OpsOut (A : AProg) (P : Program) (E : Keep) (L : List (PTree AObj)) (f : Inj) (fi : FInfo) (ops : Array Oper) (k : List AItem) (ds : List ADef) (fr : Frame) (cs : List Frame) (w : World) : ROps → Prop
  | .fail => True
  | .done e h => ∃ f' fr' w', Steps P (lone fr cs w) (lone fr' cs w') ∧ f.le f' ∧ FrRel P f' ⟨fi, e, .inRegion ops [] :: k, ds, .run⟩ fr' ∧ HRel E f' (hget L h) h.next w'
  | .stop e h rest r => ∃ f' fr' w' o rest', Steps P (lone fr cs w) (lone fr' cs w') ∧ f.le f' ∧ FrRel P f' ⟨fi, e, .inRegion ops rest :: k, ds, .run⟩ fr' ∧ HRel E f' (hget L h) h.next w' ∧
      rest = o :: rest' ∧ Region.wanted o (yielded ops fr'.tmps) = true ∧ aop A L e h o.op = r ∧ Out A E f' L h w' ((execOp fr'.eval o).run P w') r

theorem OpsOut.head {fi : FInfo} {ops : Array Oper} {k : List AItem} {ds : List ADef} {fr fr1 : Frame} {cs : List Frame} {w1 : World} {f1 : Inj} {r : ROps} (hs : Steps P (lone fr cs w) (lone fr1 cs w1)) (hf : f.le f1)
    (h : OpsOut A P E L f1 fi ops k ds fr1 cs w1 r) : OpsOut A P E L f fi ops k ds fr cs w r := by
  cases r with
  | fail => trivial
  | done e h' => obtain ⟨f', fr', w', a, b, c⟩ := h; exact ⟨f', fr', w', hs.trans a, Inj.le_trans hf b, c⟩
  | stop e h' rest r => obtain ⟨f', fr', w', o, rest', a, b, c⟩ := h; exact ⟨f', fr', w', o, rest', hs.trans a, Inj.le_trans hf b, c⟩

theorem aops_ok (hA : A.Ok P) {fi : FInfo} {ops : Array Oper} {k : List AItem} {ds : List ADef} {cs : List Frame} : ∀ (l : List Oper) (e : Env) (h : Heap) (f : Inj) (fr : Frame) (w : World), GRel f → HRel E f (hget L h) h.next w →
    FrRel P f ⟨fi, e, .inRegion ops l :: k, ds, .run⟩ fr → OpsOut A P E L f fi ops k ds fr cs w (aops A L fi.nt ops l e h) := by
  intro l
  induction l with
  | nil => intro e h f fr w hg hH hF; exact ⟨f, fr, w, .refl _ _, f.le_refl, hF, hH⟩
  | cons o l ih =>
    intro e h f fr w hg hH hF
    obtain ⟨i, is, k', ht, ho, his, hk⟩ := hF.inRegion
    have hm : fr.mode = .run := hF.mode
    unfold aops
    split
    · trivial
    · rename_i hw
      have hw' := awanted_ok hF.env hw
      split
      · rename_i e' hs
        exact OpsOut.head (.one (step_skipped hm ht ho hw')) f.le_refl (ih e' h f _ w hg hH (finish_region hF undef_rel hs))
      · trivial
    · rename_i hw
      have hw' := awanted_ok hF.env hw
      have hout := aop_ok (P := P) hA hH (env_ok (fr := fr) hF.env hg o.op.operands.toList)
      generalize hr : aop A L e h o.op = r at hout
      split
      · rename_i v h'
        obtain ⟨f', n, v', w', h1, h2, h3, h4, h5⟩ := hout
        split
        · rename_i e' hs
          have hnd := not_defer hr (by simp) (by simp)
          exact OpsOut.head (.one (step_value hm ht ho hw' h1 h2 (.inr hnd))) h3 (ih e' h' f' _ w' (hg.mono h3) h5 (finish_region (hF.mono h3) h4 hs))
        · trivial
      · trivial
      · exact ⟨f, fr, w, o, l, .refl _ _, f.le_refl, hF, hH, rfl, hw', hr, hout⟩
end
end Go.Abs

namespace Go.Abs
set_option linter.unusedVariables false
set_option linter.unusedSimpArgs false

structure MRel (P : Program) (E : Keep) (L : List (PTree AObj)) (f : Inj) (s : AState) (fr : Frame) (cs : List Frame) (w : World) : Prop where
  fr : FrRel P f s.fr fr
  cs : CsRel P f s.callers cs
  heap : HRel E f (hget L s.heap) s.heap.next w
  glob : GRel f

/-- the machine comes from one place to another that is as the evaluator says -/
def Goes (P : Program) (E : Keep) (L : List (PTree AObj)) (cs0 : List Frame) (f : Inj) (fr : Frame) (cs : List Frame) (w : World) (s' : AState) : Prop :=
  ∃ f' fr' cs' w', Steps P (lone fr (cs ++ cs0) w) (lone fr' (cs' ++ cs0) w') ∧ f.le f' ∧ MRel P E L f' s' fr' cs' w'

def StepOut (A : AProg) (P : Program) (E : Keep) (L : List (PTree AObj)) (cs0 : List Frame) (f : Inj) (fr : Frame) (cs : List Frame) (w : World) : AStep → Prop
  | .fail => True
  | .next s' => Goes P E L cs0 f fr cs w s'
  | .ways l => l = [] ∨ ∃ s' ∈ l, Goes P E L cs0 f fr cs w s'
  | .call g args s' => ∃ f' fr' cs' w', Steps P (lone fr (cs ++ cs0) w) (lone fr' (cs' ++ cs0) w') ∧ f.le f' ∧ MRel P E L f' s' fr' cs' w' ∧
      ∀ fn c, A.funcs.get (posOf g) = some fn → fn.body = some c → ∃ vargs, VsRel f' args vargs.toList ∧ step P (lone fr' (cs' ++ cs0) w') = .next (lone (Frame.enter P g vargs .normal) (fr' :: (cs' ++ cs0)) w')
  | .draw id ops k s' => MRel P E L f s' fr cs w ∧ fr.mode = .run ∧ ∃ k', fr.todo = .code (.region id ops true) :: k' ∧ TRel f k k'

section
variable {A : AProg} {P : Program} {L : List (PTree AObj)} {E : Keep} {f : Inj} {h h' : Heap} {nx : Pos} {w : World} {cs0 : List Frame}

theorem Goes.head {f1 : Inj} {fr fr1 : Frame} {cs cs1 : List Frame} {w1 : World} {s' : AState} (hs : Steps P (lone fr (cs ++ cs0) w) (lone fr1 (cs1 ++ cs0) w1)) (hf : f.le f1) (h : Goes P E L cs0 f1 fr1 cs1 w1 s') : Goes P E L cs0 f fr cs w s' := by
  obtain ⟨f', fr', cs', w', a, b, c⟩ := h
  exact ⟨f', fr', cs', w', hs.trans a, Inj.le_trans hf b, c⟩
theorem StepOut.head {f1 : Inj} {fr fr1 : Frame} {cs cs1 : List Frame} {w1 : World} {r : AStep} (hs : Steps P (lone fr (cs ++ cs0) w) (lone fr1 (cs1 ++ cs0) w1)) (hf : f.le f1) (hnd : ∀ a b c d, r ≠ .draw a b c d) (h : StepOut A P E L cs0 f1 fr1 cs1 w1 r) : StepOut A P E L cs0 f fr cs w r := by
  cases r with
  | fail => trivial
  | next s' => exact Goes.head hs hf h
  | ways l =>
    rcases h with h | ⟨s', a, b⟩
    · exact .inl h
    · exact .inr ⟨s', a, Goes.head hs hf b⟩
  | call g args s' =>
    obtain ⟨f', fr', cs', w', a, b, c⟩ := h
    exact ⟨f', fr', cs', w', hs.trans a, Inj.le_trans hf b, c⟩
  | draw a b c d => exact absurd rfl (hnd a b c d)

theorem setAll_get {msk : Nat} : ∀ (l : List AVal) (i : Nat) (t : PTree AVal) (j : Nat) (v : AVal), (setAll msk l i t).get (posOf j) = some v → (i ≤ j ∧ l[j - i]? = some v ∧ Nat.testBit msk j = true) ∨ ((j < i ∨ i + l.length ≤ j ∨ Nat.testBit msk j = false) ∧ t.get (posOf j) = some v) := by
  intro l
  induction l with
  | nil => intro i t j v h; exact .inr ⟨by simp; omega, h⟩
  | cons x l ih =>
    intro i t j v h
    rcases ih (i + 1) _ j v h with ⟨h1, h2, h3⟩ | ⟨h1, h2⟩
    · refine .inl ⟨by omega, ?_, h3⟩
      have : j - i = (j - (i + 1)) + 1 := by omega
      rw [this]; simpa using h2
    · simp only [stay, cond_eq] at h2
      split at h2
      · rename_i hb
        rw [put_get] at h2
        split at h2
        · rename_i e; subst e; simp at h2; subst h2; exact .inl ⟨Nat.le_refl _, by simp, hb⟩
        · rename_i hne
          refine .inr ⟨?_, h2⟩
          simp only [List.length_cons]
          rcases h1 with h1 | h1 | h1
          · left; omega
          · right; left; omega
          · right; right; exact h1
      · rename_i hb
        refine .inr ⟨?_, h2⟩
        simp only [List.length_cons]
        rcases h1 with h1 | h1 | h1
        · by_cases e : i = j
          · subst e; right; right; simpa using hb
          · left; omega
        · right; left; omega
        · right; right; exact h1

theorem enterA_ok (hA : A.Ok P) {g : FuncId} {args : List AVal} {dk : Bool} {a : AFrame} {vargs : Array Value} (he : enterA A g args dk = some a) (hv : VsRel f args vargs.toList) :
    FrRel P f a (Frame.enter P g vargs (if dk then .deferred else .normal)) ∧ ∃ fn c, A.funcs.get (posOf g) = some fn ∧ fn.body = some c := by
  unfold enterA at he
  split at he
  · rename_i fn hfn
    split at he
    · rename_i c hc
      rw [cond_eq] at he
      split at he
      · rename_i hle
        have hle := Nat.le_of_ble_eq_true hle
        simp at he; subst he
        have hp := hA.funcs g fn hfn
        have hlen := hv.length
        simp at hlen
        refine ⟨⟨rfl, ⟨?_, ?_, ?_⟩, .inl ?_, rfl, rfl, rfl, rfl, by simp, fun _ => ⟨fn, hp⟩⟩, fn, c, hfn, hc⟩
        · intro t v hv'
          have hv' : (setAll (maskOf A g) args 0 .leaf).get (posOf t) = some v := by simpa [Env.get, rget] using hv'
          rcases setAll_get _ _ _ _ _ hv' with ⟨_, h2, _⟩ | ⟨_, h2⟩
          · obtain ⟨v', h3, h4⟩ := hv.get _ _ h2
            refine ⟨v', ?_, h4⟩
            have hlt := (List.getElem?_eq_some_iff.1 h3).1
            simp only [Frame.enter]
            rw [Array.getElem?_append_left (by simpa using hlt)]
            simpa using h3
          · cases hpos : posOf t <;> rw [hpos] at h2 <;> simp [PTree.get] at h2
        · simp only [Frame.enter, hp]
          simp
          omega
        · intro t v hv'
          rcases setAll_get _ _ _ _ _ hv' with ⟨_, _, h3⟩ | ⟨_, h2⟩
          · exact h3
          · cases hpos : posOf t <;> rw [hpos] at h2 <;> simp [PTree.get] at h2
        · refine ⟨_, _, rfl, ?_, rfl⟩
          simp only [hp, IRel]
          simp [hc]
      · simp at he
    · simp at he
  · simp at he

theorem finish_ok {a a' : AFrame} {fr : Frame} {v : AVal} {v' : Value} (hf : finishA a v = some a') (hF : FrRel P f a fr) (hv : VRel f v v') : FrRel P f a' (fr.finish v') := by
  obtain ⟨fi, e, todo, ds, m⟩ := a
  unfold finishA at hf
  simp only at hf
  split at hf
  · rename_i ops o rest k
    split at hf
    · rename_i e' hs
      simp at hf; subst hf
      exact finish_region hF hv hs
    · simp at hf
  · rename_i l k
    simp at hf; subst hf
    obtain ⟨x, k', h1, ⟨p, hp, rfl⟩, h3⟩ := hF.todo.left (by simp)
    have : fr.finish v' = { fr with todo := .endRangeFunc p.block :: k' } := by
      unfold Frame.finish; rw [h1]
    rw [this]
    exact ⟨hF.fn, hF.env, .inl ⟨_, _, rfl, ⟨p, hp, rfl⟩, h3⟩, hF.defers, hF.mode, hF.kind, hF.rnd, hF.rndk, hF.fnok⟩
  · simp at hf

theorem ChRel.append : ∀ {a b : List (AVal × Bool)} {c d : List PanicEntry}, ChRel f a c → ChRel f b d → ChRel f (a ++ b) (c ++ d) := by
  intro a
  induction a with
  | nil => intro b c d h1 h2; rw [ChRel] at h1; subst h1; exact h2
  | cons x a ih => intro b c d h1 h2; obtain ⟨v, t, rfl, h3, h4⟩ := h1; exact ⟨v, t ++ d, rfl, h3, ih h4 h2⟩

theorem raise_ok {a : AFrame} {fr : Frame} {vs : List (AVal × Bool)} {vs' : List PanicEntry} (hF : FrRel P f a fr) (hv : ChRel f vs vs') : FrRel P f (raiseA a vs) (fr.raise vs') := by
  obtain ⟨fi, e, todo, ds, m⟩ := a
  have hm := hF.mode
  cases m with
  | run =>
    simp only [MoRel] at hm
    simp only [raiseA, Frame.raise, hm]
    exact ⟨hF.fn, hF.env, hF.todo, hF.defers, ⟨vs', rfl, hv⟩, hF.kind, hF.rnd, hF.rndk, hF.fnok⟩
  | returning =>
    simp only [MoRel] at hm
    simp only [raiseA, Frame.raise, hm]
    exact ⟨hF.fn, hF.env, hF.todo, hF.defers, ⟨vs', rfl, hv⟩, hF.kind, hF.rnd, hF.rndk, hF.fnok⟩
  | panicking c =>
    obtain ⟨c', hm, hc⟩ := hm
    simp only [raiseA, Frame.raise, hm]
    exact ⟨hF.fn, hF.env, hF.todo, hF.defers, ⟨_, rfl, hv.append hc⟩, hF.kind, hF.rnd, hF.rndk, hF.fnok⟩

theorem putParams_ok {msk nt : Nat} : ∀ (ps : List Tmp) (args : List AVal) (vargs : List Value) (e e' : Env) (tmps : Array Value), ERel f msk nt e tmps → VsRel f args vargs → putParams nt ps args e = some e' →
    ERel f msk nt e' ((ps.zip vargs).foldl (fun tmps (t, a) => tmps.setIfInBounds t a) tmps) ∧ ps.length = args.length := by
  intro ps
  induction ps with
  | nil =>
    intro args vargs e e' tmps he hv hp
    cases args with
    | nil => simp [putParams] at hp; subst hp; exact ⟨he, rfl⟩
    | cons a l => simp [putParams] at hp
  | cons p ps ih =>
    intro args vargs e e' tmps he hv hp
    cases args with
    | nil => simp [putParams] at hp
    | cons a l =>
      simp only [putParams] at hp
      obtain ⟨v, vs, rfl, h1, h2⟩ := hv
      split at hp
      · rename_i e1 hs
        have := ih l vs e1 e' _ (he.set h1 hs) h2 hp
        exact ⟨this.1, by simp [this.2]⟩
      · simp at hp

theorem tryRecover_run {fr : Frame} {cs : List Frame} (hk : fr.kind = .normal) : tryRecover fr cs = none := by
  unfold tryRecover; rw [hk]
theorem tryRecover_deferred' {fr c : Frame} {cs : List Frame} (hk : fr.kind = .deferred) : tryRecover fr (c :: cs) = match c.mode with
    | .panicking ({ v, recovered := false, goexit := false } :: older) => some (v, { c with mode := .panicking ({ v, recovered := true } :: older) } :: cs)
    | _ => none := by
  unfold tryRecover; rw [hk]; rfl

theorem branches_mem {fr : AFrame} {cs : List AFrame} {r m : Pos} {since : Nat} {seen : List Nat} {a : AEntry} : ∀ {l : List AEntry}, a ∈ l → aresume.branches fr cs h r m since seen l = [] ∨ ∃ fr', finishA fr (.tuple [.bool true, a.k, a.v]) = some fr' ∧ (⟨fr', cs, h.set r (.mapIter (some m) since (a.born :: seen))⟩ : AState) ∈ aresume.branches fr cs h r m since seen l := by
  have hfin : ∀ v v' : AVal, finishA fr v = none → finishA fr v' = none := by
    intro v v' hn
    obtain ⟨fi, e, todo, ds, mo⟩ := fr
    unfold finishA at hn ⊢
    simp only at hn ⊢
    split at hn
    · rename_i ops o rest k
      split at hn
      · simp at hn
      · rename_i hs
        have : setDst fi.nt o.dst v' e = none := by
          unfold setDst at hs ⊢
          split at hs
          · simp at hs
          · simp only
            rw [cond_eq] at hs ⊢
            split at hs
            · simp at hs
            · rename_i hb; rw [if_neg hb]
        rw [this]
    · simp at hn
    · rfl
  intro l
  induction l with
  | nil => intro h; simp at h
  | cons x l ih =>
    intro hm
    unfold aresume.branches
    split
    · rename_i fr' hf
      rcases List.mem_cons.1 hm with rfl | hm
      · exact .inr ⟨fr', hf, List.mem_cons_self ..⟩
      · rcases ih hm with hb | ⟨fr'', h1, h2⟩
        · right
          cases hfa : finishA fr (.tuple [.bool true, a.k, a.v]) with
          | none => rw [hfin _ _ hfa] at hf; simp at hf
          | some fr'' =>
            exfalso
            clear ih
            induction l with
            | nil => simp at hm
            | cons y l _ =>
              unfold aresume.branches at hb
              split at hb
              · simp at hb
              · rename_i hn
                rw [hfin _ _ hn] at hf; simp at hf
        · exact .inr ⟨fr'', h1, List.mem_cons_of_mem _ h2⟩
    · exact .inl rfl
end
end Go.Abs

namespace Go.Abs
set_option linter.unusedVariables false
set_option linter.unusedSimpArgs false
section
variable {A : AProg} {P : Program} {L : List (PTree AObj)} {E : Keep} {f : Inj} {h h' : Heap} {nx : Pos} {w : World} {cs0 : List Frame}

theorem kind_normal {fr : Frame} {ops : Array Oper} {l : List Nat} {k : List Item} (ht : fr.todo = .inRegion ops l :: k) : (match fr.todo with | .call _ true _ _ :: _ => CallKind.wrapped | _ => .normal) = .normal := by rw [ht]

theorem step_enter {fr : Frame} {cs : List Frame} {ops : Array Oper} {i : Nat} {is : List Nat} {k : List Item} {o : Oper} {g : FuncId} {vargs : Array Value} {w' : World} (hm : fr.mode = .run) (ht : fr.todo = .inRegion ops (i :: is) :: k) (ho : ops[i]? = some o)
    (hw : Region.wanted o (yielded ops fr.tmps) = true) (hr : (execOp fr.eval o).run P w = .ok (.enter g vargs) w') (hd : fr.roundOf = none ∨ ∀ c, o.op ≠ .defer c) :
    step P (lone fr cs w) = .next (lone (Frame.enter P g vargs .normal) (fr :: cs) w') := by
  refine step_lone_go ?_
  rw [stepG_oper hm ht ho hw hd]
  simp [stepG.apply, hr, ht]

theorem step_round {fr : Frame} {cs : List Frame} {ops : Array Oper} {i : Nat} {is : List Nat} {k : List Item} {o : Oper} {g : FuncId} {l : Nat} {tmps : Array Value} {as b : Code} {w' : World} (hm : fr.mode = .run) (ht : fr.todo = .inRegion ops (i :: is) :: k) (ho : ops[i]? = some o)
    (hw : Region.wanted o (yielded ops fr.tmps) = true) (hr : (execOp fr.eval o).run P w = .ok (.round l g tmps as b) w') (hd : fr.roundOf = none ∨ ∀ c, o.op ≠ .defer c) :
    step P (lone fr cs w) = .next (lone (Frame.round l g tmps as b .normal) (fr :: cs) w') := by
  refine step_lone_go ?_
  rw [stepG_oper hm ht ho hw hd]
  simp [stepG.apply, hr]

theorem step_defer {fr : Frame} {cs : List Frame} {ops : Array Oper} {i : Nat} {is : List Nat} {k : List Item} {o : Oper} {d : Deferred} {w' : World} (hm : fr.mode = .run) (ht : fr.todo = .inRegion ops (i :: is) :: k) (ho : ops[i]? = some o)
    (hw : Region.wanted o (yielded ops fr.tmps) = true) (hr : (execOp fr.eval o).run P w = .ok (.defer d) w') (hd : fr.roundOf = none) :
    step P (lone fr cs w) = .next (lone (({ fr with defers := d :: fr.defers } : Frame).finish undef) cs w') := by
  refine step_lone_go ?_
  rw [stepG_oper hm ht ho hw (.inl hd)]
  simp [stepG.apply, hr]

theorem step_panic {fr : Frame} {cs : List Frame} {ops : Array Oper} {i : Nat} {is : List Nat} {k : List Item} {o : Oper} {v : Value} {w' : World} (hm : fr.mode = .run) (ht : fr.todo = .inRegion ops (i :: is) :: k) (ho : ops[i]? = some o)
    (hw : Region.wanted o (yielded ops fr.tmps) = true) (hr : (execOp fr.eval o).run P w = .halt (.panic v) w') (hd : fr.roundOf = none ∨ ∀ c, o.op ≠ .defer c) :
    step P (lone fr cs w) = .next (lone (fr.raise [{ v, recovered := false }]) cs w') := by
  refine step_lone_go ?_
  rw [stepG_oper hm ht ho hw hd]
  simp [stepG.apply, hr]

theorem step_recover {fr : Frame} {cs : List Frame} {ops : Array Oper} {i : Nat} {is : List Nat} {k : List Item} {o : Oper} {w' : World} (hm : fr.mode = .run) (ht : fr.todo = .inRegion ops (i :: is) :: k) (ho : ops[i]? = some o)
    (hw : Region.wanted o (yielded ops fr.tmps) = true) (hr : (execOp fr.eval o).run P w = .ok .recover w') (hd : fr.roundOf = none) :
    step P (lone fr cs w) = .next (match tryRecover fr cs with | some (v, cs') => lone (fr.finish v) cs' w' | none => lone (fr.finish .nilIface) cs w') := by
  cases htr : tryRecover fr cs with
  | none =>
    simp only
    refine step_lone_go ?_
    rw [stepG_oper hm ht ho hw (.inl hd)]
    simp [stepG.apply, hr, hd, htr]
  | some x =>
    obtain ⟨v, cs'⟩ := x
    simp only
    refine step_lone_go ?_
    rw [stepG_oper hm ht ho hw (.inl hd)]
    simp [stepG.apply, hr, hd, htr]

theorem aresume_ok (hA : A.Ok P) {fi : FInfo} {e : Env} {ops : Array Oper} {o : Oper} {rest : List Oper} {k : List AItem} {ds : List ADef} {acs : List AFrame} {fr : Frame} {cs : List Frame}
    (hF : FrRel P f ⟨fi, e, .inRegion ops (o :: rest) :: k, ds, .run⟩ fr) (hC : CsRel P f acs cs) (hH : HRel E f (hget L h) h.next w) (hg : GRel f) (hw : Region.wanted o (yielded ops fr.tmps) = true) {r : ARes} (hr : aop A L e h o.op = r)
    (hout : Out A E f L h w ((execOp fr.eval o).run P w) r) : StepOut A P E L cs0 f fr cs w (aresume A L ⟨⟨fi, e, .inRegion ops (o :: rest) :: k, ds, .run⟩, acs, h⟩ r) := by
  obtain ⟨i, is, k', ht, ho, his, hk⟩ := hF.inRegion
  have hm : fr.mode = .run := hF.mode
  have hM : MRel P E L f ⟨⟨fi, e, .inRegion ops (o :: rest) :: k, ds, .run⟩, acs, h⟩ fr cs w := ⟨hF, hC, hH, hg⟩
  cases r with
  | fail => simp only [aresume]; trivial
  | val v h' => simp only [aresume]; trivial
  | enter g args =>
    have hnd := not_defer hr (by simp) (by simp)
    simp only [aresume]
    split
    · refine ⟨f, fr, cs, w, .refl _ _, f.le_refl, hM, ?_⟩
      intro fn c hfn hc
      obtain ⟨vargs, h1, h2⟩ := hout fn c hfn hc
      exact ⟨vargs, h2, step_enter hm ht ho hw h1 (.inr hnd)⟩
    · split
      · rename_i a he
        obtain ⟨fn, c, hfn, hc⟩ : ∃ fn c, A.funcs.get (posOf g) = some fn ∧ fn.body = some c := by
          unfold enterA at he
          split at he
          · rename_i fn hfn
            split at he
            · rename_i c hc; exact ⟨fn, c, hfn, hc⟩
            · simp at he
          · simp at he
        obtain ⟨vargs, h1, h2⟩ := hout fn c hfn hc
        obtain ⟨h3, _⟩ := enterA_ok hA he h2
        exact ⟨f, _, fr :: cs, w, .one (step_enter hm ht ho hw h1 (.inr hnd)), f.le_refl, ⟨h3, ⟨fr, cs, rfl, hF, hC⟩, hH, hg⟩⟩
      · trivial
  | round l args =>
    have hnd := not_defer hr (by simp) (by simp)
    simp only [aresume]
    split
    · rename_i lp hg'
      split
      · rename_i e' hp
        have hlen : lp.params.length = args.length := by
          have : ∀ (ps : List Tmp) (args : List AVal) (e e' : Env), putParams lp.nt ps args e = some e' → ps.length = args.length := by
            intro ps
            induction ps with
            | nil => intro args e e' hp; cases args with
              | nil => rfl
              | cons a l => simp [putParams] at hp
            | cons p ps ih =>
              intro args e e' hp
              cases args with
              | nil => simp [putParams] at hp
              | cons a l =>
                simp only [putParams] at hp
                split at hp
                · simp [ih _ _ _ hp]
                · simp at hp
          exact this _ _ _ _ hp
        obtain ⟨p, vargs, tmps, h1, h2, h3, h4⟩ := hout lp hg' hlen
        obtain ⟨h5, _⟩ := putParams_ok _ _ _ _ _ _ h3 h2 hp
        refine ⟨f, _, fr :: cs, w, .one (step_round hm ht ho hw h4 (.inr hnd)), f.le_refl, ⟨⟨rfl, h5.flush, .inl ⟨_, _, rfl, rfl, _, _, rfl, rfl, _, _, rfl, rfl, rfl⟩, rfl, rfl, rfl, ⟨p, h1, rfl⟩, fun _ => rfl, by simp⟩, ⟨fr, cs, rfl, hF, hC⟩, hH, hg⟩⟩
      · trivial
    · trivial
  | defer d =>
    obtain ⟨d', h1, h2⟩ := hout
    simp only [aresume]
    split
    · rename_i hrnd
      have hro : fr.roundOf = none := by have := hF.rnd; simp only at hrnd this; rw [hrnd] at this; exact this
      split
      · rename_i a hf
        have hF' : FrRel P f ⟨fi, e, .inRegion ops (o :: rest) :: k, d :: ds, .run⟩ { fr with defers := d' :: fr.defers } := ⟨hF.fn, hF.env, hF.todo, ⟨d', fr.defers, rfl, h2, hF.defers⟩, hF.mode, hF.kind, hF.rnd, hF.rndk, hF.fnok⟩
        exact ⟨f, _, cs, w, .one (step_defer hm ht ho hw h1 hro), f.le_refl, ⟨finish_ok hf hF' undef_rel, hC, hH, hg⟩⟩
      · trivial
    · trivial
  | recover =>
    simp only [aresume]
    split
    · trivial
    · rename_i hrnd
      have hro : fr.roundOf = none := by have := hF.rnd; simp only at hrnd this; rw [hrnd] at this; exact this
      have hst := fun cs => step_recover (cs := cs) hm ht ho hw hout hro
      have hkind := hF.kind
      split
      · rename_i hdk
        simp only [hdk] at hkind
        split
        · rename_i a hf
          have := hst (cs ++ cs0)
          rw [tryRecover_run hkind] at this
          exact ⟨f, _, cs, w, .one this, f.le_refl, ⟨finish_ok hf hF rfl, hC, hH, hg⟩⟩
        · trivial
      · rename_i c acs' hdk
        simp only [hdk] at hkind
        obtain ⟨c', cs', rfl, hc, hcs⟩ := hC
        have := hst (c' :: cs' ++ cs0)
        rw [List.cons_append] at this
        have htr := tryRecover_deferred' (c := c') (cs := cs' ++ cs0) hkind
        obtain ⟨cfi, ce, ctodo, cds, cm⟩ := c
        split
        · rename_i v older hcm
          simp only at hcm
          subst hcm
          obtain ⟨ch, hmc, v', t', rfl, h3, h4⟩ := hc.mode
          split
          · rename_i a hf
            rw [hmc] at htr
            simp only at htr
            rw [htr] at this
            simp only at this
            refine ⟨f, _, { c' with mode := .panicking ({ v := v', recovered := true } :: t') } :: cs', w, .one this, f.le_refl, ⟨finish_ok hf hF h3, ⟨_, _, rfl, ⟨hc.fn, hc.env, hc.todo, hc.defers, ⟨_, rfl, v', t', rfl, h3, h4⟩, hc.kind, hc.rnd, hc.rndk, hc.fnok⟩, hcs⟩, hH, hg⟩⟩
          · trivial
        · rename_i hne
          split
          · rename_i a hf
            have hno : tryRecover fr (c' :: (cs' ++ cs0)) = none := by
              rw [htr]
              have hcm := hc.mode
              cases cm with
              | run => simp only [MoRel] at hcm; rw [hcm]
              | returning => simp only [MoRel] at hcm; rw [hcm]
              | panicking ch =>
                obtain ⟨ch', hmc, hch⟩ := hcm
                rw [hmc]
                cases ch with
                | nil => rw [ChRel] at hch; subst hch; rfl
                | cons x ch =>
                  obtain ⟨v', t', rfl, h3, h4⟩ := hch
                  obtain ⟨x, b⟩ := x
                  cases b with
                  | false => exact absurd rfl (hne x ch)
                  | true => rfl
            rw [hno] at this
            exact ⟨f, _, c' :: cs', w, .one this, f.le_refl, ⟨finish_ok hf hF rfl, ⟨_, _, rfl, hc, hcs⟩, hH, hg⟩⟩
          · trivial
      · trivial
  | panic v =>
    have hnd := not_defer hr (by simp) (by simp)
    obtain ⟨v', h1, h2⟩ := hout
    simp only [aresume]
    exact ⟨f, _, cs, w, .one (step_panic hm ht ho hw h1 (.inr hnd)), f.le_refl, ⟨raise_ok hF ⟨v', [], rfl, h2, rfl⟩, hC, hH, hg⟩⟩
  | next r m since seen left =>
    have hnd := not_defer hr (by simp) (by simp)
    obtain ⟨a, v, w', h1, h2, h3, h4⟩ := hout
    simp only [aresume]
    rcases branches_mem (fr := ⟨fi, e, .inRegion ops (o :: rest) :: k, ds, .run⟩) (cs := acs) (h := h) (r := r) (m := m) (since := since) (seen := seen) h1 with hb | ⟨fr', hf, hb⟩
    · exact .inl hb
    · refine .inr ⟨_, hb, f, _, cs, w', .one (step_value hm ht ho hw h2 (.inl rfl) (.inr hnd)), f.le_refl, ⟨finish_ok hf hF h3, hC, ?_, hg⟩⟩
      simp only [next_set]
      exact h4
end
end Go.Abs

namespace Go.Abs
set_option linter.unusedVariables false
set_option linter.unusedSimpArgs false
section
variable {A : AProg} {P : Program} {L : List (PTree AObj)} {E : Keep} {f : Inj} {h h' : Heap} {nx : Pos} {w : World} {cs0 : List Frame}

def leaveG (P : Program) (fr : Frame) (cs : List Frame) (w : World) (jump : Option Code) : GStep :=
  match fr.roundOf with
  | none => if jump matches none | some .ret then .go { frame := { fr with mode := .returning }, callers := cs, status := .running, dying := none } w else .ended (.stuck "exit, goto: no such block or label" (fr.pos P)) w
  | some l =>
    let (r, es) := (Instr.endRound l jump).runT P w #[]
    GStep.after (seen P fr.fn es) <| match r with
    | .ok v w => doReturn P true fr cs none v w
    | .halt _ w => .ended (.stuck "range over a function: no such loop" (fr.pos P)) w

theorem run_setObj_loop {b : Nat} {lp : Loop} (hw : w.heap[b]? = some (.loop lp)) (ob : Obj) :
    (setObj b ob).run P w = .ok () { w with heap := w.heap.setIfInBounds b ob } := by simp [setObj, Sem.run, hw]

theorem run_endRound {b : Nat} {lp : Loop} (hw : w.heap[b]? = some (.loop lp)) (jump : Option Code) :
    (Instr.endRound b jump).run P w = .ok (.bool jump.isNone) { w with heap := w.heap.setIfInBounds b (.loop { lp with state := if jump.isNone then .ready else .done, pending := jump }) } := by
  have g : (getObj b).run P w = .ok (.loop lp) w := by simp [getObj, Sem.run, hw]
  simp [Instr.endRound, Instr.getLoop, g, run_setObj_loop hw]

theorem aleave_ok (hA : A.Ok P) {fi : FInfo} {e : Env} {todo : List AItem} {ds : List ADef} {acs : List AFrame} {fr : Frame} {cs : List Frame} {jump : Option Code}
    (hM : MRel P E L f ⟨⟨fi, e, todo, ds, .run⟩, acs, h⟩ fr cs w) (hs : ∀ cs, stepG P true { frame := fr, callers := cs, status := .running, dying := none } w = leaveG P fr cs w jump) :
    StepOut A P E L cs0 f fr cs w (aleave A L ⟨⟨fi, e, todo, ds, .run⟩, acs, h⟩ jump) := by
  obtain ⟨hF, hC, hH, hg⟩ := hM
  unfold aleave
  simp only
  split
  · rename_i hrnd
    have hro : fr.roundOf = none := by have := hF.rnd; simp only at this; rw [hrnd] at this; exact this
    have key : (jump = none ∨ jump = some .ret) → Goes P E L cs0 f fr cs w ⟨⟨fi, e, todo, ds, .returning⟩, acs, h⟩ := by
      intro hj
      refine ⟨f, { fr with mode := .returning }, cs, w, .one (step_lone_go ?_), f.le_refl, ⟨⟨hF.fn, hF.env, hF.todo, hF.defers, rfl, hF.kind, hF.rnd, hF.rndk, hF.fnok⟩, hC, hH, hg⟩⟩
      rw [hs]; unfold leaveG; rw [hro]
      rcases hj with rfl | rfl <;> simp
    split
    · exact key (.inl rfl)
    · exact key (.inr rfl)
    · trivial
  · rename_i l hrnd
    have hro := hF.rnd
    simp only at hro hrnd
    rw [hrnd] at hro
    obtain ⟨p, hp, hro⟩ := hro
    have hkind := hF.kind
    have hdk : fi.dk = false := hF.rndk (by simp [hrnd])
    simp only [hdk] at hkind
    split
    · rename_i lp c acs' hgl
      obtain ⟨c', cs', rfl, hc, hcs⟩ := hC
      split
      · rename_i a hfin
        obtain ⟨p', ob, hp', hw, tmps, q, hq, hE, rfl⟩ := hH.objs _ _ hgl rfl
        rw [hp] at hp'; cases hp'
        have hrun := run_endRound (P := P) hw jump
        have hput := hH.put hgl rfl rfl hp hw (o' := .loop { lp with state := if jump.isNone then .ready else .done, pending := jump })
          (ob' := .loop { state := if jump.isNone then .ready else .done, pending := jump, fn := lp.fn, tmps := tmps, params := lp.params.toArray, assign := lp.assign, body := lp.body, defers := q.block })
          ⟨tmps, q, hq, hE, rfl⟩
        refine ⟨f, c'.finish (.bool jump.isNone), cs', { w with heap := w.heap.setIfInBounds p.block (.loop { state := if jump.isNone then .ready else .done, pending := jump, fn := lp.fn, tmps := tmps, params := lp.params.toArray, assign := lp.assign, body := lp.body, defers := q.block }) }, .one (step_lone_go ?_), f.le_refl, ⟨finish_ok hfin hc rfl, hcs, ?_, hg⟩⟩
        · rw [hs]; unfold leaveG; rw [hro]
          simp [hrun, doReturn, hkind]
        · rw [hget_set, next_set]
          cases jump <;> exact hput
      · trivial
    · trivial

theorem exitTo_ok (id : Nat) : ∀ {k : List AItem} {t : List Item}, TRel f k t → ∀ k', aexitTo id k = some k' → ∃ t', exitTo id t = some t' ∧ TRel f k' t' := by
  intro k
  induction k with
  | nil => intro t _ k' h; simp [aexitTo] at h
  | cons x k ih =>
    intro t ht k' h
    obtain ⟨y, t', rfl, hx, hk⟩ := ht
    cases x with
    | inBlock i =>
      rw [IRel] at hx; subst hx
      simp only [aexitTo, cond_eq] at h
      split at h
      · rename_i hi
        have : i = id := Nat.eq_of_beq_eq_true hi
        subst this
        simp at h; subst h
        exact ⟨t', by simp [exitTo], hk⟩
      · rename_i hi
        obtain ⟨t'', a, b⟩ := ih hk k' h
        refine ⟨t'', ?_, b⟩
        have : (i == id) = false := by simpa using hi
        simp [exitTo, this, a]
    | lost => exact False.elim hx
    | _ =>
      obtain ⟨t'', a, b⟩ := ih hk k' (by simpa [aexitTo] using h)
      refine ⟨t'', ?_, b⟩
      simp only [IRel] at hx
      first
        | (subst hx; simpa [exitTo] using a)
        | (obtain ⟨_, _, hx⟩ := hx; subst hx; simpa [exitTo] using a)
        | (obtain ⟨_, hx, _⟩ := hx; subst hx; simpa [exitTo] using a)

theorem exitTo_none (id : Nat) : ∀ {k : List AItem} {t : List Item}, TRel f k t → aexitTo id k = none → exitTo id t = none := by
  intro k
  induction k with
  | nil => intro t ht h; rw [TRel] at ht; subst ht; rfl
  | cons x k ih =>
    intro t ht h
    obtain ⟨y, t', rfl, hx, hk⟩ := ht
    cases x with
    | inBlock i =>
      rw [IRel] at hx; subst hx
      simp only [aexitTo, cond_eq] at h
      split at h
      · simp at h
      · rename_i hi
        have : (i == id) = false := by simpa using hi
        simp [exitTo, this, ih hk h]
    | lost => exact False.elim hx
    | _ =>
      have a := ih hk (by simpa [aexitTo] using h)
      simp only [IRel] at hx
      first
        | (subst hx; simpa [exitTo] using a)
        | (obtain ⟨_, _, hx⟩ := hx; subst hx; simpa [exitTo] using a)
        | (obtain ⟨_, hx, _⟩ := hx; subst hx; simpa [exitTo] using a)

theorem gotoIn_ok (l : Nat) : ∀ {k : List AItem} {t : List Item}, TRel f k t → (∀ k', agotoIn l k = some k' → ∃ t', gotoIn l t = some t' ∧ TRel f k' t') ∧ (agotoIn l k = none → gotoIn l t = none) := by
  intro k
  induction k with
  | nil => intro t ht; rw [TRel] at ht; subst ht; exact ⟨fun _ h => by simp [agotoIn] at h, fun _ => rfl⟩
  | cons x k ih =>
    intro t ht
    obtain ⟨y, t', rfl, hx, hk⟩ := ht
    have ih := ih hk
    cases x with
    | inScope body =>
      rw [IRel] at hx; subst hx
      simp only [agotoIn, gotoIn]
      cases hfl : findLabel body l with
      | some rest =>
        simp only
        exact ⟨fun k' h => by simp at h; subst h; exact ⟨_, rfl, _, _, rfl, rfl, _, _, rfl, rfl, hk⟩, fun h => by simp at h⟩
      | none => exact ih
    | lost => exact False.elim hx
    | _ =>
      simp only [agotoIn]
      simp only [IRel] at hx
      first
        | (subst hx; simpa [gotoIn] using ih)
        | (obtain ⟨_, _, hx⟩ := hx; subst hx; simpa [gotoIn] using ih)
        | (obtain ⟨_, hx, _⟩ := hx; subst hx; simpa [gotoIn] using ih)

theorem step_to {fr fr' : Frame} {cs : List Frame} {w' : World} (h : (stepG P true { frame := fr, callers := cs, status := .running, dying := none } w).bare = .go { frame := fr', callers := cs, status := .running, dying := none } w') : Steps P (lone fr cs w) (lone fr' cs w') := .one (step_lone_go h)

theorem run_enterLoop {fn : FuncId} {tmps : Array Value} {params : Array Tmp} {assign body : Code} :
    (Instr.enterLoop fn tmps params assign body none).run P w = .ok (w.heap.size + 1, [{ target := .collected w.heap.size, args := #[] }])
      ((w.alloc (.deferred (some []))).alloc (.loop { state := .ready, pending := none, fn, tmps, params, assign, body, defers := w.heap.size })) := by
  simp [Instr.enterLoop]

theorem apply_enter {fr : Frame} {cs : List Frame} {l : Nat} {k : List Item} {g : FuncId} {vargs : Array Value} {s : Sem Next} {w' : World} (ht : fr.todo = .inRangeFunc l :: k) (hr : s.run P w = .ok (.enter g vargs) w') :
    (stepG.apply P true fr cs none s w).bare = .go { frame := Frame.enter P g vargs .normal, callers := fr :: cs, status := .running, dying := none } w' := by
  simp [stepG.apply, hr, ht]

theorem acode_ok (hA : A.Ok P) {fi : FInfo} {e : Env} {k : List AItem} {c : Code} {ds : List ADef} {acs : List AFrame} {fr : Frame} {cs : List Frame}
    (hM : MRel P E L f ⟨⟨fi, e, .code c :: k, ds, .run⟩, acs, h⟩ fr cs w) :
    StepOut A P E L cs0 f fr cs w (acode A L ⟨⟨fi, e, .code c :: k, ds, .run⟩, acs, h⟩ fi e ds acs h k c) := by
  have hM0 := hM
  obtain ⟨hF, hC, hH, hg⟩ := hM
  obtain ⟨x, k', ht, rfl, hk⟩ := hF.todo.left (by simp)
  have hm : fr.mode = .run := hF.mode
  have hev := env_ok (fr := fr) hF.env hg
  -- the same frame, at another place
  have go : ∀ (e' : Env) (ak : List AItem) (ck : List Item), ERel f fi.msk fi.nt e' fr.tmps → TRel f ak ck → (∀ cs, (stepG P true { frame := fr, callers := cs, status := .running, dying := none } w).bare = .go { frame := { fr with todo := ck }, callers := cs, status := .running, dying := none } w) →
      Goes P E L cs0 f fr cs w ⟨⟨fi, e', ak, ds, .run⟩, acs, h⟩ := by
    intro e' ak ck he hak hs
    exact ⟨f, { fr with todo := ck }, cs, w, step_to (hs _), f.le_refl, ⟨⟨hF.fn, he, .inl hak, hF.defers, hF.mode, hF.kind, hF.rnd, hF.rndk, hF.fnok⟩, hC, hH, hg⟩⟩
  cases c with
  | skip => exact go e k k' hF.env hk (fun cs => by simp [stepG, hm, stepG.exec, ht])
  | label l => exact go e k k' hF.env hk (fun cs => by simp [stepG, hm, stepG.exec, ht])
  | seq a b => exact go e _ _ hF.env ⟨_, _, rfl, rfl, _, _, rfl, rfl, hk⟩ (fun cs => by simp [stepG, hm, stepG.exec, ht])
  | cond x a b =>
    simp only [acode]
    split
    · rename_i t hx
      have hr := hev [x] x (by simp) _ hx
      rw [VRel] at hr
      refine go e _ (.code (if t then a else b) :: k') hF.env ⟨_, _, rfl, ?_, hk⟩ (fun cs => by simp [stepG, hm, stepG.exec, ht, hr])
      cases t <;> rfl
    · trivial
  | block id b => exact go e _ _ hF.env ⟨_, _, rfl, rfl, _, _, rfl, rfl, hk⟩ (fun cs => by simp [stepG, hm, stepG.exec, ht])
  | loop b => exact go e _ _ hF.env ⟨_, _, rfl, rfl, _, _, rfl, rfl, hk⟩ (fun cs => by simp [stepG, hm, stepG.exec, ht])
  | scope b => exact go e _ _ hF.env ⟨_, _, rfl, rfl, _, _, rfl, rfl, hk⟩ (fun cs => by simp [stepG, hm, stepG.exec, ht])
  | exit id =>
    simp only [acode]
    split
    · rename_i k1 hx
      obtain ⟨t', h1, h2⟩ := exitTo_ok id hk k1 hx
      exact go e _ t' hF.env h2 (fun cs => by simp [stepG, hm, stepG.exec, ht, h1])
    · rename_i hx
      have h1 := exitTo_none id hk hx
      refine aleave_ok hA hM0 (fun cs => ?_)
      simp only [stepG, hm, stepG.exec, ht, h1, Option.elim_none]
      rfl
  | goto l =>
    simp only [acode]
    split
    · rename_i k1 hx
      obtain ⟨t', h1, h2⟩ := (gotoIn_ok l hk).1 k1 hx
      exact go e _ t' hF.env h2 (fun cs => by simp [stepG, hm, stepG.exec, ht, h1])
    · rename_i hx
      have h1 := (gotoIn_ok l hk).2 hx
      refine aleave_ok hA hM0 (fun cs => ?_)
      simp only [stepG, hm, stepG.exec, ht, h1, Option.elim_none]
      rfl
  | ret =>
    simp only [acode]
    refine aleave_ok hA hM0 (fun cs => ?_)
    simp only [stepG, hm, stepG.exec, ht]
    unfold leaveG
    cases fr.roundOf with
    | none => simp [ht]
    | some l => rfl
  | region id ops draw =>
    simp only [acode]
    cases draw with
    | true => exact ⟨hM0, hm, k', ht, hk⟩
    | false =>
      refine go _ _ (.inRegion ops (List.range ops.size) :: k') hF.env.flush ⟨_, _, rfl, ⟨_, rfl, ?_⟩, hk⟩ (fun cs => by simp [stepG, hm, stepG.exec, ht])
      apply List.ext_getElem?
      intro i
      simp only [List.getElem?_map, List.getElem?_range']
      by_cases hi : i < ops.size
      · simp [hi, List.getElem?_range]
      · simp [hi, List.getElem?_eq_none]
  | rangeFunc x params assign body =>
    simp only [acode]
    split
    · rename_i g first captured hrnd hx
      have hro : fr.roundOf = none := by have := hF.rnd; simp only at this; rw [hrnd] at this; exact this
      have hr := hev [x] x (by simp) _ hx
      split
      · rename_i a hen
        obtain ⟨va, vb, hxv, r1, r2⟩ := hr
        have hn1 : f h.next = none := hH.next_none (Nat.le_refl _)
        have hle1 : f.le (f.upd h.next ⟨w.heap.size, 0, 0⟩) := Inj.le_upd hn1
        have hH1 : HRel E (f.upd h.next ⟨w.heap.size, 0, 0⟩) (hget L (h.new (.deferred (some [])))) (h.new (.deferred (some []))).next (w.alloc (.deferred (some []))) := by
          rw [hget_new, next_new]
          exact hH.new rfl ⟨rfl, rfl, rfl⟩ ⟨[], rfl, rfl⟩
        generalize hh1 : h.new (.deferred (some [])) = h1 at hH1 hen
        generalize hf1 : f.upd h.next ⟨w.heap.size, 0, 0⟩ = f1 at hle1 hH1
        have hdn : f1 h.next = some ⟨w.heap.size, 0, 0⟩ := by rw [← hf1]; exact Inj.upd_same
        have hn2 : f1 h1.next = none := hH1.next_none (Nat.le_refl _)
        have hsz : (w.alloc (.deferred (some []))).heap.size = w.heap.size + 1 := by show (w.heap.push _).size = _; simp
        have hle2 : f1.le (f1.upd h1.next ⟨(w.alloc (.deferred (some []))).heap.size, 0, 0⟩) := Inj.le_upd hn2
        have hH2 : HRel E (f1.upd h1.next ⟨(w.alloc (.deferred (some []))).heap.size, 0, 0⟩) (hget L (h1.new (.loop ⟨.ready, none, fi.fn, fi.msk, fi.nt, e, params.toList, assign, body, h.next⟩))) (h1.new (.loop ⟨.ready, none, fi.fn, fi.msk, fi.nt, e, params.toList, assign, body, h.next⟩)).next
            ((w.alloc (.deferred (some []))).alloc (.loop { state := .ready, pending := none, fn := fr.fn, tmps := fr.tmps, params, assign, body, defers := w.heap.size })) := by
          rw [hget_new, next_new]
          exact hH1.new rfl ⟨rfl, rfl, rfl⟩ ⟨fr.tmps, ⟨w.heap.size, 0, 0⟩, hle2 _ _ hdn, (hF.env.mono hle1).mono hle2, by simp [hF.fn]⟩
        have hyn : (f1.upd h1.next ⟨(w.alloc (.deferred (some []))).heap.size, 0, 0⟩) h1.next = some ⟨(w.alloc (.deferred (some []))).heap.size, 0, 0⟩ := Inj.upd_same
        have hdn2 := hle2 _ _ hdn
        have hle : f.le (f1.upd h1.next ⟨(w.alloc (.deferred (some []))).heap.size, 0, 0⟩) := Inj.le_trans hle1 hle2
        rw [hsz] at *
        generalize f1.upd h1.next ⟨w.heap.size + 1, 0, 0⟩ = f2 at *
        have hargs : VsRel f2 (first ++ [.yield h1.next] ++ captured) (va ++ #[Value.func (.yield (w.heap.size + 1)) #[] #[]] ++ vb).toList := by
          simp only [Array.toList_append]
          exact ((VsRel.mono hle _ _ r1).append (VsRel.one (v := Value.func (.yield (w.heap.size + 1)) #[] #[]) (show VRel f2 (.yield h1.next) _ by rw [VRel]; exact ⟨_, hyn, rfl⟩))).append (VsRel.mono hle _ _ r2)
        obtain ⟨hfe, fn, c, hfn, hc⟩ := enterA_ok hA hen hargs
        have hcall := hA.calls g fn c hfn hc (va ++ #[Value.func (.yield (w.heap.size + 1)) #[] #[]] ++ vb)
        have hst : step P (lone fr (cs ++ cs0) w) = .next (lone (Frame.enter P g (va ++ #[Value.func (.yield (w.heap.size + 1)) #[] #[]] ++ vb) .normal)
            ({ fn := fr.fn, tmps := fr.tmps, todo := .inRangeFunc (w.heap.size + 1) :: k', defers := [{ target := .collected w.heap.size, args := #[] }] ++ fr.defers, mode := .run, kind := fr.kind, roundOf := none } :: (cs ++ cs0))
            ((w.alloc (.deferred (some []))).alloc (.loop { state := .ready, pending := none, fn := fr.fn, tmps := fr.tmps, params, assign, body, defers := w.heap.size }))) := by
          refine step_lone_go ?_
          simp only [stepG, hm, stepG.exec, ht, hro, Sem.runT_eq, run_enterLoop, GStep.bare_after]
          have hsem : ∀ fr2 : Frame, fr2.tmps = fr.tmps → ∀ w' : World, (do let d ← resolve fr2.eval { callee := .value x, args := #[.const (.func (.yield (w.heap.size + 1)) #[] #[])], argTypes := #[] } 0; invoke d.target d.args : Sem Next).run P w' =
              .ok (.enter g (va ++ #[Value.func (.yield (w.heap.size + 1)) #[] #[]] ++ vb)) w' := by
            intro fr2 h' w'
            have he2 : fr2.eval x = .func (.func g) va vb := by
              rw [← hxv]
              cases x <;> simp [Frame.eval, h']
            simp only [Sem.run_bind, resolve, Sem.run_pure, Result.andThen_ok, he2]
            simp only [Deferred.ofValue, Sem.run_pure, Result.andThen_ok, invoke]
            have : Array.map fr2.eval #[Operand.const (Value.func (Fn.yield (w.heap.size + 1)) #[] #[])] = #[Value.func (Fn.yield (w.heap.size + 1)) #[] #[]] := by simp [Frame.eval]
            rw [this]
            exact hcall _
          exact apply_enter rfl (hsem _ rfl _)
        refine ⟨f2, _, _ :: cs, _, .one hst, hle, ⟨hfe, ⟨_, _, rfl, ⟨hF.fn, hF.env.mono hle, .inl ⟨_, _, rfl, ⟨_, hyn, rfl⟩, hk.mono hle⟩, ⟨_, _, rfl, ⟨_, hdn2, rfl⟩, hF.defers.mono hle⟩, rfl, hF.kind, by simp only [hrnd]; rfl, hF.rndk, hF.fnok⟩, hC.mono hle⟩, hH2, hg.mono hle⟩⟩
      · trivial
    · trivial
  | refuse why => trivial

theorem run_endLoop {b : Nat} {lp : Loop} (hw : w.heap[b]? = some (.loop lp)) (hb : lp.state ≠ .busy) :
    (Instr.endLoop b).run P w = .ok lp.pending { w with heap := w.heap.setIfInBounds b (.loop { lp with state := .exhausted }) } := by
  have g : (getObj b).run P w = .ok (.loop lp) w := by simp [getObj, Sem.run, hw]
  simp [Instr.endLoop, Instr.getLoop, g, run_setObj_loop hw]
  intro h; exact absurd h hb

theorem run_beginRound {b : Nat} {lp : Loop} (hw : w.heap[b]? = some (.loop lp)) (hb : lp.state = .ready) :
    (Instr.beginRound b).run P w = .ok () { w with heap := w.heap.setIfInBounds b (.loop { lp with state := .busy }) } := by
  have g : (getObj b).run P w = .ok (.loop lp) w := by simp [getObj, Sem.run, hw]
  simp [Instr.beginRound, Instr.getLoop, g, run_setObj_loop hw, hb]

theorem arun_ok (hA : A.Ok P) {fi : FInfo} {e : Env} {todo : List AItem} {ds : List ADef} {acs : List AFrame} {fr : Frame} {cs : List Frame}
    (hM : MRel P E L f ⟨⟨fi, e, todo, ds, .run⟩, acs, h⟩ fr cs w) :
    StepOut A P E L cs0 f fr cs w (arun A L ⟨⟨fi, e, todo, ds, .run⟩, acs, h⟩ fi e ds acs h todo) := by
  have hM0 := hM
  obtain ⟨hF, hC, hH, hg⟩ := hM
  have hm : fr.mode = .run := hF.mode
  cases todo with
  | nil =>
    have ht : fr.todo = [] := hF.todo.nil
    simp only [arun]
    refine aleave_ok hA hM0 (fun cs => ?_)
    simp only [stepG, hm, stepG.exec, ht]
    unfold leaveG
    cases fr.roundOf with
    | none => simp [ht]
    | some l => rfl
  | cons x k =>
    by_cases hlost : x = .lost
    · subst hlost; trivial
    obtain ⟨y, k', ht, hx, hk⟩ := hF.todo.left hlost
    have go : ∀ (e' : Env) (ak : List AItem) (ck : List Item), ERel f fi.msk fi.nt e' fr.tmps → TRel f ak ck → (∀ cs, (stepG P true { frame := fr, callers := cs, status := .running, dying := none } w).bare = .go { frame := { fr with todo := ck }, callers := cs, status := .running, dying := none } w) →
        Goes P E L cs0 f fr cs w ⟨⟨fi, e', ak, ds, .run⟩, acs, h⟩ := by
      intro e' ak ck he hak hs
      exact ⟨f, { fr with todo := ck }, cs, w, step_to (hs _), f.le_refl, ⟨⟨hF.fn, he, .inl hak, hF.defers, hF.mode, hF.kind, hF.rnd, hF.rndk, hF.fnok⟩, hC, hH, hg⟩⟩
    cases x with
    | inBlock id => rw [IRel] at hx; subst hx; exact go e k k' hF.env hk (fun cs => by simp [stepG, hm, stepG.exec, ht])
    | inScope b => rw [IRel] at hx; subst hx; exact go e k k' hF.env hk (fun cs => by simp [stepG, hm, stepG.exec, ht])
    | inLoop b => rw [IRel] at hx; subst hx; exact go e _ _ hF.env ⟨_, _, rfl, rfl, _, _, rfl, rfl, hk⟩ (fun cs => by simp [stepG, hm, stepG.exec, ht])
    | inRegion ops l =>
      simp only [arun]
      have hout := aops_ok (P := P) (L := L) (E := E) (k := k) (ds := ds) (cs := cs ++ cs0) hA l e h f fr w hg hH hF
      split
      · rename_i e' h' hr
        rw [hr] at hout
        obtain ⟨f', fr', w', h1, h2, h3, h4⟩ := hout
        obtain ⟨y', k'', ht', ⟨l', rfl, hl'⟩, hk''⟩ := h3.todo.left (by simp)
        have hl0 : l' = [] := by simpa using hl'
        subst hl0
        have hm' : fr'.mode = .run := h3.mode
        refine ⟨f', { fr' with todo := k'' }, cs, w', h1.trans (.one (step_lone_go (by simp [stepG, hm', stepG.exec, ht']))), h2, ⟨⟨h3.fn, h3.env, .inl hk'', h3.defers, h3.mode, h3.kind, h3.rnd, h3.rndk, h3.fnok⟩, hC.mono h2, h4, hg.mono h2⟩⟩
      · rename_i e' h' rest r hr
        rw [hr] at hout
        obtain ⟨f', fr', w', o, rest', h1, h2, h3, h4, rfl, h5, h6, h7⟩ := hout
        refine StepOut.head h1 h2 ?_ (aresume_ok hA h3 (hC.mono h2) h4 (hg.mono h2) h5 h6 h7)
        intro a b c d
        unfold aresume
        split <;> (try simp)
        all_goals (repeat' split) <;> simp
      · trivial
    | inRangeFunc l => trivial
    | endRangeFunc l =>
      obtain ⟨p, hp, rfl⟩ := hx
      simp only [arun]
      split
      · rename_i lp hgl
        split
        · trivial
        · rename_i hnb
          obtain ⟨p', ob, hp', hw, tmps, q, hq, hE, rfl⟩ := hH.objs _ _ hgl rfl
          rw [hp] at hp'; cases hp'
          have hrun := run_endLoop (P := P) hw (fun e => hnb e)
          have hput := hH.put hgl rfl rfl hp hw (o' := .loop { lp with state := .exhausted }) (ob' := .loop { state := .exhausted, pending := lp.pending, fn := lp.fn, tmps := tmps, params := lp.params.toArray, assign := lp.assign, body := lp.body, defers := q.block }) ⟨tmps, q, hq, hE, rfl⟩
          refine ⟨f, { fr with todo := (lp.pending.map Item.code).toList ++ k' }, cs, { w with heap := w.heap.setIfInBounds p.block (.loop { state := .exhausted, pending := lp.pending, fn := lp.fn, tmps := tmps, params := lp.params.toArray, assign := lp.assign, body := lp.body, defers := q.block }) }, .one (step_lone_go ?_), f.le_refl, ⟨⟨hF.fn, hF.env, .inl ?_, hF.defers, hF.mode, hF.kind, hF.rnd, hF.rndk, hF.fnok⟩, hC, ?_, hg⟩⟩
          · simp [stepG, hm, stepG.exec, ht, hrun]
          · cases lp.pending with
            | none => simpa using hk
            | some c => exact ⟨_, _, rfl, rfl, hk⟩
          · rw [hget_set, next_set]; exact hput
      · trivial
    | beginRound =>
      rw [IRel] at hx; subst hx
      simp only [arun]
      split
      · rename_i l hrnd
        have hro := hF.rnd
        simp only at hro hrnd
        rw [hrnd] at hro
        obtain ⟨p, hp, hro⟩ := hro
        split
        · rename_i lp hgl
          split
          · rename_i hst
            obtain ⟨p', ob, hp', hw, tmps, q, hq, hE, rfl⟩ := hH.objs _ _ hgl rfl
            rw [hp] at hp'; cases hp'
            have hrun := run_beginRound (P := P) hw hst
            have hput := hH.put hgl rfl rfl hp hw (o' := .loop { lp with state := .busy }) (ob' := .loop { state := .busy, pending := lp.pending, fn := lp.fn, tmps := tmps, params := lp.params.toArray, assign := lp.assign, body := lp.body, defers := q.block }) ⟨tmps, q, hq, hE, rfl⟩
            refine ⟨f, { fr with todo := k' }, cs, { w with heap := w.heap.setIfInBounds p.block (.loop { state := .busy, pending := lp.pending, fn := lp.fn, tmps := tmps, params := lp.params.toArray, assign := lp.assign, body := lp.body, defers := q.block }) }, .one (step_lone_go ?_), f.le_refl, ⟨⟨hF.fn, hF.env, .inl hk, hF.defers, hF.mode, hF.kind, hF.rnd, hF.rndk, hF.fnok⟩, hC, ?_, hg⟩⟩
            · simp only [stepG, hm, stepG.exec, ht]
              simp [stepG.apply, hro, hrun, Frame.finish, ht, hm]
            · rw [hget_set, next_set]; exact hput
          · trivial
        · trivial
      · trivial
    | code c => rw [IRel] at hx; exact acode_ok hA hM0
    | lost => exact absurd rfl hlost
end
end Go.Abs

namespace Go.Abs
set_option linter.unusedVariables false
set_option linter.unusedSimpArgs false
section
variable {A : AProg} {P : Program} {L : List (PTree AObj)} {E : Keep} {f : Inj} {h h' : Heap} {nx : Pos} {w : World} {cs0 : List Frame}

def resultOf (tmps : Array Value) : ResultVar → Sem Value
  | .tmp t => pure (tmps.getD t undef)
  | .cell a t => do loadVar t (← asAddr (tmps.getD a undef))

theorem aresults_ok (hA : A.Ok P) (hH : HRel E f (hget L h) nx w) {msk nt : Nat} {e : Env} {tmps : Array Value} (he : ERel f msk nt e tmps) : ∀ (l : List ResultVar) (vs : List AVal), aresults A L h e l = some vs →
    ∃ vvs : List Value, (l.mapM (resultOf tmps)).run P w = .ok vvs w ∧ VsRel f vs vvs := by
  intro l
  induction l with
  | nil => intro vs hr; simp [aresults] at hr; subst hr; exact ⟨[], by simp, rfl⟩
  | cons x l ih =>
    intro vs hr
    cases x with
    | tmp t =>
      simp only [aresults] at hr
      split at hr
      · rename_i v r hv hrest
        simp at hr; subst hr
        obtain ⟨v', h1, h2⟩ := he.get t v hv
        obtain ⟨vvs, h3, h4⟩ := ih r hrest
        refine ⟨v' :: vvs, ?_, v', vvs, rfl, h2, h4⟩
        simp [resultOf, h1, h3]
      · simp at hr
    | cell a t =>
      simp only [aresults] at hr
      split at hr
      · rename_i b off ha
        split at hr
        · rename_i v r hv hrest
          simp at hr; subst hr
          obtain ⟨v', h1, p, hp, rfl⟩ := he.get a _ ha
          obtain ⟨vvs, h3, h4⟩ := ih r hrest
          obtain ⟨p', v2, hp', h5, h6⟩ := run_load_var (P := P) hA hH hv
          rw [hp] at hp'; cases hp'
          refine ⟨v2 :: vvs, ?_, v2, vvs, rfl, h6, h4⟩
          simp [resultOf, h1, asAddr, h5, h3]
        · simp at hr
      · simp at hr

theorem aresult_ok (hA : A.Ok P) (hH : HRel E f (hget L h) nx w) {msk nt : Nat} {e : Env} {tmps : Array Value} (he : ERel f msk nt e tmps) {g : FuncId} {v : AVal} (hr : aresult A L h g e = some v) :
    ∃ fn v', P.funcs[g]? = some fn ∧ (results fn tmps).run P w = .ok v' w ∧ VRel f v v' := by
  unfold aresult at hr
  split at hr
  · rename_i fn hfn
    split at hr
    · rename_i vs hvs
      simp at hr; subst hr
      obtain ⟨vvs, h1, h2⟩ := aresults_ok (P := P) hA hH he _ _ hvs
      refine ⟨fn, if h : vvs.length = 1 then vvs[0] else .tuple vvs.toArray, hA.funcs g fn hfn, ?_, ?_⟩
      · have h1' : (fn.results.mapM (resultOf tmps)).run P w = .ok vvs.toArray w := by
          rw [Array.mapM_eq_mapM_toList]
          simp [h1]
        show (do let vs ← fn.results.mapM (resultOf tmps); pure (if h : vs.size = 1 then vs[0] else .tuple vs) : Sem Value).run P w = _
        simp [h1']
      · have hlen := h2.length
        unfold joined
        split
        · obtain ⟨u, l, rfl, h3, h4⟩ := h2
          rw [VsRel] at h4; subst h4
          simpa using h3
        · rename_i hne
          have : vvs.length ≠ 1 := by
            intro e1
            rw [← hlen] at e1
            obtain ⟨x, rfl⟩ := List.length_eq_one_iff.1 e1
            exact hne x rfl
          rw [dif_neg this]
          exact ⟨vvs.toArray, rfl, by simpa using h2⟩
    · simp at hr
  · simp at hr

theorem run_takeDeferred {b : Nat} {dl : List Deferred} (hw : w.heap[b]? = some (.deferred (some dl))) :
    (Instr.takeDeferred b).run P w = .ok dl { w with heap := w.heap.setIfInBounds b (.deferred none) } := by
  have g : (getObj b).run P w = .ok (.deferred (some dl)) w := by simp [getObj, Sem.run, hw]
  simp [Instr.takeDeferred, g, setObj, Sem.run, hw]

theorem DsRel.append : ∀ {a b : List ADef} {c d : List Deferred}, DsRel f a c → DsRel f b d → DsRel f (a ++ b) (c ++ d) := by
  intro a
  induction a with
  | nil => intro b c d h1 h2; rw [DsRel] at h1; subst h1; exact h2
  | cons x a ih => intro b c d h1 h2; obtain ⟨v, t, rfl, h3, h4⟩ := h1; exact ⟨v, t ++ d, rfl, h3, ih h4 h2⟩

theorem not_call {todo : List AItem} {t : List Item} (h : TdRel f todo t) : NoCall t := by
  refine h.elim (fun h => ?_) (fun h => h.2)
  intro d wr r s k e
  cases todo with
  | nil => rw [TRel] at h; rw [h] at e; simp at e
  | cons x l =>
    obtain ⟨y, t', rfl, hx, _⟩ := h
    simp only [List.cons.injEq] at e
    obtain ⟨rfl, _⟩ := e
    cases x <;> simp [IRel] at hx

theorem catches_no {todo : List AItem} {fr : Frame} (h : TdRel f todo fr.todo) : fr.catches P = false := by
  unfold Frame.catches
  have := not_call h
  split
  · rename_i d wr r s k he
    exact absurd he (this _ _ _ _ _)
  · rfl

theorem stepG_unwind {fr : Frame} {cs : List Frame} (hm : fr.mode ≠ .run) : stepG P true { frame := fr, callers := cs, status := .running, dying := none } w = unwind P true fr cs none w := by
  cases h : fr.mode with
  | run => exact absurd h hm
  | returning => simp [stepG, h]
  | panicking c => simp [stepG, h]

theorem MoRel.ne_run {m : AMode} {m' : FrameMode} (h : MoRel f m m') (hm : ∀ c, m = c → c ≠ .run) : m' ≠ .run := by
  cases m with
  | run => exact absurd rfl (hm _ rfl)
  | returning => rw [MoRel] at h; subst h; simp
  | panicking c => obtain ⟨c', rfl, _⟩ := h; simp

theorem aunwind_ok (hA : A.Ok P) {fi : FInfo} {e : Env} {todo : List AItem} {ds : List ADef} {m : AMode} {acs : List AFrame} {fr : Frame} {cs : List Frame} (hne : m ≠ .run)
    (hM : MRel P E L f ⟨⟨fi, e, todo, ds, m⟩, acs, h⟩ fr cs w) : StepOut A P E L cs0 f fr cs w (aunwind A L fi e todo ds m acs h) := by
  obtain ⟨hF, hC, hH, hg⟩ := hM
  have hmne : fr.mode ≠ .run := hF.mode.ne_run (fun c hc => by rintro rfl; exact hne hc)
  have hst := fun cs => stepG_unwind (P := P) (w := w) (cs := cs) hmne
  unfold aunwind
  split
  · rename_i b ds'
    obtain ⟨d, dl, hds, ⟨p, hp, rfl⟩, hdl⟩ := hF.defers
    split
    · rename_i calls hgb
      obtain ⟨p', ob, hp', hw, ds1, rfl, hrel⟩ := hH.objs _ _ hgb rfl
      rw [hp] at hp'; cases hp'
      have hrun := run_takeDeferred (P := P) hw
      have hput := hH.put hgb rfl rfl hp hw (o' := .deferred none) (ob' := .deferred none) rfl
      refine ⟨f, { fr with defers := ds1 ++ dl }, cs, { w with heap := w.heap.setIfInBounds p.block (.deferred none) }, .one (step_lone_go ?_), f.le_refl, ⟨⟨hF.fn, hF.env, hF.todo, hrel.append hdl, hF.mode, hF.kind, hF.rnd, hF.rndk, hF.fnok⟩, hC, ?_, hg⟩⟩
      · rw [hst]
        simp [unwind, hds, hrun]
      · rw [hget_set, next_set]; exact hput
    · trivial
  · rename_i g captured args ds'
    obtain ⟨d, dl, hds, ⟨c, a, rfl, h1, h2⟩, hdl⟩ := hF.defers
    split
    · rename_i a' hen
      have hargs : VsRel f (args ++ captured) (a ++ c).toList := by simpa using h2.append h1
      obtain ⟨hfe, fn, c', hfn, hc'⟩ := enterA_ok hA hen hargs
      have hcall := hA.calls g fn c' hfn hc' (a ++ c) w
      refine ⟨f, _, { fr with defers := dl } :: cs, w, .one (step_lone_go ?_), f.le_refl, ⟨hfe, ⟨_, _, rfl, ⟨hF.fn, hF.env, hF.todo, hdl, hF.mode, hF.kind, hF.rnd, hF.rndk, hF.fnok⟩, hC⟩, hH, hg⟩⟩
      rw [hst]
      simp [unwind, hds, callDeferred, invoke, hcall]
    · trivial
  · have hds : fr.defers = [] := hF.defers
    split
    · rename_i chain c acs'
      obtain ⟨c', cs', rfl, hc, hcs⟩ := hC
      obtain ⟨ch, hmode, hch⟩ := hF.mode
      have hcat := catches_no (P := P) hF.todo
      refine ⟨f, c'.raise ch, cs', w, .one (step_lone_go ?_), f.le_refl, ⟨raise_ok hc hch, hcs, hH, hg⟩⟩
      rw [hst]
      simp [unwind, hds, hmode, hcat]
    · rename_i c acs'
      obtain ⟨c', cs', rfl, hc, hcs⟩ := hC
      have hmode : fr.mode = .returning := hF.mode
      split
      · rename_i v hv
        obtain ⟨fn, v', hfn, hrun, hvr⟩ := aresult_ok (P := P) hA hH hF.env hv
        have hfn' : P.funcs[fr.fn]? = some fn := by rw [hF.fn]; exact hfn
        have hkind := hF.kind
        split
        · rename_i hdk
          simp only [hdk] at hkind
          split
          · rename_i c1 hf
            refine ⟨f, c'.finish v', cs', w, .one (step_lone_go ?_), f.le_refl, ⟨finish_ok hf hc hvr, hcs, hH, hg⟩⟩
            rw [hst]
            simp [unwind, hds, hmode, hfn', hrun, doReturn, hkind]
          · trivial
        · rename_i hdk
          simp only [hdk] at hkind
          obtain ⟨fi', e', todo', ds', m'⟩ := c
          have hcm := hc.mode
          have hbase : ∀ (c2 : Frame), (match c'.mode with
              | .panicking ({ recovered := true, .. } :: older) => (match older.dropWhile (!·.goexit) with | [] => { c' with mode := .returning } | rest => { c' with mode := .panicking rest })
              | _ => c') = c2 → Steps P (lone fr (c' :: cs' ++ cs0) w) (lone c2 (cs' ++ cs0) w) := by
            intro c2 hc2
            refine .one (step_lone_go ?_)
            rw [hst]
            subst hc2
            simp [unwind, hds, hmode, hfn', hrun, doReturn, hkind]
            rfl
          simp only
          split
          · rename_i v0 older
            obtain ⟨ch, hmc, v1, t1, rfl, h3, h4⟩ := hcm
            have hgo : ∀ (l : List (AVal × Bool)) (t : List PanicEntry), ChRel f l t → t.dropWhile (!·.goexit) = [] := by
              intro l
              induction l with
              | nil => intro t ht; rw [ChRel] at ht; subst ht; rfl
              | cons x l ih => intro t ht; obtain ⟨v, t', rfl, _, ht⟩ := ht; simp [ih t' ht]
            refine ⟨f, { c' with mode := .returning }, cs', w, hbase _ ?_, f.le_refl, ⟨⟨hc.fn, hc.env, hc.todo, hc.defers, rfl, hc.kind, hc.rnd, hc.rndk, hc.fnok⟩, hcs, hH, hg⟩⟩
            rw [hmc]
            simp only
            rw [hgo _ _ h4]
          · rename_i hno
            refine ⟨f, c', cs', w, hbase _ ?_, f.le_refl, ⟨hc, hcs, hH, hg⟩⟩
            cases m' with
            | run => rw [MoRel] at hcm; rw [hcm]
            | returning => rw [MoRel] at hcm; rw [hcm]
            | panicking ch =>
              obtain ⟨ch', hmc, hch⟩ := hcm
              rw [hmc]
              cases ch with
              | nil => rw [ChRel] at hch; subst hch; rfl
              | cons x ch =>
                obtain ⟨v1, t', rfl, h3, h4⟩ := hch
                obtain ⟨x, b⟩ := x
                cases b with
                | true => exact absurd rfl (hno x ch)
                | false => rfl
      · trivial
    · trivial

theorem astep_ok (hA : A.Ok P) {s : AState} {fr : Frame} {cs : List Frame} (hM : MRel P E L f s fr cs w) : StepOut A P E L cs0 f fr cs w (astep A L s) := by
  obtain ⟨⟨fi, e, todo, ds, m⟩, acs, h⟩ := s
  unfold astep
  cases m with
  | run => exact arun_ok hA hM
  | returning => exact aunwind_ok hA (by simp) hM
  | panicking c => exact aunwind_ok hA (by simp) hM
end
end Go.Abs

namespace Go.Abs
set_option linter.unusedVariables false
set_option linter.unusedSimpArgs false

/-! ## the same, sign by sign, is the same -/
theorem beqKind_eq' {a b : IntKind} (h : beqKind a b = true) : a = b := by cases a <;> cases b <;> simp_all [beqKind]
theorem beqBool_eq' {a b : Bool} (h : beqBool a b = true) : a = b := by cases a <;> cases b <;> simp_all [beqBool]
theorem beqInt_eq' {a b : Int} (h : beqInt a b = true) : a = b := by
  cases a with
  | ofNat a => cases b with
    | ofNat b => simp only [beqInt] at h; rw [Nat.eq_of_beq_eq_true h]
    | negSucc b => simp [beqInt] at h
  | negSucc a => cases b with
    | ofNat b => simp [beqInt] at h
    | negSucc b => simp only [beqInt] at h; rw [Nat.eq_of_beq_eq_true h]
theorem beqStr_eq' : ∀ {a b : List Nat}, beqStr a b = true → a = b := by
  intro a
  induction a with
  | nil => intro b h; cases b with
    | nil => rfl
    | cons y b => simp [beqStr] at h
  | cons x a ih => intro b h; cases b with
    | nil => simp [beqStr] at h
    | cons y b =>
      simp only [beqStr, cond_eq] at h
      split at h
      · rename_i hxy; rw [Nat.eq_of_beq_eq_true hxy, ih h]
      · simp at h
theorem posBeq_eq' : ∀ {a b : Pos}, a.beq b = true → a = b := by
  intro a
  induction a with
  | H => intro b h; cases b <;> simp_all [Pos.beq]
  | O a ih => intro b h; cases b with
    | O b => rw [ih (by simpa [Pos.beq] using h)]
    | _ => simp [Pos.beq] at h
  | I a ih => intro b h; cases b with
    | I b => rw [ih (by simpa [Pos.beq] using h)]
    | _ => simp [Pos.beq] at h

mutual
theorem beqV_eq : ∀ (a b : AVal), beqV a b = true → a = b
  | .bool x, b, h => by cases b <;> simp only [beqV, Bool.false_eq_true] at h; rw [beqBool_eq' h]
  | .int j x, b, h => by
    cases b <;> simp only [beqV, Bool.false_eq_true, cond_eq] at h
    split at h
    · rename_i hk; rw [beqKind_eq' hk, beqInt_eq' h]
    · simp at h
  | .str x, b, h => by cases b <;> simp only [beqV, Bool.false_eq_true] at h; rw [beqStr_eq' h]
  | .ptr x o, b, h => by
    cases b <;> simp only [beqV, Bool.false_eq_true, cond_eq] at h
    split at h
    · rename_i hk; rw [posBeq_eq' hk, Nat.eq_of_beq_eq_true h]
    · simp at h
  | .nilPtr, b, h => by cases b <;> simp_all [beqV]
  | .slice x o n c, b, h => by
    cases b <;> simp only [beqV, Bool.false_eq_true, cond_eq] at h
    split at h
    · rename_i h1
      split at h
      · rename_i h2
        split at h
        · rename_i h3; rw [posBeq_eq' h1, Nat.eq_of_beq_eq_true h2, Nat.eq_of_beq_eq_true h3, Nat.eq_of_beq_eq_true h]
        · simp at h
      · simp at h
    · simp at h
  | .sliceO x o n c, b, h => by
    cases b <;> simp only [beqV, Bool.false_eq_true, cond_eq] at h
    split at h
    · rename_i h1
      split at h
      · rename_i h2
        split at h
        · rename_i h3; rw [posBeq_eq' h1, Nat.eq_of_beq_eq_true h2, Nat.eq_of_beq_eq_true h3, Nat.eq_of_beq_eq_true h]
        · simp at h
      · simp at h
    · simp at h
  | .nilSlice, b, h => by cases b <;> simp_all [beqV]
  | .map x, b, h => by cases b <;> simp only [beqV, Bool.false_eq_true] at h; rw [posBeq_eq' h]
  | .nilMap, b, h => by cases b <;> simp_all [beqV]
  | .func g x y, b, h => by
    cases b <;> simp only [beqV, Bool.false_eq_true, cond_eq] at h
    split at h
    · rename_i h1
      split at h
      · rename_i h2; rw [Nat.eq_of_beq_eq_true h1, beqVs_eq _ _ h2, beqVs_eq _ _ h]
      · simp at h
    · simp at h
  | .yield x, b, h => by cases b <;> simp only [beqV, Bool.false_eq_true] at h; rw [posBeq_eq' h]
  | .nilFunc, b, h => by cases b <;> simp_all [beqV]
  | .iface t x, b, h => by
    cases b <;> simp only [beqV, Bool.false_eq_true, cond_eq] at h
    split at h
    · rename_i h1; rw [Nat.eq_of_beq_eq_true h1, beqV_eq _ _ h]
    · simp at h
  | .nilIface, b, h => by cases b <;> simp_all [beqV]
  | .agg x, b, h => by cases b <;> simp only [beqV, Bool.false_eq_true] at h; rw [beqVs_eq _ _ h]
  | .tuple x, b, h => by cases b <;> simp only [beqV, Bool.false_eq_true] at h; rw [beqVs_eq _ _ h]
theorem beqVs_eq : ∀ (a b : List AVal), beqVs a b = true → a = b
  | [], b, h => by cases b <;> simp_all [beqVs]
  | x :: a, b, h => by
    cases b with
    | nil => simp [beqVs] at h
    | cons y b =>
      simp only [beqVs, cond_eq] at h
      split at h
      · rename_i h1; rw [beqV_eq _ _ h1, beqVs_eq _ _ h]
      · simp at h
end

theorem beqEs_eq : ∀ {a b : List AEntry}, beqEs a b = true → a = b := by
  intro a
  induction a with
  | nil => intro b h; cases b <;> simp_all [beqEs]
  | cons x a ih =>
    intro b h
    cases b with
    | nil => simp [beqEs] at h
    | cons y b =>
      simp only [beqEs, cond_eq] at h
      split at h
      · rename_i h1
        split at h
        · rename_i h2
          split at h
          · rename_i h3
            obtain ⟨xk, xv, xb⟩ := x
            obtain ⟨yk, yv, yb⟩ := y
            simp only at h1 h2 h3
            rw [beqV_eq _ _ h1, beqV_eq _ _ h2, Nat.eq_of_beq_eq_true h3, ih h]
          · simp at h
        · simp at h
      · simp at h
theorem beqO_eq {a b : AObj} (h : beqO a b = true) : a = b := by
  cases a <;> cases b <;> simp only [beqO, Bool.false_eq_true, cond_eq] at h
  · split at h
    · rename_i h1
      split at h
      · rename_i h2
        split at h
        · rename_i h3; rw [beqVs_eq _ _ h1, Nat.eq_of_beq_eq_true h2, beqBool_eq' h3, beqBool_eq' h]
        · simp at h
      · simp at h
    · simp at h
  · split at h
    · rename_i h1; rw [Nat.eq_of_beq_eq_true h1, beqEs_eq h]
    · simp at h
theorem beqChain_eq : ∀ {a b : List (AVal × Bool)}, beqChain a b = true → a = b := by
  intro a
  induction a with
  | nil => intro b h; cases b <;> simp_all [beqChain]
  | cons x a ih =>
    intro b h
    cases b with
    | nil => simp [beqChain] at h
    | cons y b =>
      simp only [beqChain, cond_eq] at h
      split at h
      · rename_i h1
        split at h
        · rename_i h2
          obtain ⟨xk, xv⟩ := x
          obtain ⟨yk, yv⟩ := y
          simp only at h1 h2
          rw [beqV_eq _ _ h1, beqBool_eq' h2, ih h]
        · simp at h
      · simp at h
theorem beqEnd_eq {a b : AEnd} (h : beqEnd a b = true) : a = b := by
  cases a <;> cases b <;> simp only [beqEnd, Bool.false_eq_true] at h
  · rw [beqV_eq _ _ h]
  · rw [beqChain_eq h]

/-! ## ways that meet -/
theorem killed_get : ∀ (p : Pos) (t : PTree AObj), (killed t).get p = (t.get p).map fun _ => .gone := by
  intro p
  induction p with
  | H => intro t; cases t with
    | leaf => rfl
    | node l v r => cases v <;> rfl
  | O p ih => intro t; cases t with
    | leaf => rfl
    | node l v r => exact ih l
  | I p ih => intro t; cases t with
    | leaf => rfl
    | node l v r => exact ih r
theorem leaf_get {α : Type} (p : Pos) : (PTree.leaf : PTree α).get p = none := by cases p <;> rfl
theorem meet_get : ∀ (p : Pos) (a b : PTree AObj), (meet a b).get p = meetO (a.get p) (b.get p) := by
  intro p
  induction p with
  | H =>
    intro a b
    cases a with
    | leaf => cases b with
      | leaf => rfl
      | node l v r => cases v <;> rfl
    | node l v r => cases b with
      | leaf => cases v <;> rfl
      | node l' v' r' => rfl
  | O p ih =>
    intro a b
    cases a with
    | leaf =>
      simp only [meet, killed_get, leaf_get]
      cases b.get (.O p) <;> rfl
    | node l v r => cases b with
      | leaf =>
        simp only [meet, PTree.get, killed_get]
        cases l.get p <;> rfl
      | node l' v' r' => exact ih l l'
  | I p ih =>
    intro a b
    cases a with
    | leaf =>
      simp only [meet, killed_get, leaf_get]
      cases b.get (.I p) <;> rfl
    | node l v r => cases b with
      | leaf =>
        simp only [meet, PTree.get, killed_get]
        cases r.get p <;> rfl
      | node l' v' r' => exact ih r r'

theorem union_get : ∀ (p : Pos) (a b : PTree AObj), (a.union b).get p = match a.get p with | some o => some o | none => b.get p := by
  intro p
  induction p with
  | H =>
    intro a b
    cases a with
    | leaf => rfl
    | node l v r => cases b with
      | leaf => cases v <;> rfl
      | node l' v' r' => cases v <;> rfl
  | O p ih =>
    intro a b
    cases a with
    | leaf => rfl
    | node l v r => cases b with
      | leaf =>
        simp only [PTree.union, PTree.get]
        cases l.get p <;> rfl
      | node l' v' r' => exact ih l l'
  | I p ih =>
    intro a b
    cases a with
    | leaf => rfl
    | node l v r => cases b with
      | leaf =>
        simp only [PTree.union, PTree.get]
        cases r.get p <;> rfl
      | node l' v' r' => exact ih r r'

theorem hget_leaf {L : List (PTree AObj)} {t : PTree AObj} {nx : Pos} : hget (t :: L) ⟨.leaf, nx⟩ = hget L ⟨t, nx⟩ := by
  funext i
  simp only [hget, leaf_get, lowGet]
theorem hget_union {L : List (PTree AObj)} {t t' : PTree AObj} {nx : Pos} : hget L ⟨t'.union t, nx⟩ = hget (t :: L) ⟨t', nx⟩ := by
  funext i
  simp only [hget, union_get, lowGet]
  cases t'.get i <;> rfl

/-- what is known behind one of two ways, where only what both say is kept -/
structure Less (L : List (PTree AObj)) (a b : Heap) : Prop where
  get : ∀ i o, hget L b i = some o → o.live = true → hget L a i = some o
  next : a.next.toNat ≤ b.next.toNat
theorem Less.refl {L : List (PTree AObj)} (a : Heap) : Less L a a := ⟨fun _ _ h _ => h, Nat.le_refl _⟩
theorem Less.trans {L : List (PTree AObj)} {a b c : Heap} (h : Less L a b) (k : Less L b c) : Less L a c := ⟨fun i o h1 h2 => h.get i o (k.get i o h1 h2) h2, Nat.le_trans h.next k.next⟩

theorem meetOut_ok {L : List (PTree AObj)} {x y z : AEnd × Heap} (h : meetOut x y = some z) : (x.1 = z.1 ∧ Less L x.2 z.2) ∧ (y.1 = z.1 ∧ Less L y.2 z.2) := by
  unfold meetOut at h
  rw [cond_eq] at h
  split at h
  · rename_i he
    have he := beqEnd_eq he
    simp at h; subst h
    have hmax : ∀ a b : Pos, a.toNat ≤ (maxPos a b).toNat ∧ b.toNat ≤ (maxPos a b).toNat := by
      intro a b
      unfold maxPos
      rw [cond_eq]
      split
      · rename_i hle; exact ⟨Nat.le_of_ble_eq_true hle, Nat.le_refl _⟩
      · rename_i hle
        have : ¬ a.toNat ≤ b.toNat := fun h' => hle (Nat.ble_eq_true_of_le h')
        exact ⟨Nat.le_refl _, by omega⟩
    have hget' : ∀ i o, hget L ⟨meet x.2.top y.2.top, maxPos x.2.next y.2.next⟩ i = some o → o.live = true → hget L x.2 i = some o ∧ hget L y.2 i = some o := by
      intro i o h1 h2
      simp only [hget, meet_get] at h1 ⊢
      cases hx : x.2.top.get i with
      | none => cases hy : y.2.top.get i with
        | none => rw [hx, hy] at h1; simpa [meetO] using h1
        | some b => rw [hx, hy] at h1; simp [meetO] at h1; subst h1; simp [AObj.live] at h2
      | some a => cases hy : y.2.top.get i with
        | none => rw [hx, hy] at h1; simp [meetO] at h1; subst h1; simp [AObj.live] at h2
        | some b =>
          rw [hx, hy] at h1
          simp only [meetO, cond_eq, Option.some.injEq] at h1
          split at h1
          · rename_i hb
            have := beqO_eq hb
            subst this; subst h1
            exact ⟨rfl, rfl⟩
          · subst h1; simp [AObj.live] at h2
    exact ⟨⟨rfl, fun i o a b => (hget' i o a b).1, (hmax _ _).1⟩, ⟨he.symm, fun i o a b => (hget' i o a b).2, (hmax _ _).2⟩⟩
  · simp at h

theorem runAll_ok {L : List (PTree AObj)} {rn : AState → Option (AEnd × Heap)} : ∀ {l : List AState} {x : AEnd × Heap}, runAll rn l = some x → ∀ s ∈ l, ∃ y, rn s = some y ∧ y.1 = x.1 ∧ Less L y.2 x.2 := by
  intro l
  induction l with
  | nil => intro x h; simp [runAll] at h
  | cons a l ih =>
    intro x h s hs
    unfold runAll at h
    split at h
    · rcases List.mem_cons.1 hs with rfl | hs
      · exact ⟨x, h, rfl, .refl _⟩
      · simp at hs
    · split at h
      · rename_i y z hy hz
        obtain ⟨⟨a1, a2⟩, ⟨b1, b2⟩⟩ := meetOut_ok (L := L) h
        rcases List.mem_cons.1 hs with rfl | hs
        · exact ⟨y, hy, a1, a2⟩
        · obtain ⟨u, h1, h2, h3⟩ := ih hz s hs
          exact ⟨u, h1, h2.trans b1, h3.trans b2⟩
      · simp at h
end Go.Abs

namespace Go.Abs
set_option linter.unusedVariables false
set_option linter.unusedSimpArgs false

/-! ## the frame at the bottom stays -/
def bot (fr : AFrame) : List AFrame → FuncId
  | [] => fr.fi.fn
  | c :: cs => bot c cs
def AState.bot (s : AState) : FuncId := Abs.bot s.fr s.callers
theorem bot_congr {a b : AFrame} (h : a.fi = b.fi) : ∀ cs, bot a cs = bot b cs
  | [] => by simp [bot, h]
  | _ :: _ => rfl
theorem finishA_fi {a a' : AFrame} {v : AVal} (h : finishA a v = some a') : a'.fi = a.fi := by
  obtain ⟨fi, e, todo, ds, m⟩ := a
  unfold finishA at h
  simp only at h
  split at h
  · split at h
    · simp at h; subst h; rfl
    · simp at h
  · simp at h; subst h; rfl
  · simp at h
theorem raiseA_fi (a : AFrame) (vs : List (AVal × Bool)) : (raiseA a vs).fi = a.fi := by
  obtain ⟨fi, e, todo, ds, m⟩ := a
  cases m <;> rfl

/-- all places where a step may lead have the same frame at the bottom -/
def StepBot (b : FuncId) : AStep → Prop
  | .fail => True
  | .next s => s.bot = b
  | .ways l => ∀ s ∈ l, s.bot = b
  | .call _ _ s => s.bot = b
  | .draw _ _ _ s => s.bot = b

theorem sb {fr fr' : AFrame} {cs : List AFrame} {h : Heap} (hf : fr'.fi = fr.fi) : StepBot (bot fr cs) (.next ⟨fr', cs, h⟩) := bot_congr hf cs
theorem sbc {fr fr' c : AFrame} {cs : List AFrame} {h : Heap} (hf : fr'.fi = c.fi) : StepBot (bot fr (c :: cs)) (.next ⟨fr', cs, h⟩) := bot_congr hf cs

theorem sbb {fr fr' c c' : AFrame} {cs : List AFrame} {h : Heap} (hc : c'.fi = c.fi) : StepBot (bot fr (c :: cs)) (.next ⟨fr', c' :: cs, h⟩) := bot_congr hc cs

theorem sbp {fr fr' g : AFrame} {cs : List AFrame} {h : Heap} (hf : fr'.fi = fr.fi) : StepBot (bot fr cs) (.next ⟨g, fr' :: cs, h⟩) := bot_congr hf cs
theorem StepBot.of {b c : FuncId} {r : AStep} (h : c = b) (k : StepBot c r) : StepBot b r := h ▸ k

section
variable {A : AProg} {L : List (PTree AObj)} {h : Heap}
theorem branches_bot {fr : AFrame} {cs : List AFrame} {r m : Pos} {since : Nat} {seen : List Nat} : ∀ (l : List AEntry), ∀ s ∈ aresume.branches fr cs h r m since seen l, s.bot = bot fr cs := by
  intro l
  induction l with
  | nil => intro s hs; simp [aresume.branches] at hs
  | cons x l ih =>
    intro s hs
    unfold aresume.branches at hs
    split at hs
    · rename_i fr' hf
      rcases List.mem_cons.1 hs with rfl | hs
      · exact bot_congr (finishA_fi hf) cs
      · exact ih s hs
    · simp at hs

theorem aresume_bot {s : AState} {r : ARes} : StepBot s.bot (aresume A L s r) := by
  obtain ⟨fr, cs, h⟩ := s
  unfold aresume
  simp only
  split
  · split
    · rfl
    · split
      · rfl
      · trivial
  · split
    · split
      · rfl
      · trivial
    · trivial
  · split
    · split
      · rename_i fr' hf
        exact bot_congr (a := fr') (b := fr) (by have := finishA_fi hf; exact this) cs
      · trivial
    · trivial
  · split
    · trivial
    · split
      · split
        · rename_i fr' hf; exact sb (finishA_fi hf)
        · trivial
      · split
        · split
          · exact sbb rfl
          · trivial
        · split
          · rfl
          · trivial
      · trivial
  · exact sb (raiseA_fi _ _)
  · intro s hs
    exact branches_bot _ s hs
  · trivial

theorem aleave_bot {s : AState} {j : Option Code} : StepBot s.bot (aleave A L s j) := by
  obtain ⟨⟨fi, e, todo, ds, m⟩, cs, h⟩ := s
  unfold aleave
  simp only
  split
  · split
    · exact sb rfl
    · exact sb rfl
    · trivial
  · split
    · split
      · rename_i c' hf
        exact sbc (finishA_fi hf)
      · trivial
    · trivial

theorem acode_bot {fi : FInfo} {e : Env} {k todo : List AItem} {c : Code} {ds : List ADef} {m : AMode} {cs : List AFrame} : StepBot (bot ⟨fi, e, todo, ds, m⟩ cs) (acode A L ⟨⟨fi, e, todo, ds, m⟩, cs, h⟩ fi e ds cs h k c) := by
  have hl : ∀ j, StepBot (bot ⟨fi, e, todo, ds, m⟩ cs) (aleave A L ⟨⟨fi, e, todo, ds, m⟩, cs, h⟩ j) := fun j => aleave_bot
  unfold acode
  split
  · exact sb rfl
  · exact sb rfl
  · exact sb rfl
  · split
    · exact sb rfl
    · trivial
  · exact sb rfl
  · exact sb rfl
  · exact sb rfl
  · split
    · exact sb rfl
    · exact hl _
  · split
    · exact sb rfl
    · exact hl _
  · exact hl _
  · split
    · rfl
    · exact sb rfl
  · split
    · simp only
      split
      · exact bot_congr (a := ⟨fi, e, _, _, .run⟩) (b := ⟨fi, e, todo, ds, m⟩) rfl cs
      · trivial
    · trivial
  · trivial

theorem arun_bot {fi : FInfo} {e : Env} {todo : List AItem} {ds : List ADef} {m : AMode} {cs : List AFrame} : StepBot (bot ⟨fi, e, todo, ds, m⟩ cs) (arun A L ⟨⟨fi, e, todo, ds, m⟩, cs, h⟩ fi e ds cs h todo) := by
  unfold arun
  split
  · exact aleave_bot (s := ⟨⟨fi, e, [], ds, m⟩, cs, h⟩)
  · split
    · exact sb rfl
    · exact sb rfl
    · exact sb rfl
    · split
      · exact sb rfl
      · rename_i e' h' rest r _
        exact StepBot.of (c := bot ⟨fi, e', .inRegion _ rest :: _, ds, .run⟩ cs) (bot_congr (a := ⟨fi, e', .inRegion _ rest :: _, ds, .run⟩) (b := ⟨fi, e, _, ds, m⟩) rfl cs) (aresume_bot (s := ⟨⟨fi, e', .inRegion _ rest :: _, ds, .run⟩, cs, h'⟩))
      · trivial
    · trivial
    · split
      · split
        · trivial
        · exact sb rfl
      · trivial
    · split
      · split
        · split
          · exact sb rfl
          · trivial
        · trivial
      · trivial
    · exact acode_bot
    · trivial

theorem aunwind_bot {fi : FInfo} {e : Env} {todo : List AItem} {ds : List ADef} {m : AMode} {cs : List AFrame} : StepBot (bot ⟨fi, e, todo, ds, m⟩ cs) (aunwind A L fi e todo ds m cs h) := by
  unfold aunwind
  split
  · split
    · exact sb rfl
    · trivial
  · split
    · exact sbp rfl
    · trivial
  · split
    · rename_i c cs'
      exact sbc (raiseA_fi _ _)
    · rename_i c cs'
      split
      · split
        · split
          · rename_i c' hf
            exact sbc (finishA_fi hf)
          · trivial
        · simp only
          split
          · exact sbc rfl
          · rfl
      · trivial
    · trivial

theorem astep_bot {s : AState} : StepBot s.bot (astep A L s) := by
  obtain ⟨⟨fi, e, todo, ds, m⟩, cs, h⟩ := s
  unfold astep
  simp only
  split
  · exact arun_bot
  · exact aunwind_bot
end
end Go.Abs

namespace Go.Abs
set_option linter.unusedVariables false
set_option linter.unusedSimpArgs false

def EndRel (P : Program) (f : Inj) (w : World) (fr : Frame) : AEnd → Prop
  | .ret v => ∃ v', fr.leaving P w (.returned v') ∧ VRel f v v'
  | .pan c => ∃ c', fr.leaving P w (.panicked c') ∧ ChRel f c c'

/-- a run ends as the evaluator says -/
def Ends (P : Program) (E : Keep) (L : List (PTree AObj)) (cs0 : List Frame) (f : Inj) (fr : Frame) (cs : List Frame) (w : World) (b : FuncId) (x : AEnd × Heap) : Prop :=
  ∃ f' fr' w', Steps P (lone fr (cs ++ cs0) w) (lone fr' cs0 w') ∧ f.le f' ∧ HRel E f' (hget L x.2) x.2.next w' ∧ EndRel P f' w' fr' x.1 ∧ fr'.fn = b

/-- what an evaluator of runs is to be -/
def RunSound (P : Program) (L : List (PTree AObj)) (rn : AState → Option (AEnd × Heap)) : Prop :=
  ∀ s x, rn s = some x → ∀ E f fr cs cs0 w, MRel P E L f s fr cs w → Ends P E L cs0 f fr cs w s.bot x

/-- what a region that draws its order comes to, whatever it draws -/
def DrawSound (A : AProg) (P : Program) (L : List (PTree AObj)) (rn : AState → Option (AEnd × Heap)) : Prop :=
  ∀ (nt : Nat) (ops : Array Oper) (tm : PTree AVal) (h : Heap) (out : DOut), drawRun rn A L nt ops tm h = some out →
  ∀ (E : Keep) (f : Inj) (fi : FInfo) (k : List AItem) (ds : List ADef) (fr : Frame) (cs : List Frame) (w : World) (t : Nat) (k' : List Item), fi.nt = nt →
    FrRel P f ⟨fi, ⟨[], tm⟩, k, ds, .run⟩ { fr with todo := k' } → fr.todo = .inRegion ops (Region.linearise .any ops t) :: k' → GRel f → HRel E f (hget L h) h.next w →
    match out with
    | .done e h' => ∃ f' fr' w', Steps P (lone fr cs w) (lone fr' cs w') ∧ f.le f' ∧ FrRel P f' ⟨fi, e, k, ds, .run⟩ fr' ∧ HRel E f' (hget L h') h'.next w'
    | .pan c h' => ∃ f' fr' w', Steps P (lone fr cs w) (lone fr' cs w') ∧ f.le f' ∧ FrRel P f' (raiseA ⟨fi, ⟨[], delDsts ops.toList tm⟩, [.lost], ds, .run⟩ c) fr' ∧ HRel E f' (hget L h') h'.next w'

section
variable {A : AProg} {P : Program} {L : List (PTree AObj)} {E : Keep} {f : Inj} {h h' : Heap} {nx : Pos} {w : World} {cs0 : List Frame}

theorem Ends.head {f1 : Inj} {fr fr1 : Frame} {cs cs1 : List Frame} {w1 : World} {b : FuncId} {x : AEnd × Heap} (hs : Steps P (lone fr (cs ++ cs0) w) (lone fr1 (cs1 ++ cs0) w1)) (hf : f.le f1) (h : Ends P E L cs0 f1 fr1 cs1 w1 b x) : Ends P E L cs0 f fr cs w b x := by
  obtain ⟨f', fr', w', a, b, c⟩ := h
  exact ⟨f', fr', w', hs.trans a, Inj.le_trans hf b, c⟩

theorem Ends.less {fr : Frame} {cs : List Frame} {b : FuncId} {x y : AEnd × Heap} (h : Ends P E L cs0 f fr cs w b y) (he : y.1 = x.1) (hl : Less L y.2 x.2) : Ends P E L cs0 f fr cs w b x := by
  obtain ⟨f', fr', w', h1, h2, h3, h4, h5⟩ := h
  exact ⟨f', fr', w', h1, h2, h3.less hl.get hl.next, he ▸ h4, h5⟩

theorem over_ok (hA : A.Ok P) {s : AState} {fr : Frame} {cs : List Frame} {x : AEnd × Heap} (hM : MRel P E L f s fr cs w) (ho : over? A L s = some (some x)) : Ends P E L cs0 f fr cs w s.bot x := by
  obtain ⟨⟨fi, e, todo, ds, m⟩, acs, h⟩ := s
  obtain ⟨hF, hC, hH, hg⟩ := hM
  unfold over? at ho
  simp only at ho
  split at ho
  · have hcs : cs = [] := hC
    subst hcs
    simp only [Option.some.injEq] at ho
    split at ho
    · rename_i v hdk hrnd hv
      simp at ho; subst ho
      obtain ⟨fn, v', hfn, hrun, hvr⟩ := aresult_ok (P := P) hA hH hF.env hv
      have hkind := hF.kind
      simp only [hdk] at hkind
      refine ⟨f, fr, w, .refl _ _, f.le_refl, hH, ⟨v', ⟨hF.mode, hF.defers, hkind, fn, ?_, hrun⟩, hvr⟩, hF.fn⟩
      rw [hF.fn]; exact hfn
    · simp at ho
  · have hcs : cs = [] := hC
    subst hcs
    simp only [Option.some.injEq] at ho
    split at ho
    · rename_i hdk hrnd
      simp at ho; subst ho
      obtain ⟨ch, hmode, hch⟩ := hF.mode
      obtain ⟨fn, hfn⟩ := hF.fnok hrnd
      refine ⟨f, fr, w, .refl _ _, f.le_refl, hH, ⟨ch, ⟨hmode, hF.defers, fn, ?_⟩, hch⟩, hF.fn⟩
      rw [hF.fn]; exact hfn
    · simp at ho
  · simp at ho

theorem Ends.finish {f1 : Inj} {fr fr1 : Frame} {cs cs1 : List Frame} {w1 : World} {b : FuncId} {x : AEnd × Heap} (h : Ends P E L cs0 f fr cs w b x) : Ends P E L cs0 f fr cs w b x := h

theorem run_ok (hA : A.Ok P) (hD : ∀ L rn, RunSound P L rn → DrawSound A P L rn) : ∀ (n : Nat) (L : List (PTree AObj)), RunSound P L (run n A L) := by
  intro n
  induction n with
  | zero => intro L s x h; simp [run] at h
  | succ n ih =>
    intro L s x hr E f fr cs cs0 w hM
    unfold run at hr
    split at hr
    · rename_i r ho
      rw [hr] at ho
      exact over_ok hA hM ho
    · have hst := astep_ok (L := L) (cs0 := cs0) hA hM
      have hbot := astep_bot (A := A) (L := L) (s := s)
      generalize hs : astep A L s = st at hr hst hbot
      cases st with
      | fail => simp at hr
      | next s' =>
        simp only at hr
        obtain ⟨f', fr', cs', w', h1, h2, h3⟩ := hst
        have := ih L s' x hr E f' fr' cs' cs0 w' h3
        rw [show s'.bot = s.bot from hbot] at this
        exact this.head h1 h2
      | ways l =>
        simp only at hr
        rcases hst with rfl | ⟨s', hmem, f', fr', cs', w', h1, h2, h3⟩
        · simp [runAll] at hr
        · obtain ⟨y, hy, he, hl⟩ := runAll_ok (L := L) hr s' hmem
          have := ih L s' y hy E f' fr' cs' cs0 w' h3
          rw [hbot s' hmem] at this
          exact (this.less he hl).head h1 h2
      | call g args s' =>
        obtain ⟨a, acs, t, nx⟩ := s'
        simp only at hr
        obtain ⟨f', fr', cs', w', h1, h2, h3, h4⟩ := hst
        have hbot : bot a acs = s.bot := hbot
        split at hr
        · rename_i fr0 cs1 t1 nx1 g' heq hen
          obtain ⟨⟨⟩, ⟨⟩, ⟨⟩, ⟨⟩⟩ : fr0 = a ∧ cs1 = acs ∧ t1 = t ∧ nx1 = nx := by
            simp at heq; obtain ⟨rfl, rfl, rfl, rfl⟩ := heq; exact ⟨rfl, rfl, rfl, rfl⟩
          have hex : ∃ fn c, A.funcs.get (posOf g) = some fn ∧ fn.body = some c := by
            unfold enterA at hen
            split at hen
            · rename_i fn hfn
              split at hen
              · rename_i c hc; exact ⟨fn, c, hfn, hc⟩
              · simp at hen
            · simp at hen
          obtain ⟨fn, c, hfn, hc⟩ := hex
          obtain ⟨vargs, h5, h6⟩ := h4 fn c hfn hc
          obtain ⟨h7, _⟩ := enterA_ok hA hen h5
          have hM' : MRel P E (t :: L) f' ⟨g', [], ⟨.leaf, nx⟩⟩ (Frame.enter P g vargs .normal) [] w' := ⟨h7, rfl, by
            have := h3.heap
            simp only at this
            rw [show hget (t :: L) ⟨.leaf, nx⟩ = hget L ⟨t, nx⟩ from hget_leaf]
            exact this, h3.glob⟩
          split at hr
          · rename_i v t' nx' hrun
            split at hr
            · rename_i fr2 hfin
              obtain ⟨f2, fr3, w3, s1, s2, s3, ⟨v', s4, s5⟩, s6⟩ := ih (t :: L) _ _ hrun E f' _ [] (fr' :: (cs' ++ cs0)) w' hM'
              have hMM : MRel P E L f2 ⟨fr2, acs, ⟨t'.union t, nx'⟩⟩ (fr'.finish v') cs' w3 := ⟨finish_ok hfin (h3.fr.mono s2) s5, h3.cs.mono s2, by
                have := s3
                simp only at this
                rw [← hget_union (nx := nx')] at this
                exact this, h3.glob.mono s2⟩
              have := ih L _ x hr E f2 _ cs' cs0 w3 hMM
              rw [show AState.bot ⟨fr2, acs, ⟨t'.union t, nx'⟩⟩ = s.bot from (bot_congr (finishA_fi hfin) acs).trans hbot] at this
              exact this.head (h1.trans (.head h6 (s1.trans (.one (step_leave_returned s4))))) (Inj.le_trans h2 s2)
            · simp at hr
          · rename_i ch t' nx' hrun
            obtain ⟨f2, fr3, w3, s1, s2, s3, ⟨v', s4, s5⟩, s6⟩ := ih (t :: L) _ _ hrun E f' _ [] (fr' :: (cs' ++ cs0)) w' hM'
            have hMM : MRel P E L f2 ⟨raiseA a ch, acs, ⟨t'.union t, nx'⟩⟩ (fr'.raise v') cs' w3 := ⟨raise_ok (h3.fr.mono s2) s5, h3.cs.mono s2, by
              have := s3
              simp only at this
              rw [← hget_union (nx := nx')] at this
              exact this, h3.glob.mono s2⟩
            have := ih L _ x hr E f2 _ cs' cs0 w3 hMM
            rw [show AState.bot ⟨raiseA a ch, acs, ⟨t'.union t, nx'⟩⟩ = s.bot from (bot_congr (raiseA_fi _ _) acs).trans hbot] at this
            exact this.head (h1.trans (.head h6 (s1.trans (.one (step_leave_panicked s4))))) (Inj.le_trans h2 s2)
          · simp at hr
        · simp at hr
      | draw id ops k s' =>
        obtain ⟨⟨fi, e, todo, ds, m⟩, acs, h⟩ := s'
        simp only at hr
        obtain ⟨h1, hm, k', ht, hk⟩ := hst
        have hbot : bot ⟨fi, e, todo, ds, m⟩ acs = s.bot := hbot
        have hmm : m = .run := by
          have := h1.fr.mode
          cases m with
          | run => rfl
          | returning => rw [hm] at this; simp [MoRel] at this
          | panicking c => obtain ⟨c', e, _⟩ := this; rw [hm] at e; simp at e
        subst hmm
        have hstep : step P (lone fr (cs ++ cs0) w) = .next (lone { fr with todo := .inRegion ops (Region.linearise .any ops (w.tape w.drawn (.order fr.fn id))) :: k' } (cs ++ cs0) { w with drawn := w.drawn + 1 }) := by
          refine step_lone_go ?_
          simp [stepG, hm, stepG.exec, ht, choose, Sem.run, Question.forced, Question.cut, hA.mixed, Region.schedule]
        have hF := h1.fr
        have hF' : FrRel P f ⟨fi, ⟨[], flush fi.msk e.rc e.tm⟩, k, ds, .run⟩ { ({ fr with todo := .inRegion ops (Region.linearise .any ops (w.tape w.drawn (.order fr.fn id))) :: k' } : Frame) with todo := k' } :=
          ⟨hF.fn, hF.env.flush, .inl hk, hF.defers, hF.mode, hF.kind, hF.rnd, hF.rndk, hF.fnok⟩
        have hH' : HRel E f (hget L h) h.next { w with drawn := w.drawn + 1 } := h1.heap.same rfl ⟨rfl, rfl, rfl⟩
        split at hr
        · rename_i e' h' hd
          obtain ⟨f2, fr2, w2, s1, s2, s3, s4⟩ := hD L _ (ih L) fi.nt ops _ h _ hd E f fi k ds _ (cs ++ cs0) _ _ k' rfl hF' rfl h1.glob hH'
          have := ih L _ x hr E f2 fr2 cs cs0 w2 ⟨s3, h1.cs.mono s2, s4, h1.glob.mono s2⟩
          rw [show AState.bot ⟨⟨fi, e', k, ds, .run⟩, acs, h'⟩ = s.bot from (bot_congr (a := ⟨fi, e', k, ds, .run⟩) (b := ⟨fi, e, todo, ds, .run⟩) rfl acs).trans hbot] at this
          exact this.head (.head hstep s1) s2
        · rename_i c h' hd
          obtain ⟨f2, fr2, w2, s1, s2, s3, s4⟩ := hD L _ (ih L) fi.nt ops _ h _ hd E f fi k ds _ (cs ++ cs0) _ _ k' rfl hF' rfl h1.glob hH'
          have := ih L _ x hr E f2 fr2 cs cs0 w2 ⟨s3, h1.cs.mono s2, s4, h1.glob.mono s2⟩
          rw [show AState.bot ⟨raiseA ⟨fi, ⟨[], delDsts ops.toList (flush fi.msk e.rc e.tm)⟩, [.lost], ds, .run⟩ c, acs, h'⟩ = s.bot from (bot_congr (a := raiseA ⟨fi, ⟨[], delDsts ops.toList (flush fi.msk e.rc e.tm)⟩, [.lost], ds, .run⟩ c) (b := ⟨fi, e, todo, ds, .run⟩) (raiseA_fi _ _) acs).trans hbot] at this
          exact this.head (.head hstep s1) s2
        · simp at hr
end
end Go.Abs

namespace Go.Abs
set_option linter.unusedVariables false
set_option linter.unusedSimpArgs false

/-! ## what the plan of a region that draws says -/
theorem nth_eq' {α : Type} : ∀ (n : Nat) (l : List α), nth n l = l[n]? := fun n l => nth_eq n l

theorem edgeBits_ok {acc : List Nat} : ∀ {l : List Edge} {b : Nat}, edgeBits acc l = some b →
    (∀ e ∈ l, Region.binds .any e = true → e.on < acc.length ∧ b.testBit e.on = true ∧ ∀ i x, acc[e.on]? = some x → x.testBit i = true → b.testBit i = true) ∧
    (∀ i, b.testBit i = true → ∃ e ∈ l, Region.binds .any e = true ∧ (i = e.on ∨ ∃ x, acc[e.on]? = some x ∧ x.testBit i = true)) := by
  intro l
  induction l with
  | nil => intro b h; simp [edgeBits] at h; subst h; simp
  | cons e l ih =>
    intro b h
    have key : ∀ {b : Nat}, (match nth e.on acc, edgeBits acc l with | some b, some r => some (Nat.lor (Nat.lor (Nat.pow 2 e.on) b) r) | _, _ => none) = some b → Region.binds .any e = true →
        (∀ e' ∈ e :: l, Region.binds .any e' = true → e'.on < acc.length ∧ b.testBit e'.on = true ∧ ∀ i x, acc[e'.on]? = some x → x.testBit i = true → b.testBit i = true) ∧
        (∀ i, b.testBit i = true → ∃ e' ∈ e :: l, Region.binds .any e' = true ∧ (i = e'.on ∨ ∃ x, acc[e'.on]? = some x ∧ x.testBit i = true)) := by
      intro b h hb
      split at h
      · rename_i x r hx hr
        simp at h
        rw [nth_eq'] at hx
        obtain ⟨h1, h2⟩ := ih hr
        have htb : ∀ i, b.testBit i = (decide (e.on = i) || x.testBit i || r.testBit i) := by
          intro i
          rw [← h]
          show ((2 ^ e.on ||| x) ||| r).testBit i = _
          rw [Nat.testBit_or, Nat.testBit_or, Nat.testBit_two_pow]
        constructor
        · intro e' he' hb'
          rcases List.mem_cons.1 he' with rfl | he'
          · refine ⟨(List.getElem?_eq_some_iff.1 hx).1, by rw [htb]; simp, ?_⟩
            intro i y hy hyi
            rw [hx] at hy; cases hy
            rw [htb, hyi]; simp
          · obtain ⟨g1, g2, g3⟩ := h1 e' he' hb'
            exact ⟨g1, by rw [htb, g2]; simp, fun i y hy hyi => by rw [htb, g3 i y hy hyi]; simp⟩
        · intro i hi
          rw [htb] at hi
          simp only [Bool.or_eq_true, decide_eq_true_eq] at hi
          rcases hi with (hi | hi) | hi
          · exact ⟨e, List.mem_cons_self .., hb, .inl hi.symm⟩
          · exact ⟨e, List.mem_cons_self .., hb, .inr ⟨x, hx, hi⟩⟩
          · obtain ⟨e', he', g⟩ := h2 i hi
            exact ⟨e', List.mem_cons_of_mem _ he', g⟩
      · simp at h
    have skip : Region.binds .any e = false → edgeBits acc l = some b → 
        (∀ e' ∈ e :: l, Region.binds .any e' = true → e'.on < acc.length ∧ b.testBit e'.on = true ∧ ∀ i x, acc[e'.on]? = some x → x.testBit i = true → b.testBit i = true) ∧
        (∀ i, b.testBit i = true → ∃ e' ∈ e :: l, Region.binds .any e' = true ∧ (i = e'.on ∨ ∃ x, acc[e'.on]? = some x ∧ x.testBit i = true)) := by
      intro hb h
      obtain ⟨h1, h2⟩ := ih h
      constructor
      · intro e' he' hb'
        rcases List.mem_cons.1 he' with rfl | he'
        · rw [hb] at hb'; simp at hb'
        · exact h1 e' he' hb'
      · intro i hi
        obtain ⟨e', he', g⟩ := h2 i hi
        exact ⟨e', List.mem_cons_of_mem _ he', g⟩
    unfold edgeBits at h
    cases hg : e.ground <;> rw [hg] at h <;> simp only at h
    all_goals first
      | exact skip (by simp [Region.binds, hg]) h
      | exact key h (by simp [Region.binds, hg])

theorem allBits_ok : ∀ {l : List Oper} {acc bs : List Nat}, allBits l acc = some bs → bs.length = acc.length + l.length ∧ (∀ i, i < acc.length → bs[i]? = acc[i]?) ∧
    ∀ j o, l[j]? = some o → ∃ b, bs[acc.length + j]? = some b ∧ edgeBits (bs.take (acc.length + j)) o.after.toList = some b := by
  intro l
  induction l with
  | nil => intro acc bs h; simp [allBits] at h; subst h; simp
  | cons o l ih =>
    intro acc bs h
    unfold allBits at h
    split at h
    · rename_i b hb
      obtain ⟨h1, h2, h3⟩ := ih h
      simp only [List.length_append, List.length_cons, List.length_nil] at h1 h2 h3
      have hpre : bs.take acc.length = acc := by
        apply List.ext_getElem?
        intro i
        rw [List.getElem?_take]
        split
        · rename_i hi; rw [h2 i (by omega), List.getElem?_append_left hi]
        · rename_i hi; rw [List.getElem?_eq_none (by omega)]
      refine ⟨by simp; omega, ?_, ?_⟩
      · intro i hi; rw [h2 i (by omega), List.getElem?_append_left hi]
      · intro j o' ho'
        cases j with
        | zero =>
          simp at ho'; subst ho'
          refine ⟨b, ?_, ?_⟩
          · rw [h2 _ (by omega)]; simp
          · simp only [Nat.add_zero]; rw [hpre]; exact hb
        | succ j =>
          obtain ⟨b', g1, g2⟩ := h3 j o' (by simpa using ho')
          have e1 : acc.length + (0 + 1) + j = acc.length + (j + 1) := by omega
          have e2 : acc.length + 1 + j = acc.length + (j + 1) := by omega
          simp only [e1, e2] at g1 g2
          exact ⟨b', g1, g2⟩
    · simp at h

theorem kinds_get (A : AProg) : ∀ (l : List Oper) (i : Nat), (kinds A l)[i]? = l[i]?.map fun o => kindOf A o.op := by
  intro l
  induction l with
  | nil => intro i; simp [kinds]
  | cons o l ih => intro i; cases i <;> simp [kinds, ih]

theorem numbered_get : ∀ (l : List Oper) (ks bs : List Nat) (n i : Nat) (x : Nat × Oper × Nat × Nat), (numbered n l ks bs)[i]? = some x ↔ ∃ o k b, l[i]? = some o ∧ ks[i]? = some k ∧ bs[i]? = some b ∧ x = (n + i, o, k, b) := by
  intro l
  induction l with
  | nil => intro ks bs n i x; simp [numbered]
  | cons o l ih =>
    intro ks bs n i x
    cases ks with
    | nil => simp [numbered]
    | cons k ks =>
      cases bs with
      | nil => simp [numbered]
      | cons b bs =>
        simp only [numbered]
        cases i with
        | zero =>
          constructor
          · intro h; simp at h; subst h
            exact ⟨o, k, b, rfl, rfl, rfl, rfl⟩
          · rintro ⟨o', k', b', h1, h2, h3, rfl⟩
            simp at h1 h2 h3
            subst h1; subst h2; subst h3; rfl
        | succ i =>
          simp only [List.getElem?_cons_succ]
          rw [ih]
          constructor
          · rintro ⟨o', k', b', h1, h2, h3, rfl⟩
            exact ⟨o', k', b', h1, h2, h3, by simp; omega⟩
          · rintro ⟨o', k', b', h1, h2, h3, rfl⟩
            exact ⟨o', k', b', h1, h2, h3, by simp; omega⟩

theorem countIn_eq (b : Nat) (l : List (Nat × Nat)) : countIn b l = l.countP fun x => Nat.testBit b x.1 := by
  induction l with
  | nil => rfl
  | cons x l ih => simp only [countIn, cond_eq, List.countP_cons, ih]; split <;> simp_all
theorem countNot_eq (i : Nat) (l : List (Nat × Nat)) : countNot i l = l.countP fun x => !Nat.testBit x.2 i := by
  induction l with
  | nil => rfl
  | cons x l ih => simp only [countNot, cond_eq, List.countP_cons, ih]; split <;> simp_all

theorem anchorsOf_eq (l : List (Nat × Oper × Nat × Nat)) : anchorsOf l = (l.filter fun x => Nat.beq x.2.2.1 2).map fun x => (x.1, x.2.2.2) := by
  induction l with
  | nil => rfl
  | cons x l ih => simp only [anchorsOf, cond_eq, ih]; split <;> simp_all
theorem itemsOf_eq (an : List (Nat × Nat)) (l : List (Nat × Oper × Nat × Nat)) : itemsOf an l = l.map fun x => ⟨x.2.1, x.2.2.1, countIn x.2.2.2 an, countNot x.1 an⟩ := by
  induction l with
  | nil => rfl
  | cons x l ih => simp only [itemsOf, ih, List.map_cons]

theorem aheadFine_ok {bj : Nat} {oj : Oper} {kj : Nat} : ∀ {acc : List (Nat × Oper × Nat)}, aheadFine bj oj kj acc = true → ∀ x ∈ acc, pairFine x.1 x.2.1 x.2.2 bj oj kj = true := by
  intro acc
  induction acc with
  | nil => intro _ x hx; simp at hx
  | cons y acc ih =>
    intro h x hx
    simp only [aheadFine, cond_eq] at h
    split at h
    · rename_i hy
      rcases List.mem_cons.1 hx with rfl | hx
      · exact hy
      · exact ih h x hx
    · simp at h
theorem allFine_ok : ∀ {l : List (Nat × Oper × Nat × Nat)} {acc : List (Nat × Oper × Nat)}, allFine acc l = true →
    (∀ y ∈ l, (∀ x ∈ acc, pairFine x.1 x.2.1 x.2.2 y.2.2.2 y.2.1 y.2.2.1 = true) ∧ guardFine y.2.2.2 y.2.1.guard = true) ∧ 
    l.Pairwise fun x y => pairFine x.1 x.2.1 x.2.2.1 y.2.2.2 y.2.1 y.2.2.1 = true := by
  intro l
  induction l with
  | nil => intro acc _; simp
  | cons z l ih =>
    intro acc h
    simp only [allFine, cond_eq] at h
    split at h
    · rename_i hz
      simp only [Bool.and_eq_true] at hz
      obtain ⟨h1, h2⟩ := ih h
      refine ⟨?_, ?_⟩
      · intro y hy
        rcases List.mem_cons.1 hy with rfl | hy
        · exact ⟨aheadFine_ok hz.1, hz.2⟩
        · exact ⟨fun x hx => (h1 y hy).1 x (List.mem_cons_of_mem _ hx), (h1 y hy).2⟩
      · refine List.Pairwise.cons ?_ h2
        intro y hy
        exact (h1 y hy).1 _ (List.mem_cons_self ..)
    · simp at h

/-- j stands behind i, always -/
def Bit (bits : List Nat) (j i : Nat) : Prop := ∃ b, bits[j]? = some b ∧ b.testBit i = true

structure Static (A : AProg) (ops : Array Oper) (items : List PItem) (bits : List Nat) (an : List (Nat × Nat)) : Prop where
  len : items.length = ops.size
  item : ∀ i it, items[i]? = some it → ops[i]? = some it.o ∧ it.kind = kindOf A it.o.op ∧ ∃ b, bits[i]? = some b ∧ it.lo = (an.countP fun x => b.testBit x.1) ∧ it.hi = (an.countP fun x => !x.2.testBit i)
  edge : ∀ j o e, ops[j]? = some o → e ∈ o.after.toList → Region.binds .any e = true → e.on < j ∧ Bit bits j e.on ∧ ∀ i, Bit bits e.on i → Bit bits j i
  gen : ∀ j i, Bit bits j i → ∃ o e, ops[j]? = some o ∧ e ∈ o.after.toList ∧ Region.binds .any e = true ∧ (i = e.on ∨ Bit bits e.on i)
  pair : ∀ i j x y, i < j → items[i]? = some x → items[j]? = some y → dstNe x.o.dst y.o.dst = true ∧ (Bit bits j i ∨ (dstIn x.o.dst (readsOf y.o) = false ∧ dstIn y.o.dst (readsOf x.o) = false ∧ ¬(x.kind = 2 ∧ y.kind = 2)))
  guard : ∀ j y g want, items[j]? = some y → y.o.guard = some (g, want) → Bit bits j g
  an_mem : ∀ a b, (a, b) ∈ an ↔ ∃ it, items[a]? = some it ∧ it.kind = 2 ∧ bits[a]? = some b
  an_sorted : an.Pairwise fun x y => x.1 < y.1

theorem plan_ok {A : AProg} {ops : Array Oper} {items : List PItem} (h : plan A ops = some items) : ∃ bits an, Static A ops items bits an := by
  unfold plan at h
  split at h
  · rename_i bs hbs
    simp only [cond_eq] at h
    split at h
    · rename_i hfine
      simp at h
      obtain ⟨b1, b2, b3⟩ := allBits_ok hbs
      simp only [List.length_nil, Nat.zero_add] at b1 b3
      obtain ⟨f1, f2⟩ := allFine_ok hfine
      generalize hl : numbered 0 ops.toList (kinds A ops.toList) bs = l at *
      have hget : ∀ (i : Nat) (x : Nat × Oper × Nat × Nat), l[i]? = some x ↔ ∃ (o : Oper) (b : Nat), ops[i]? = some o ∧ bs[i]? = some b ∧ x = (i, o, kindOf A o.op, b) := by
        intro i x
        rw [← hl, numbered_get]
        simp only [kinds_get, Nat.zero_add, Array.getElem?_toList]
        constructor
        · rintro ⟨o, k, b, h1, h2, h3, rfl⟩
          rw [h1] at h2; simp at h2; subst h2
          exact ⟨o, b, h1, h3, rfl⟩
        · rintro ⟨o, b, h1, h3, rfl⟩
          exact ⟨o, _, b, h1, by rw [h1]; rfl, h3, rfl⟩
      have hlen : l.length = ops.size := by
        have h1 : ∀ i, i < ops.size → i < l.length := by
          intro i hi
          obtain ⟨b, hb, _⟩ := b3 i ops[i] (by simp [hi])
          have := (hget i (i, ops[i], kindOf A ops[i].op, b)).2 ⟨ops[i], b, by simp [hi], hb, rfl⟩
          exact (List.getElem?_eq_some_iff.1 this).1
        have h2 : ∀ i, i < l.length → i < ops.size := by
          intro i hi
          obtain ⟨o, b, ho, _⟩ := (hget i l[i]).1 (List.getElem?_eq_getElem hi)
          exact (Array.getElem?_eq_some_iff.1 ho).1
        have := h1 l.length
        have := h2 ops.size
        omega
      have hit : ∀ (i : Nat) (it : PItem), items[i]? = some it ↔ ∃ (o : Oper) (b : Nat), ops[i]? = some o ∧ bs[i]? = some b ∧ it = ⟨o, kindOf A o.op, countIn b (anchorsOf l), countNot i (anchorsOf l)⟩ := by
        intro i it
        rw [← h, itemsOf_eq, List.getElem?_map, Option.map_eq_some_iff]
        constructor
        · rintro ⟨x, hx, rfl⟩
          obtain ⟨o, b, h1, h2, rfl⟩ := (hget i x).1 hx
          exact ⟨o, b, h1, h2, rfl⟩
        · rintro ⟨o, b, h1, h2, rfl⟩
          exact ⟨_, (hget i _).2 ⟨o, b, h1, h2, rfl⟩, rfl⟩
      have hbit : ∀ j o, ops[j]? = some o → ∃ b, bs[j]? = some b ∧ edgeBits (bs.take j) o.after.toList = some b := fun j o ho => b3 j o (by simpa using ho)
      have htake : ∀ j i : Nat, i < (bs.take j).length → (bs.take j)[i]? = bs[i]? ∧ i < j := by
        intro j i hi
        simp at hi
        rw [List.getElem?_take, if_pos (by omega)]
        exact ⟨rfl, by omega⟩
      refine ⟨bs, anchorsOf l, ?_, ?_, ?_, ?_, ?_, ?_, ?_, ?_⟩
      · rw [← h, itemsOf_eq, List.length_map, hlen]
      · intro i it hi
        obtain ⟨o, b, h1, h2, rfl⟩ := (hit i it).1 hi
        exact ⟨h1, rfl, b, h2, countIn_eq _ _, countNot_eq _ _⟩
      · intro j o e ho he hb
        obtain ⟨b, hb1, hb2⟩ := hbit j o ho
        obtain ⟨g1, g2, g3⟩ := (edgeBits_ok hb2).1 e he hb
        obtain ⟨t1, t2⟩ := htake j e.on g1
        refine ⟨t2, ⟨b, hb1, g2⟩, ?_⟩
        rintro i ⟨x, hx, hxi⟩
        exact ⟨b, hb1, g3 i x (by rw [t1]; exact hx) hxi⟩
      · rintro j i ⟨b, hb, hbi⟩
        have hj : j < ops.size := by
          have := (List.getElem?_eq_some_iff.1 hb).1
          simp at b1; omega
        obtain ⟨b', hb1, hb2⟩ := hbit j ops[j] (by simp [hj])
        rw [hb] at hb1; cases hb1
        obtain ⟨e, he, hbe, hor⟩ := (edgeBits_ok hb2).2 i hbi
        refine ⟨ops[j], e, by simp [hj], he, hbe, hor.imp id ?_⟩
        rintro ⟨x, hx, hxi⟩
        have := (List.getElem?_eq_some_iff.1 hx).1
        rw [(htake j e.on this).1] at hx
        exact ⟨x, hx, hxi⟩
      · intro i j x y hij hx hy
        obtain ⟨oi, bi, h1, h2, rfl⟩ := (hit i x).1 hx
        obtain ⟨oj, bj, h3, h4, rfl⟩ := (hit j y).1 hy
        have hi := (hget i _).2 ⟨oi, bi, h1, h2, rfl⟩
        have hj := (hget j _).2 ⟨oj, bj, h3, h4, rfl⟩
        have hi' := List.getElem?_eq_some_iff.1 hi
        have hj' := List.getElem?_eq_some_iff.1 hj
        have := List.pairwise_iff_getElem.1 f2 i j hi'.1 hj'.1 hij
        rw [hi'.2, hj'.2] at this
        simp only [pairFine, cond_eq] at this
        split at this
        · rename_i hd
          refine ⟨hd, ?_⟩
          split at this
          · rename_i hb; exact .inl ⟨bj, h4, hb⟩
          · right
            simp only [Bool.and_eq_true, Bool.not_eq_true', Bool.and_eq_false_iff] at this
            refine ⟨this.1.1, this.1.2, ?_⟩
            rintro ⟨e1, e2⟩
            simp only at e1 e2
            rw [e1, e2] at this
            simp at this
        · simp at this
      · intro j y g want hy hg
        obtain ⟨oj, bj, h3, h4, rfl⟩ := (hit j y).1 hy
        have hj := (hget j _).2 ⟨oj, bj, h3, h4, rfl⟩
        have := (f1 _ (List.mem_of_getElem? hj)).2
        simp only at this hg
        rw [hg] at this
        exact ⟨bj, h4, this⟩
      · intro a b
        rw [anchorsOf_eq]
        simp only [List.mem_map, List.mem_filter, Prod.mk.injEq]
        constructor
        · rintro ⟨x, ⟨hx, hk⟩, rfl, rfl⟩
          obtain ⟨i, hi⟩ := List.getElem?_of_mem hx
          obtain ⟨o, b, h1, h2, rfl⟩ := (hget i x).1 hi
          exact ⟨_, (hit i _).2 ⟨o, b, h1, h2, rfl⟩, Nat.eq_of_beq_eq_true hk, h2⟩
        · rintro ⟨it, hi, hk, hb⟩
          obtain ⟨o, b', h1, h2, rfl⟩ := (hit a it).1 hi
          rw [hb] at h2; cases h2
          exact ⟨_, ⟨List.mem_of_getElem? ((hget a _).2 ⟨o, b, h1, hb, rfl⟩), by simp only at hk; simp [hk]⟩, rfl, rfl⟩
      · rw [anchorsOf_eq]
        refine List.Pairwise.map _ (fun _ _ h => h) (List.Pairwise.filter _ ?_)
        rw [List.pairwise_iff_getElem]
        intro i j hi hj hij
        obtain ⟨o, b, h1, h2, e1⟩ := (hget i l[i]).1 (List.getElem?_eq_getElem hi)
        obtain ⟨o', b', h1', h2', e2⟩ := (hget j l[j]).1 (List.getElem?_eq_getElem hj)
        rw [e1, e2]; exact hij
    · simp at h
  · simp at h
end Go.Abs

namespace Go.Abs
set_option linter.unusedVariables false
set_option linter.unusedSimpArgs false

/-! ## what is listed at some time, and how far the anchors are -/
section
variable {A : AProg} {ops : Array Oper} {items : List PItem} {bits : List Nat} {an : List (Nat × Nat)}

theorem Static.lt (st : Static A ops items bits an) : ∀ (j i : Nat), Bit bits j i → i < j := by
  intro j
  induction j using Nat.strongRecOn with
  | _ j ih =>
    intro i h
    obtain ⟨o, e, ho, he, hb, h'⟩ := st.gen j i h
    have := (st.edge j o e ho he hb).1
    rcases h' with rfl | h'
    · exact this
    · exact Nat.lt_trans (ih e.on this i h') this

theorem Static.trans (st : Static A ops items bits an) : ∀ (j i k : Nat), Bit bits j i → Bit bits i k → Bit bits j k := by
  intro j
  induction j using Nat.strongRecOn with
  | _ j ih =>
    intro i k h hk
    obtain ⟨o, e, ho, he, hb, h'⟩ := st.gen j i h
    obtain ⟨h1, h2, h3⟩ := st.edge j o e ho he hb
    rcases h' with rfl | h'
    · exact h3 k hk
    · exact h3 k (ih e.on h1 i k h' hk)

/-- what stands ahead of a listed operation is listed -/
def Down (bits : List Nat) (S : Nat → Bool) : Prop := ∀ j i, S j = true → Bit bits j i → S i = true
/-- may an operation be listed next? -/
def Ready (ops : Array Oper) (S : Nat → Bool) (j : Nat) : Prop := ∀ o e, ops[j]? = some o → e ∈ o.after.toList → Region.binds .any e = true → S e.on = true

theorem Static.ready (st : Static A ops items bits an) {S : Nat → Bool} (hS : Down bits S) {j : Nat} (hj : Ready ops S j) : ∀ i, Bit bits j i → S i = true := by
  intro i h
  obtain ⟨o, e, ho, he, hb, h'⟩ := st.gen j i h
  have := hj o e ho he hb
  rcases h' with rfl | h'
  · exact this
  · exact hS _ _ this h'

def stage (an : List (Nat × Nat)) (S : Nat → Bool) : Nat := an.countP fun x => S x.1
def addS (S : Nat → Bool) (j : Nat) : Nat → Bool := fun i => if i = j then true else S i

theorem Static.down_add (st : Static A ops items bits an) {S : Nat → Bool} (hS : Down bits S) {j : Nat} (hj : Ready ops S j) : Down bits (addS S j) := by
  intro a b ha hab
  unfold addS at ha ⊢
  split
  · rfl
  · split at ha
    · rename_i e; subst e; exact st.ready hS hj b hab
    · exact hS a b ha hab

theorem Static.chain (st : Static A ops items bits an) {p q : Nat} {x y : Nat × Nat} (hpq : p < q) (hx : an[p]? = some x) (hy : an[q]? = some y) : Bit bits y.1 x.1 := by
  obtain ⟨a, ba⟩ := x
  obtain ⟨b, bb⟩ := y
  obtain ⟨ia, h1, h2, h3⟩ := (st.an_mem a ba).1 (List.mem_of_getElem? hx)
  obtain ⟨ib, h4, h5, h6⟩ := (st.an_mem b bb).1 (List.mem_of_getElem? hy)
  have hx' := List.getElem?_eq_some_iff.1 hx
  have hy' := List.getElem?_eq_some_iff.1 hy
  have hlt := List.pairwise_iff_getElem.1 st.an_sorted p q hx'.1 hy'.1 hpq
  rw [hx'.2, hy'.2] at hlt
  rcases (st.pair a b ia ib hlt h1 h4).2 with h | h
  · exact h
  · exact absurd ⟨h2, h5⟩ h.2.2

theorem countP_split {α : Type} (l : List α) (p : α → Bool) (q : Nat) (h1 : ∀ i x, i < q → l[i]? = some x → p x = true) (h2 : ∀ i x, q ≤ i → l[i]? = some x → p x = false) (hq : q ≤ l.length) : l.countP p = q := by
  rw [← List.take_append_drop q l, List.countP_append]
  have a : (l.take q).countP p = q := by
    rw [List.countP_eq_length.2]
    · simp; omega
    · intro x hx
      obtain ⟨i, hi⟩ := List.getElem?_of_mem hx
      rw [List.getElem?_take] at hi
      split at hi
      · exact h1 i x ‹_› hi
      · simp at hi
  have b : (l.drop q).countP p = 0 := by
    rw [List.countP_eq_zero]
    intro x hx
    obtain ⟨i, hi⟩ := List.getElem?_of_mem hx
    rw [List.getElem?_drop] at hi
    rw [h2 (q + i) x (by omega) hi]; simp
  omega

/-- an anchor that may be listed next is the next of the anchors -/
theorem Static.next (st : Static A ops items bits an) {S : Nat → Bool} (hS : Down bits S) {j : Nat} (hj : Ready ops S j) (hn : S j = false) {it : PItem} (hi : items[j]? = some it) (hk : it.kind = 2) : ∃ b, an[stage an S]? = some (j, b) := by
  obtain ⟨_, _, b, hb, _⟩ := st.item j it hi
  have hm := (st.an_mem j b).2 ⟨it, hi, hk, hb⟩
  obtain ⟨q, hq⟩ := List.getElem?_of_mem hm
  have hlt := (List.getElem?_eq_some_iff.1 hq).1
  have : stage an S = q := by
    refine countP_split an _ q ?_ ?_ (by omega)
    · intro i x hi hx
      exact st.ready hS hj _ (st.chain hi hx hq)
    · intro i x hi hx
      rcases Nat.eq_or_lt_of_le hi with rfl | hi
      · rw [hq] at hx; cases hx; exact hn
      · cases hs : S x.1 with
        | false => rfl
        | true =>
          have := hS _ _ hs (st.chain hi hq hx)
          simp only at this
          rw [hn] at this; simp at this
  exact ⟨b, by rw [this]; exact hq⟩

theorem Static.stage_add (st : Static A ops items bits an) {S : Nat → Bool} {j : Nat} (hn : S j = false) {it : PItem} (hi : items[j]? = some it) : stage an (addS S j) = if it.kind = 2 then stage an S + 1 else stage an S := by
  have hnd : ∀ l : List (Nat × Nat), l.Pairwise (fun x y => x.1 < y.1) → (∀ x ∈ l, x.1 = j → it.kind = 2) → l.countP (fun x => addS S j x.1) = l.countP (fun x => S x.1) + if (∃ x ∈ l, x.1 = j) then 1 else 0 := by
    intro l
    induction l with
    | nil => intro _ _; simp
    | cons x l ih =>
      intro hp hk
      obtain ⟨h1, h2⟩ := List.pairwise_cons.1 hp
      have ih := ih h2 (fun y hy => hk y (List.mem_cons_of_mem _ hy))
      rw [List.countP_cons, List.countP_cons, ih]
      by_cases hx : x.1 = j
      · have hno : ¬ ∃ y ∈ l, y.1 = j := by
          rintro ⟨y, hy, e⟩
          have := h1 y hy
          omega
        rw [if_neg hno, if_pos (⟨x, List.mem_cons_self .., hx⟩ : ∃ y ∈ x :: l, y.1 = j)]
        simp [addS, hx, hn]
      · have e1 : addS S j x.1 = S x.1 := by simp [addS, hx]
        rw [e1]
        by_cases hex : ∃ y ∈ l, y.1 = j
        · have h3 : ∃ y ∈ x :: l, y.1 = j := by
            obtain ⟨y, hy, e⟩ := hex; exact ⟨y, List.mem_cons_of_mem _ hy, e⟩
          rw [if_pos hex, if_pos h3]
          omega
        · have h3 : ¬ ∃ y ∈ x :: l, y.1 = j := by
            rintro ⟨y, hy, e⟩
            rcases List.mem_cons.1 hy with rfl | hy
            · exact hx e
            · exact hex ⟨y, hy, e⟩
          rw [if_neg hex, if_neg h3]
          omega
  have hkind : ∀ x ∈ an, x.1 = j → it.kind = 2 := by
    rintro ⟨a, b⟩ hx rfl
    obtain ⟨it', h1, h2, _⟩ := (st.an_mem a b).1 hx
    simp only at hi
    rw [hi] at h1; cases h1; exact h2
  unfold stage
  rw [hnd an st.an_sorted hkind]
  by_cases hk : it.kind = 2
  · have h3 : ∃ x ∈ an, x.1 = j := by
      obtain ⟨_, _, b, hb, _⟩ := st.item j it hi
      exact ⟨(j, b), (st.an_mem j b).2 ⟨it, hi, hk, hb⟩, rfl⟩
    rw [if_pos hk, if_pos h3]
  · have h3 : ¬ ∃ x ∈ an, x.1 = j := by
      rintro ⟨x, hx, e⟩
      exact hk (hkind x hx e)
    rw [if_neg hk, if_neg h3]
    rfl

theorem Static.lo_le (st : Static A ops items bits an) {S : Nat → Bool} (hS : Down bits S) {j : Nat} (hj : Ready ops S j) {it : PItem} (hi : items[j]? = some it) : it.lo ≤ stage an S := by
  obtain ⟨_, _, b, hb, hlo, _⟩ := st.item j it hi
  rw [hlo]
  refine List.countP_mono_left ?_
  intro x hx hbx
  exact st.ready hS hj _ ⟨b, hb, hbx⟩
theorem Static.le_hi (st : Static A ops items bits an) {S : Nat → Bool} (hS : Down bits S) {j : Nat} (hn : S j = false) {it : PItem} (hi : items[j]? = some it) : stage an S ≤ it.hi := by
  obtain ⟨_, _, b, hb, _, hhi⟩ := st.item j it hi
  rw [hhi]
  refine List.countP_mono_left ?_
  intro x hx hsx
  obtain ⟨a, ba⟩ := x
  obtain ⟨_, _, _, hba⟩ := (st.an_mem a ba).1 hx
  cases hbit : ba.testBit j with
  | false => rfl
  | true =>
    have := hS a j hsx ⟨ba, hba, hbit⟩
    rw [hn] at this; simp at this

/-- a maker whose last time is now stands ahead of the next anchor -/
theorem Static.due (st : Static A ops items bits an) {k i j b : Nat} {it : PItem} (hi : items[i]? = some it) (hh : it.hi ≤ k) (ha : an[k]? = some (j, b)) : Bit bits j i := by
  obtain ⟨_, _, bi, hbi, _, hhi⟩ := st.item i it hi
  obtain ⟨_, _, _, hbj⟩ := (st.an_mem j b).1 (List.mem_of_getElem? ha)
  cases hbit : b.testBit i with
  | true => exact ⟨b, hbj, hbit⟩
  | false =>
    exfalso
    have hnone : ∀ p x, p ≤ k → an[p]? = some x → (!x.2.testBit i) = true := by
      intro p x hp hx
      obtain ⟨a, ba⟩ := x
      obtain ⟨_, _, _, hba⟩ := (st.an_mem a ba).1 (List.mem_of_getElem? hx)
      rcases Nat.eq_or_lt_of_le hp with rfl | hp
      · rw [ha] at hx; cases hx; simp [hbit]
      · cases hb2 : ba.testBit i with
        | false => rfl
        | true =>
          obtain ⟨b', hb', hbi'⟩ := st.trans j a i (st.chain hp hx ha) ⟨ba, hba, hb2⟩
          rw [hbj] at hb'; cases hb'
          rw [hbit] at hbi'; simp at hbi'
    have hle : k + 1 ≤ an.countP fun x => !x.2.testBit i := by
      have hlen : k < an.length := (List.getElem?_eq_some_iff.1 ha).1
      rw [← List.take_append_drop (k + 1) an, List.countP_append]
      have : (an.take (k + 1)).countP (fun x => !x.2.testBit i) = k + 1 := by
        rw [List.countP_eq_length.2]
        · simp; omega
        · intro x hx
          obtain ⟨p, hp⟩ := List.getElem?_of_mem hx
          rw [List.getElem?_take] at hp
          split at hp
          · exact hnone p x (by omega) hp
          · simp at hp
      omega
    omega
end
end Go.Abs

namespace Go.Abs
set_option linter.unusedVariables false
set_option linter.unusedSimpArgs false

/-! ## what happens in text order, told once -/
structure TSt where
  k : Nat
  e : Env
  h : Heap
  pd : List Pend
  id : Pos
structure Rec where
  it : PItem
  pre : TSt
  want : Bool
  v : AVal
  post : TSt

section
variable (rn : AState → Option (AEnd × Heap)) (A : AProg) (L : List (PTree AObj)) (nt : Nat) (w : Array Oper)

/-- an anchor is carried out, and gives a value -/
def AnchorRuns (e : Env) (h1 : Heap) (op : Op) (v : AVal) (h2 : Heap) : Prop :=
  writes A L e h1 op = .val v h2 ∨ ∃ f args g, writes A L e h1 op = .enter f args ∧ enterA A f args false = some g ∧ rn ⟨g, [], h1⟩ = some (.ret v, h2)
/-- an anchor is carried out, and panics -/
def AnchorPans (e : Env) (h1 : Heap) (op : Op) (c : List (AVal × Bool)) (h2 : Heap) : Prop :=
  (∃ v, writes A L e h1 op = .panic v ∧ c = [(v, false)] ∧ h2 = h1) ∨ ∃ f args g, writes A L e h1 op = .enter f args ∧ enterA A f args false = some g ∧ rn ⟨g, [], h1⟩ = some (.pan c, h2)

structure Good (r : Rec) : Prop where
  want : awanted r.it.o.guard w r.pre.e = some r.want
  dst : setDst nt r.it.o.dst r.v r.pre.e = some r.post.e
  skip : r.want = false → r.v = undefA
  k : r.post.k = if r.it.kind = 2 then r.pre.k + 1 else r.pre.k
  same : r.it.kind ≠ 2 → r.post.h = r.pre.h
  read : r.it.kind = 0 → r.post.pd = r.pre.pd ∧ r.post.id = r.pre.id ∧ (r.want = true → quiet A L r.pre.e r.pre.h r.it.o.op = some r.v)
  none : r.it.kind = 1 → r.want = false → r.post.pd = r.pre.pd ∧ r.post.id = r.pre.id
  make : r.it.kind = 1 → r.want = true → ∃ ob m, fresh A r.pre.e r.it.o.op = some (ob, m) ∧ r.v = m.val r.pre.id ∧ r.post.pd = ⟨r.pre.id, ob, r.it.hi⟩ :: r.pre.pd ∧ r.post.id = r.pre.id.inc
  anchor : r.it.kind = 2 → r.post.pd = unadopted r.pre.k r.pre.pd ∧ r.post.id = r.pre.id ∧ (r.want = false → r.post.h = adopt r.pre.k r.pre.pd r.pre.h) ∧
    (r.want = true → AnchorRuns rn A L r.pre.e (adopt r.pre.k r.pre.pd r.pre.h) r.it.o.op r.v r.post.h)

def Chain (G : Rec → Prop) : TSt → List Rec → TSt → Prop
  | s, [], t => s = t
  | s, r :: T, t => r.pre = s ∧ G r ∧ Chain G r.post T t

/-- the heaps behind the anchors of a trace, the last one in front -/
def heapsBack : List Rec → List Heap → List Heap
  | [], hs => hs
  | r :: T, hs => heapsBack T (if r.it.kind = 2 then r.post.h :: hs else hs)

/-- what a reading operation reads it reads at all times at which it may be carried out -/
def Seen (k : Nat) (hs : List Heap) (r : Rec) : Prop := r.it.kind = 0 → r.want = true → r.it.lo ≠ r.it.hi →
  ∀ j h, hs[j]? = some h → r.it.lo ≤ k - j → k - j ≤ r.it.hi → quiet A L r.pre.e h r.it.o.op = some r.v

def DSt.tst (s : DSt) : TSt := ⟨s.k, s.e, s.h, s.pend, s.id⟩
end

section
variable {rn : AState → Option (AEnd × Heap)} {A : AProg} {L : List (PTree AObj)} {nt : Nat} {w : Array Oper}

theorem againAll_ok {a : Again} : ∀ {hs : List Heap} {k : Nat}, againAll A L a k hs = true → hs.length ≤ k + 1 → ∀ j h, hs[j]? = some h → a.lo ≤ k - j → k - j ≤ a.hi → quiet A L a.e h a.op = some a.v := by
  intro hs
  induction hs with
  | nil => intro k _ _ j h hj; simp at hj
  | cons x hs ih =>
    intro k hk hlen j h hj h1 h2
    simp only [againAll] at hk
    generalize hx : (bif Nat.ble a.lo k then (bif Nat.ble k a.hi then againAt A L a x else true) else true) = c at hk
    cases c with
    | false => simp at hk
    | true =>
      simp only [cond_true] at hk
      cases j with
      | zero =>
        simp at hj; subst hj
        simp only [Nat.sub_zero] at h1 h2
        rw [Nat.ble_eq_true_of_le h1, Nat.ble_eq_true_of_le h2] at hx
        simp only [cond_true] at hx
        unfold againAt at hx
        split at hx
        · rename_i v hv; rw [hv, beqV_eq _ _ hx]
        · simp at hx
      | succ j =>
        refine ih hk (by simp at hlen ⊢; omega) j h (by simpa using hj) ?_ ?_
        · simp only [Nat.pred_eq_sub_one]; omega
        · simp only [Nat.pred_eq_sub_one]; omega

theorem agains_ok {k : Nat} {hs : List Heap} : ∀ {l : List Again}, agains A L k hs l = true → ∀ a ∈ l, againAll A L a k hs = true := by
  intro l
  induction l with
  | nil => intro _ a ha; simp at ha
  | cons x l ih =>
    intro h a ha
    simp only [agains, cond_eq] at h
    split at h
    · rename_i hx
      rcases List.mem_cons.1 ha with rfl | ha
      · exact hx
      · exact ih h a ha
    · simp at h

theorem allBehind_ok {k : Nat} : ∀ {l : List PItem}, allBehind k l = true → ∀ x ∈ l, k ≤ x.lo := by
  intro l
  induction l with
  | nil => intro _ a ha; simp at ha
  | cons x l ih =>
    intro h a ha
    simp only [allBehind, cond_eq] at h
    split at h
    · rename_i hx
      rcases List.mem_cons.1 ha with rfl | ha
      · exact Nat.le_of_ble_eq_true hx
      · exact ih h a ha
    · simp at h

/-- what the evaluator's walk through a region says -/
inductive Told (rn : AState → Option (AEnd × Heap)) (A : AProg) (L : List (PTree AObj)) (nt : Nat) (w : Array Oper) (l : List PItem) (s : DSt) : DOut → Prop
  | done (T : List Rec) (t : TSt) : T.map (·.it) = l → Chain (Good rn A L nt w) s.tst T t → (∀ r ∈ T, Seen A L t.k (heapsBack T s.hs) r) → (∀ a ∈ s.again, againAll A L a t.k (heapsBack T s.hs) = true) → Told rn A L nt w l s (.done t.e (adoptAll t.pd t.h))
  | pan (T : List Rec) (t : TSt) (l1 l2 : List PItem) (it : PItem) (c : List (AVal × Bool)) (h2 : Heap) : l = l1 ++ it :: l2 → T.map (·.it) = l1 → Chain (Good rn A L nt w) s.tst T t → it.kind = 2 → awanted it.o.guard w t.e = some true →
      AnchorPans rn A L t.e (adopt t.k t.pd t.h) it.o.op c h2 → (∀ x ∈ l2, t.k + 1 ≤ x.lo) → (∀ r ∈ T, Seen A L t.k (heapsBack T s.hs) r) → (∀ a ∈ s.again, againAll A L a t.k (heapsBack T s.hs) = true) → Told rn A L nt w l s (.pan c h2)

theorem Told.cons {l : List PItem} {s s' : DSt} {r : Rec} {out : DOut} (hpre : r.pre = s.tst) (hpost : r.post = s'.tst) (hg : Good rn A L nt w r) (hhs : s'.hs = if r.it.kind = 2 then r.post.h :: s.hs else s.hs)
    (hag : ∀ a ∈ s.again, a ∈ s'.again) (hlen : ∀ (T : List Rec) (t : TSt), Chain (Good rn A L nt w) s'.tst T t → (heapsBack T s'.hs).length ≤ t.k + 1)
    (hr : r.it.kind = 0 → r.want = true → r.it.lo ≠ r.it.hi → (⟨r.it.lo, r.it.hi, r.pre.e, r.it.o.op, r.v⟩ : Again) ∈ s'.again) (h : Told rn A L nt w l s' out) : Told rn A L nt w (r.it :: l) s out := by
  cases h with
  | done T t h1 h2 h3 h4 =>
    have hb : heapsBack (r :: T) s.hs = heapsBack T s'.hs := by rw [heapsBack, hhs]
    refine .done (r :: T) t (by simp [h1]) ⟨hpre, hg, by rw [hpost]; exact h2⟩ ?_ ?_
    · intro r' hr'
      rw [hb]
      rcases List.mem_cons.1 hr' with rfl | hr'
      · intro k0 hw hne j h hj e1 e2
        exact againAll_ok (h4 _ (hr k0 hw hne)) (hlen T t h2) j h hj e1 e2
      · exact h3 r' hr'
    · intro a ha; rw [hb]; exact h4 a (hag a ha)
  | pan T t l1 l2 it c h2' e1 e2 e3 e4 e5 e6 e7 e8 e9 =>
    have hb : heapsBack (r :: T) s.hs = heapsBack T s'.hs := by rw [heapsBack, hhs]
    refine .pan (r :: T) t (r.it :: l1) l2 it c h2' (by simp [e1]) (by simp [e2]) ⟨hpre, hg, by rw [hpost]; exact e3⟩ e4 e5 e6 e7 ?_ ?_
    · intro r' hr'
      rw [hb]
      rcases List.mem_cons.1 hr' with rfl | hr'
      · intro k0 hw hne j h hj f1 f2
        exact againAll_ok (e9 _ (hr k0 hw hne)) (hlen T t e3) j h hj f1 f2
      · exact e8 r' hr'
    · intro a ha; rw [hb]; exact e9 a (hag a ha)

theorem heapsBack_length : ∀ {T : List Rec} {s t : TSt} {hs : List Heap}, Chain (Good rn A L nt w) s T t → hs.length = s.k + 1 → (heapsBack T hs).length = t.k + 1 := by
  intro T
  induction T with
  | nil => intro s t hs h hl; rw [Chain] at h; subst h; exact hl
  | cons r T ih =>
    intro s t hs h hl
    obtain ⟨h1, h2, h3⟩ := h
    rw [heapsBack]
    refine ih h3 ?_
    rw [h2.k, h1]
    split
    · simp [hl]
    · exact hl

theorem dgo_told : ∀ (l : List PItem) (s : DSt) (out : DOut), dgo rn A L nt w l s = some out → (∀ x ∈ l, x.kind = 0 ∨ x.kind = 1 ∨ x.kind = 2) → s.hs.length = s.k + 1 → Told rn A L nt w l s out := by
  intro l
  induction l with
  | nil =>
    intro s out h hk hl
    obtain ⟨k, e, h0, hs, ag, pd, id⟩ := s
    simp only [dgo, cond_eq] at h
    split at h
    · rename_i hag
      simp at h; subst h
      exact .done [] ⟨k, e, h0, pd, id⟩ rfl rfl (by simp) (fun a ha => agains_ok hag a ha)
    · simp at h
  | cons x l ih =>
    intro s out h hk hl
    obtain ⟨k, e, h0, hs, ag, pd, id⟩ := s
    obtain ⟨o, kind, lo, hi⟩ := x
    have hk' : ∀ y ∈ l, y.kind = 0 ∨ y.kind = 1 ∨ y.kind = 2 := fun y hy => hk y (List.mem_cons_of_mem _ hy)
    have hkind := hk _ (List.mem_cons_self ..)
    simp only at hkind hl
    have fin : ∀ (want : Bool) (v : AVal) (s' : DSt), Good rn A L nt w ⟨⟨o, kind, lo, hi⟩, ⟨k, e, h0, pd, id⟩, want, v, s'.tst⟩ → (s'.hs = if kind = 2 then s'.h :: hs else hs) → (∀ a ∈ ag, a ∈ s'.again) →
        (kind = 0 → want = true → lo ≠ hi → (⟨lo, hi, e, o.op, v⟩ : Again) ∈ s'.again) → dgo rn A L nt w l s' = some out → Told rn A L nt w (⟨o, kind, lo, hi⟩ :: l) ⟨k, e, h0, hs, ag, pd, id⟩ out := by
      intro want v s' hg hhs hag hr hd
      have hl' : s'.hs.length = s'.k + 1 := by
        have := hg.k
        simp only [DSt.tst] at this
        rw [hhs, this]
        split
        · simp [hl]
        · exact hl
      exact Told.cons (r := ⟨⟨o, kind, lo, hi⟩, ⟨k, e, h0, pd, id⟩, want, v, s'.tst⟩) rfl rfl hg hhs hag (fun T t hc => by rw [heapsBack_length hc hl']; exact Nat.le_refl _) hr (ih s' out hd hk' hl')
    unfold dgo at h
    split at h
    · simp at h
    · rename_i hw
      split at h
      · rename_i e' hs'
        rcases hkind with rfl | rfl | rfl
        · simp only at h
          exact fin false undefA ⟨k, e', h0, hs, ag, pd, id⟩ ⟨hw, hs', fun _ => rfl, rfl, fun _ => rfl, fun _ => ⟨rfl, rfl, by simp⟩, by simp, by simp, by simp⟩ rfl (fun a ha => ha) (by simp) h
        · simp only at h
          exact fin false undefA ⟨k, e', h0, hs, ag, pd, id⟩ ⟨hw, hs', fun _ => rfl, rfl, fun _ => rfl, by simp, fun _ _ => ⟨rfl, rfl⟩, by simp, by simp⟩ rfl (fun a ha => ha) (by simp) h
        · simp only at h
          exact fin false undefA ⟨k + 1, e', adopt k pd h0, adopt k pd h0 :: hs, ag, unadopted k pd, id⟩ ⟨hw, hs', fun _ => rfl, rfl, by simp, by simp, by simp, by simp, fun _ => ⟨rfl, rfl, fun _ => rfl, by simp⟩⟩ rfl (fun a ha => ha) (by simp) h
      · simp at h
    · rename_i hw
      rcases hkind with rfl | rfl | rfl
      · simp only at h
        split at h
        · rename_i v hq
          split at h
          · rename_i e' hs'
            refine fin true v ⟨k, e', h0, hs, (bif Nat.beq lo hi then ag else ⟨lo, hi, e, o.op, v⟩ :: ag), pd, id⟩ ⟨hw, hs', by simp, rfl, fun _ => rfl, fun _ => ⟨rfl, rfl, fun _ => hq⟩, by simp, by simp, by simp⟩ rfl ?_ ?_ h
            · intro a ha
              simp only [cond_eq]
              split
              · exact ha
              · exact List.mem_cons_of_mem _ ha
            · intro _ _ hne
              simp only [cond_eq]
              rw [if_neg (fun e => hne (Nat.eq_of_beq_eq_true e))]
              exact List.mem_cons_self ..
          · simp at h
        · simp at h
      · simp only at h
        split at h
        · rename_i ob m hf
          split at h
          · rename_i e' hs'
            exact fin true (m.val id) ⟨k, e', h0, hs, ag, ⟨id, ob, hi⟩ :: pd, id.inc⟩ ⟨hw, hs', by simp, rfl, fun _ => rfl, by simp, by simp, fun _ _ => ⟨ob, m, hf, rfl, rfl, rfl⟩, by simp⟩ rfl (fun a ha => ha) (by simp) h
          · simp at h
        · simp at h
      · simp only at h
        split at h
        · rename_i v h2 hwr
          split at h
          · rename_i e' hs'
            exact fin true v ⟨k + 1, e', h2, h2 :: hs, ag, unadopted k pd, id⟩ ⟨hw, hs', by simp, rfl, by simp, by simp, by simp, by simp, fun _ => ⟨rfl, rfl, by simp, fun _ => .inl hwr⟩⟩ rfl (fun a ha => ha) (by simp) h
          · simp at h
        · rename_i g args hwr
          split at h
          · rename_i fr hen
            split at h
            · rename_i v h2 hrn
              split at h
              · rename_i e' hs'
                exact fin true v ⟨k + 1, e', h2, h2 :: hs, ag, unadopted k pd, id⟩ ⟨hw, hs', by simp, rfl, by simp, by simp, by simp, by simp, fun _ => ⟨rfl, rfl, by simp, fun _ => .inr ⟨g, args, fr, hwr, hen, hrn⟩⟩⟩ rfl (fun a ha => ha) (by simp) h
              · simp at h
            · rename_i c h2 hrn
              rw [cond_eq] at h
              split at h
              · rename_i hck
                simp only [Bool.and_eq_true] at hck
                simp at h; subst h
                exact .pan [] ⟨k, e, h0, pd, id⟩ [] l ⟨o, 2, lo, hi⟩ c h2 rfl rfl rfl rfl hw (.inr ⟨g, args, fr, hwr, hen, hrn⟩) (fun x hx => allBehind_ok hck.1 x hx) (by simp) (fun a ha => agains_ok hck.2 a ha)
              · simp at h
            · simp at h
          · simp at h
        · rename_i v hwr
          rw [cond_eq] at h
          split at h
          · rename_i hck
            simp only [Bool.and_eq_true] at hck
            simp at h; subst h
            exact .pan [] ⟨k, e, h0, pd, id⟩ [] l ⟨o, 2, lo, hi⟩ _ _ rfl rfl rfl rfl hw (.inl ⟨v, hwr, rfl, rfl⟩) (fun x hx => allBehind_ok hck.1 x hx) (by simp) (fun a ha => agains_ok hck.2 a ha)
          · simp at h
        · simp at h
end
end Go.Abs

namespace Go.Abs
set_option linter.unusedVariables false
set_option linter.unusedSimpArgs false

/-! ## tables out of a trace -/
section
variable {rn : AState → Option (AEnd × Heap)} {A : AProg} {L : List (PTree AObj)} {nt : Nat} {w : Array Oper}

theorem Chain.inv {G : Rec → Prop} {Q : Nat → TSt → Prop} : ∀ {T : List Rec} {s t : TSt} (n : Nat), Chain G s T t → Q n s → (∀ i r, T[i]? = some r → G r → Q (n + i) r.pre → Q (n + i + 1) r.post) →
    (∀ i r, T[i]? = some r → G r ∧ Q (n + i) r.pre) ∧ Q (n + T.length) t := by
  intro T
  induction T with
  | nil => intro s t n hc h0 _; rw [Chain] at hc; subst hc; exact ⟨fun i r h => by simp at h, h0⟩
  | cons x T ih =>
    intro s t n hc h0 hs
    obtain ⟨h1, h2, h3⟩ := hc
    have hq : Q (n + 1) x.post := hs 0 x rfl h2 (by rw [h1]; exact h0)
    obtain ⟨g1, g2⟩ := ih (n + 1) h3 hq (fun i r hi hg hQ => by
      have := hs (i + 1) r (by simpa using hi) hg (by rw [show n + (i + 1) = n + 1 + i by omega]; exact hQ)
      rw [show n + 1 + i + 1 = n + (i + 1) + 1 by omega]; exact this)
    constructor
    · intro i r hi
      cases i with
      | zero => simp at hi; subst hi; exact ⟨h2, by rw [h1]; exact h0⟩
      | succ i =>
        have := g1 i r (by simpa using hi)
        rw [show n + (i + 1) = n + 1 + i by omega]; exact this
    · rw [List.length_cons, show n + (T.length + 1) = n + 1 + T.length by omega]; exact g2

/-- where a temporary's value in a trace comes from -/
def FromTr (T : List Rec) (tm : PTree AVal) (i : Nat) (e : Env) : Prop :=
  e.tm = tm ∧ ∀ t v, e.get t = some v → (∃ j rj, j < i ∧ T[j]? = some rj ∧ rj.it.o.dst = some t ∧ v = rj.v) ∨ ((∀ j rj, j < i → T[j]? = some rj → rj.it.o.dst ≠ some t) ∧ tm.get (posOf t) = some v)

theorem setDst_tm {d : Option Tmp} {v : AVal} {e e' : Env} (h : setDst nt d v e = some e') : e'.tm = e.tm ∧ ∀ t, e'.get t = if d = some t then some v else e.get t := by
  obtain ⟨rc, tm⟩ := e
  cases d with
  | none => simp [setDst] at h; subst h; simp
  | some d =>
    simp only [setDst, cond_eq] at h
    split at h
    · simp at h; subst h
      refine ⟨rfl, ?_⟩
      intro t
      rw [Env.get_cons]
      by_cases e : d = t
      · subst e; simp
      · rw [if_neg e, if_neg (fun h => e (by simpa using h))]
    · simp at h

theorem tr_env {T : List Rec} {s t : TSt} {tm : PTree AVal} (hs : s.e = ⟨[], tm⟩) (hc : Chain (Good rn A L nt w) s T t) : (∀ (i : Nat) (r : Rec), T[i]? = some r → FromTr T tm i r.pre.e) ∧ FromTr T tm T.length t.e := by
  have := Chain.inv (Q := fun i s => FromTr T tm i s.e) 0 hc (by
    rw [hs]
    refine ⟨rfl, fun t v hv => .inr ⟨fun j _ hj => absurd hj (Nat.not_lt_zero _), ?_⟩⟩
    simpa [Env.get, rget] using hv) (by
    intro i r hi hg hq
    simp only [Nat.zero_add] at hq ⊢
    obtain ⟨h1, h2⟩ := setDst_tm hg.dst
    refine ⟨h1.trans hq.1, ?_⟩
    intro t v hv
    rw [h2] at hv
    split at hv
    · rename_i e
      simp at hv; subst hv
      exact .inl ⟨i, r, by omega, hi, e, rfl⟩
    · rename_i hne
      rcases hq.2 t v hv with ⟨j, rj, h3, h4⟩ | ⟨h3, h4⟩
      · exact .inl ⟨j, rj, by omega, h4⟩
      · refine .inr ⟨?_, h4⟩
        intro j rj hj hr
        rcases Nat.eq_or_lt_of_le (Nat.le_of_lt_succ hj) with rfl | hj
        · rw [hi] at hr; cases hr; exact hne
        · exact h3 j rj hj hr)
  simp only [Nat.zero_add] at this
  exact ⟨fun i r hi => (this.1 i r hi).2, this.2⟩

/-- the heap behind so many anchors -/
def hk : List Rec → Heap → Nat → Heap
  | [], h, _ => h
  | r :: T, h, k => if r.it.kind = 2 then (match k with | 0 => h | k + 1 => hk T r.post.h k) else hk T h k

theorem hk_zero : ∀ (T : List Rec) (h : Heap), hk T h 0 = h := by
  intro T
  induction T with
  | nil => intro h; rfl
  | cons r T ih => intro h; simp only [hk]; split <;> simp [ih]

theorem tr_heap : ∀ {T : List Rec} {s t : TSt}, Chain (Good rn A L nt w) s T t → s.k ≤ t.k ∧ t.h = hk T s.h (t.k - s.k) ∧
    (∀ (i : Nat) (r : Rec), T[i]? = some r → s.k ≤ r.pre.k ∧ r.pre.k ≤ t.k ∧ r.pre.h = hk T s.h (r.pre.k - s.k) ∧ (r.it.kind = 2 → r.pre.k + 1 ≤ t.k ∧ r.post.h = hk T s.h (r.pre.k - s.k + 1))) := by
  intro T
  induction T with
  | nil => intro s t hc; rw [Chain] at hc; subst hc; exact ⟨Nat.le_refl _, rfl, fun i r h => by simp at h⟩
  | cons x T ih =>
    intro s t hc
    obtain ⟨h1, h2, h3⟩ := hc
    obtain ⟨g1, g2, g3⟩ := ih h3
    have hkk := h2.k
    rw [h1] at hkk
    by_cases hx : x.it.kind = 2
    · rw [if_pos hx] at hkk
      have hh : ∀ k, hk (x :: T) s.h (k + 1) = hk T x.post.h k := fun k => by simp [hk, hx]
      refine ⟨by omega, ?_, ?_⟩
      · rw [g2, hkk]
        have : t.k - s.k = (t.k - (s.k + 1)) + 1 := by omega
        rw [this, hh]
      · intro i r hi
        cases i with
        | zero =>
          simp at hi; subst hi
          rw [h1]
          refine ⟨Nat.le_refl _, by omega, ?_, fun _ => ⟨by omega, ?_⟩⟩
          · rw [Nat.sub_self, hk_zero]
          · rw [Nat.sub_self, hh, hk_zero]
        | succ i =>
          obtain ⟨a, b, c, d⟩ := g3 i r (by simpa using hi)
          refine ⟨by omega, b, ?_, fun h => ⟨(d h).1, ?_⟩⟩
          · rw [c, hkk]
            have : r.pre.k - s.k = (r.pre.k - (s.k + 1)) + 1 := by omega
            rw [this, hh]
          · rw [(d h).2, hkk]
            have : r.pre.k - s.k + 1 = (r.pre.k - (s.k + 1) + 1) + 1 := by omega
            rw [this, hh]
    · rw [if_neg hx] at hkk
      have hh : ∀ k, hk (x :: T) s.h k = hk T x.post.h k := fun k => by
        have := h2.same hx
        rw [h1] at this
        simp [hk, hx, this]
      refine ⟨by omega, ?_, ?_⟩
      · rw [g2, hkk, hh]
      · intro i r hi
        cases i with
        | zero =>
          simp at hi; subst hi
          rw [h1]
          exact ⟨Nat.le_refl _, by omega, by rw [Nat.sub_self, hk_zero], fun h => absurd h hx⟩
        | succ i =>
          obtain ⟨a, b, c, d⟩ := g3 i r (by simpa using hi)
          exact ⟨by omega, b, by rw [c, hkk, hh], fun h => ⟨(d h).1, by rw [(d h).2, hkk, hh]⟩⟩

theorem hk_back : ∀ {T : List Rec} {s t : TSt} {hs : List Heap}, Chain (Good rn A L nt w) s T t → ∀ j, j ≤ t.k - s.k → (heapsBack T (s.h :: hs))[j]? = some (hk T s.h (t.k - s.k - j)) := by
  intro T
  induction T with
  | nil =>
    intro s t hs hc j hj
    rw [Chain] at hc; subst hc
    have : j = 0 := by omega
    subst this
    simp [heapsBack, hk]
  | cons x T ih =>
    intro s t hs hc j hj
    obtain ⟨h1, h2, h3⟩ := hc
    have hle := (tr_heap h3).1
    have hkk := h2.k
    rw [h1] at hkk
    rw [heapsBack]
    by_cases hx : x.it.kind = 2
    · rw [if_pos hx] at hkk ⊢
      have hh : ∀ k, hk (x :: T) s.h (k + 1) = hk T x.post.h k := fun k => by simp [hk, hx]
      by_cases hj' : j ≤ t.k - x.post.k
      · rw [ih h3 j hj', hkk]
        have : t.k - s.k - j = (t.k - (s.k + 1) - j) + 1 := by omega
        rw [this, hh]
      · have hjj : j = t.k - s.k := by omega
        subst hjj
        rw [Nat.sub_self, hk_zero]
        -- the first of all
        have hlast : ∀ (T : List Rec) (s t : TSt) (hs : List Heap) (y : Heap), Chain (Good rn A L nt w) s T t → (heapsBack T (s.h :: y :: hs))[t.k - s.k + 1]? = some y := by
          intro T
          induction T with
          | nil => intro s t hs y hc; rw [Chain] at hc; subst hc; simp [heapsBack]
          | cons r T ih2 =>
            intro s t hs y hc
            obtain ⟨a1, a2, a3⟩ := hc
            have hle := (tr_heap a3).1
            have hk2 := a2.k
            rw [a1] at hk2
            rw [heapsBack]
            have gen : ∀ (T : List Rec) (s t : TSt) (hs : List Heap), Chain (Good rn A L nt w) s T t → ∀ m, (heapsBack T hs)[t.k - s.k + m]? = hs[m]? := by
              intro T
              induction T with
              | nil => intro s t hs hc m; rw [Chain] at hc; subst hc; simp [heapsBack]
              | cons r T ih3 =>
                intro s t hs hc m
                obtain ⟨b1, b2, b3⟩ := hc
                have hle := (tr_heap b3).1
                have hk3 := b2.k
                rw [b1] at hk3
                rw [heapsBack]
                split at hk3
                · rename_i hr2
                  rw [if_pos hr2]
                  have := ih3 r.post t (r.post.h :: hs) b3 (m + 1)
                  rw [show t.k - s.k + m = t.k - r.post.k + (m + 1) by omega, this]; simp
                · rename_i hr2
                  rw [if_neg hr2]
                  have := ih3 r.post t hs b3 m
                  rw [show t.k - s.k + m = t.k - r.post.k + m by omega, this]
            split at hk2
            · rename_i hr2
              rw [if_pos hr2]
              have := gen T r.post t (r.post.h :: s.h :: y :: hs) a3 2
              rw [show t.k - s.k + 1 = t.k - r.post.k + 2 by omega, this]; simp
            · rename_i hr2
              rw [if_neg hr2]
              have := gen T r.post t (s.h :: y :: hs) a3 1
              rw [show t.k - s.k + 1 = t.k - r.post.k + 1 by omega, this]; simp
        have := hlast T x.post t hs s.h h3
        rw [show t.k - s.k = t.k - x.post.k + 1 by omega]; exact this
    · rw [if_neg hx] at hkk ⊢
      have hsame := h2.same hx
      rw [h1] at hsame
      have hh : ∀ k, hk (x :: T) s.h k = hk T x.post.h k := fun k => by simp [hk, hx, hsame]
      rw [← hsame, ih h3 j (by omega), hkk, ← hh, hsame]
end
end Go.Abs

namespace Go.Abs
set_option linter.unusedVariables false
set_option linter.unusedSimpArgs false
section
variable {rn : AState → Option (AEnd × Heap)} {A : AProg} {L : List (PTree AObj)} {nt : Nat} {ops : Array Oper} {items : List PItem} {bits : List Nat} {an : List (Nat × Nat)}

/-- those that stand ahead in the text -/
def upto (i : Nat) : Nat → Bool := fun j => decide (j < i)
theorem upto_add (i : Nat) : addS (upto i) i = upto (i + 1) := by
  funext j
  simp only [addS, upto]
  split
  · rename_i h; subst h; simp
  · rename_i h
    have : (j < i + 1) ↔ j < i := by omega
    simp [this]
theorem Static.down_upto (st : Static A ops items bits an) (i : Nat) : Down bits (upto i) := by
  intro a b ha hab
  have := st.lt a b hab
  simp only [upto, decide_eq_true_eq] at ha ⊢
  omega
theorem Static.ready_upto (st : Static A ops items bits an) (i : Nat) : Ready ops (upto i) i := by
  intro o e ho he hb
  have := (st.edge i o e ho he hb).1
  simpa [upto] using this

theorem tr_stage (st : Static A ops items bits an) {T : List Rec} {s t : TSt} (hs : s.k = 0) (hc : Chain (Good rn A L nt ops) s T t) (hit : ∀ (i : Nat) (r : Rec), T[i]? = some r → items[i]? = some r.it) :
    (∀ (i : Nat) (r : Rec), T[i]? = some r → r.pre.k = stage an (upto i)) ∧ t.k = stage an (upto T.length) := by
  have := Chain.inv (Q := fun i s => s.k = stage an (upto i)) 0 hc (by
    rw [hs]; symm
    unfold stage
    rw [List.countP_eq_zero]
    intro x _; simp [upto]) (by
    intro i r hi hg hq
    simp only [Nat.zero_add] at hq ⊢
    rw [hg.k, hq, ← upto_add, st.stage_add (by simp [upto]) (hit i r hi)])
  simp only [Nat.zero_add] at this
  exact ⟨fun i r hi => (this.1 i r hi).2, this.2⟩

/-- the operation at a place makes a block -/
def Makes (A : AProg) (T : List Rec) (i : Nat) (r : Rec) (ob : AObj) (m : Mk) : Prop := T[i]? = some r ∧ r.it.kind = 1 ∧ r.want = true ∧ fresh A r.pre.e r.it.o.op = some (ob, m)

theorem unadopted_mem {k : Nat} : ∀ {l : List Pend} {p : Pend}, p ∈ unadopted k l ↔ p ∈ l ∧ p.hi ≠ k := by
  intro l
  induction l with
  | nil => intro p; simp [unadopted]
  | cons x l ih =>
    intro p
    simp only [unadopted, cond_eq]
    split
    · rename_i hx
      have hx : x.hi = k := Nat.eq_of_beq_eq_true hx
      rw [ih, List.mem_cons]
      constructor
      · rintro ⟨a, b⟩; exact ⟨.inr a, b⟩
      · rintro ⟨rfl | a, b⟩
        · exact absurd hx b
        · exact ⟨a, b⟩
    · rename_i hx
      have hx : x.hi ≠ k := fun e => hx (by rw [e]; exact Nat.beq_refl k)
      rw [List.mem_cons, ih, List.mem_cons]
      constructor
      · rintro (rfl | ⟨a, b⟩)
        · exact ⟨.inl rfl, hx⟩
        · exact ⟨.inr a, b⟩
      · rintro ⟨rfl | a, b⟩
        · exact .inl rfl
        · exact .inr ⟨a, b⟩

theorem tr_pend (st : Static A ops items bits an) {T : List Rec} {s t : TSt} (hs : s.k = 0) (hpd : s.pd = []) (hc : Chain (Good rn A L nt ops) s T t) (hit : ∀ (i : Nat) (r : Rec), T[i]? = some r → items[i]? = some r.it) :
    (∀ (i : Nat) (r : Rec), T[i]? = some r → ∀ p, p ∈ r.pre.pd ↔ ∃ j rj ob m, j < i ∧ Makes A T j rj ob m ∧ p = ⟨rj.pre.id, ob, rj.it.hi⟩ ∧ r.pre.k ≤ rj.it.hi) ∧
    (∀ p, p ∈ t.pd ↔ ∃ j rj ob m, j < T.length ∧ Makes A T j rj ob m ∧ p = ⟨rj.pre.id, ob, rj.it.hi⟩ ∧ t.k ≤ rj.it.hi) := by
  have hstage := tr_stage st hs hc hit
  have := Chain.inv (Q := fun i (s : TSt) => ∀ p, p ∈ s.pd ↔ ∃ j rj ob m, j < i ∧ Makes A T j rj ob m ∧ p = ⟨rj.pre.id, ob, rj.it.hi⟩ ∧ s.k ≤ rj.it.hi) 0 hc (by
    intro p; rw [hpd]; simp) (by
    intro i r hi hg hq
    simp only [Nat.zero_add] at hq ⊢
    have hki := hstage.1 i r hi
    have hkind : r.it.kind = 0 ∨ r.it.kind = 1 ∨ r.it.kind = 2 := by
      have := (st.item i r.it (hit i r hi)).2.1
      rw [this]; unfold kindOf
      repeat' split
      all_goals simp
    -- nobody is made here
    have nomake : r.it.kind ≠ 1 ∨ r.want = false → ∀ p : Pend, (∃ j rj ob m, j < i + 1 ∧ Makes A T j rj ob m ∧ p = ⟨rj.pre.id, ob, rj.it.hi⟩ ∧ r.post.k ≤ rj.it.hi) ↔ ∃ j rj ob m, j < i ∧ Makes A T j rj ob m ∧ p = ⟨rj.pre.id, ob, rj.it.hi⟩ ∧ r.post.k ≤ rj.it.hi := by
      intro hno p
      constructor
      · rintro ⟨j, rj, ob, m, h1, h2, h3⟩
        refine ⟨j, rj, ob, m, ?_, h2, h3⟩
        rcases Nat.eq_or_lt_of_le (Nat.le_of_lt_succ h1) with rfl | h1
        · exfalso
          rw [h2.1] at hi; cases hi
          rcases hno with h | h
          · exact h h2.2.1
          · rw [h2.2.2.1] at h; simp at h
        · exact h1
      · rintro ⟨j, rj, ob, m, h1, h2, h3⟩; exact ⟨j, rj, ob, m, by omega, h2, h3⟩
    have hk := hg.k
    intro p
    rcases hkind with h0 | h1 | h2
    · rw [(hg.read h0).1, hq, nomake (.inl (by omega))]
      rw [if_neg (by omega)] at hk
      rw [hk]
    · rw [if_neg (by omega)] at hk
      cases hw : r.want with
      | false =>
        rw [(hg.none h1 hw).1, hq, nomake (.inr hw), hk]
      | true =>
        obtain ⟨ob, m, g1, g2, g3, g4⟩ := hg.make h1 hw
        rw [g3, List.mem_cons, hq, hk]
        constructor
        · rintro (rfl | ⟨j, rj, ob', m', e1, e2⟩)
          · refine ⟨i, r, ob, m, by omega, ⟨hi, h1, hw, g1⟩, rfl, ?_⟩
            rw [hki]
            exact st.le_hi (st.down_upto i) (by simp [upto]) (hit i r hi)
          · exact ⟨j, rj, ob', m', by omega, e2⟩
        · rintro ⟨j, rj, ob', m', e1, e2, e3, e4⟩
          rcases Nat.eq_or_lt_of_le (Nat.le_of_lt_succ e1) with rfl | e1
          · left
            rw [e2.1] at hi; cases hi
            rw [e2.2.2.2] at g1; cases g1
            exact e3
          · exact .inr ⟨j, rj, ob', m', e1, e2, e3, e4⟩
    · rw [(hg.anchor h2).1, unadopted_mem, hq, nomake (.inl (by omega))]
      rw [if_pos h2] at hk
      rw [hk]
      constructor
      · rintro ⟨⟨j, rj, ob, m, e1, e2, rfl, e4⟩, e5⟩
        simp only at e5
        exact ⟨j, rj, ob, m, e1, e2, rfl, by omega⟩
      · rintro ⟨j, rj, ob, m, e1, e2, rfl, e4⟩
        exact ⟨⟨j, rj, ob, m, e1, e2, rfl, by omega⟩, by simp only; omega⟩)
  simp only [Nat.zero_add] at this
  exact ⟨fun i r hi => (this.1 i r hi).2, this.2⟩

theorem incs_toNat : ∀ (n : Nat) (p : Pos), (incs n p).toNat = p.toNat + n := by
  intro n
  induction n with
  | zero => intro p; rfl
  | succ n ih => intro p; simp only [incs]; rw [ih, Pos.toNat_inc]; omega

/-- the numbers that a trace gives -/
theorem tr_ids : ∀ {T : List Rec} {s t : TSt}, Chain (Good rn A L nt ops) s T t → (∀ r ∈ T, r.it.kind = 0 ∨ r.it.kind = 1 ∨ r.it.kind = 2) →
    (∀ (i : Nat) (r : Rec), T[i]? = some r → s.id.toNat ≤ r.pre.id.toNat ∧ (r.it.kind = 1 → r.want = true → r.pre.id.toNat < s.id.toNat + countFresh (T.map (·.it)))) ∧
    (∀ (i j : Nat) (r r' : Rec), i < j → T[i]? = some r → T[j]? = some r' → r.it.kind = 1 → r.want = true → r.pre.id.toNat < r'.pre.id.toNat) := by
  intro T
  induction T with
  | nil => intro s t _ _; exact ⟨fun i r h => by simp at h, fun i j r r' _ h => by simp at h⟩
  | cons x T ih =>
    intro s t hc hkd
    obtain ⟨h1, h2, h3⟩ := hc
    obtain ⟨g1, g2⟩ := ih h3 (fun r hr => hkd r (List.mem_cons_of_mem _ hr))
    have hpost : (x.it.kind = 1 ∧ x.want = true ∧ x.post.id.toNat = s.id.toNat + 1) ∨ (¬ (x.it.kind = 1 ∧ x.want = true) ∧ x.post.id.toNat = s.id.toNat) := by
      rcases hkd x (List.mem_cons_self ..) with h0 | h0 | h0
      · right; exact ⟨by omega, by rw [(h2.read h0).2.1, h1]⟩
      · cases hw : x.want with
        | true =>
          left
          obtain ⟨ob, m, _, _, _, e⟩ := h2.make h0 hw
          exact ⟨h0, rfl, by rw [e, h1, Pos.toNat_inc]⟩
        | false => right; exact ⟨by simp, by rw [(h2.none h0 hw).2, h1]⟩
      · right; exact ⟨by omega, by rw [(h2.anchor h0).2.1, h1]⟩
    have hcf : countFresh ((x :: T).map (·.it)) = (if x.it.kind = 1 then 1 else 0) + countFresh (T.map (·.it)) := by
      simp only [List.map_cons, countFresh, cond_eq]
      by_cases hx : x.it.kind = 1
      · simp [hx]; omega
      · have : Nat.beq x.it.kind 1 = false := by
          cases hb : Nat.beq x.it.kind 1 with
          | false => rfl
          | true => exact absurd (Nat.eq_of_beq_eq_true hb) hx
        simp [hx, this]
    constructor
    · intro i r hi
      cases i with
      | zero =>
        simp at hi; subst hi
        rw [h1]
        refine ⟨Nat.le_refl _, fun hk _ => ?_⟩
        rw [hcf, if_pos hk]; omega
      | succ i =>
        obtain ⟨a, b⟩ := g1 i r (by simpa using hi)
        refine ⟨by omega, fun hk hw => ?_⟩
        have := b hk hw
        rw [hcf]
        rcases hpost with ⟨hx, _, he⟩ | ⟨_, he⟩
        · rw [if_pos hx]; omega
        · omega
    · intro i j r r' hij hi hj hk hw
      cases j with
      | zero => omega
      | succ j =>
        cases i with
        | zero =>
          simp at hi; subst hi
          have := (g1 j r' (by simpa using hj)).1
          rw [h1]
          rcases hpost with ⟨_, _, he⟩ | ⟨hn, _⟩
          · omega
          · exact absurd ⟨hk, hw⟩ hn
        | succ i => exact g2 i j r r' (by omega) (by simpa using hi) (by simpa using hj) hk hw
end
end Go.Abs

namespace Go.Abs
set_option linter.unusedVariables false
set_option linter.unusedSimpArgs false
section
variable {A : AProg} {ops : Array Oper} {items : List PItem} {bits : List Nat} {an : List (Nat × Nat)}

/-- a listing of what is not listed yet -/
def Listing (ops : Array Oper) : (Nat → Bool) → List Nat → Prop
  | S, [] => ∀ i, i < ops.size → S i = true
  | S, i :: l => i < ops.size ∧ S i = false ∧ Ready ops S i ∧ Listing ops (addS S i) l

def seenOf (a : Array Bool) : Nat → Bool := fun i => a.getD i false

theorem seenOf_set {a : Array Bool} {i : Nat} (hi : i < a.size) : seenOf (a.setIfInBounds i true) = addS (seenOf a) i := by
  funext j
  simp only [seenOf, addS, Array.getD_eq_getD_getElem?]
  split
  · rename_i h; subst h; simp [hi]
  · rename_i h; rw [Array.getElem?_setIfInBounds_ne (Ne.symm h)]

theorem listing_go (st : Static A ops items bits an) : ∀ (fuel t : Nat) (a : Array Bool), a.size = ops.size → (List.range ops.size).countP (fun i => !seenOf a i) = fuel → Listing ops (seenOf a) (Region.linearise.go .any ops fuel t a []) := by
  intro fuel
  induction fuel with
  | zero =>
    intro t a hsz hf
    simp only [Region.linearise.go, List.reverse_nil]
    intro i hi
    rw [List.countP_eq_zero] at hf
    have := hf i (List.mem_range.2 hi)
    simpa using this
  | succ fuel ih =>
    intro t a hsz hf
    simp only [Region.linearise.go]
    change Listing ops (seenOf a) (match (Region.ready .any ops a)[t % (Region.ready .any ops a).length]? with
      | some i => Region.linearise.go .any ops fuel (t / (Region.ready .any ops a).length) (a.setIfInBounds i true) [i]
      | none => [].reverse)
    -- the least that is not listed may be listed
    have hne : Region.ready .any ops a ≠ [] := by
      have hex : ∃ i, i < ops.size ∧ seenOf a i = false := by
        have : 0 < (List.range ops.size).countP (fun i => !seenOf a i) := by omega
        rw [List.countP_pos_iff] at this
        obtain ⟨i, h1, h2⟩ := this
        exact ⟨i, List.mem_range.1 h1, by simpa using h2⟩
      obtain ⟨i, ⟨hi, hs⟩, hmin⟩ : ∃ i, (i < ops.size ∧ seenOf a i = false) ∧ ∀ j, j < i → ¬ (j < ops.size ∧ seenOf a j = false) := by
        obtain ⟨i, h⟩ := hex
        induction i using Nat.strongRecOn with
        | _ i ih2 =>
          by_cases h2 : ∃ j, j < i ∧ (j < ops.size ∧ seenOf a j = false)
          · obtain ⟨j, hj, h3⟩ := h2; exact ih2 j hj h3
          · exact ⟨i, h, fun j hj h3 => h2 ⟨j, hj, h3⟩⟩
      have hmem : i ∈ Region.ready .any ops a := by
        rw [mem_ready]
        refine ⟨?_, ops[i], by simp [hi], ?_⟩
        · simp only [seenOf, Array.getD_eq_getD_getElem?] at hs ⊢
          have : i < a.size := by omega
          simp [this] at hs ⊢; exact hs
        · intro e he hb
          have hlt := (st.edge i ops[i] e (by simp [hi]) (by simpa using he) hb).1
          have := hmin e.on hlt
          cases hse : a.getD e.on false with
          | true => rfl
          | false => exact absurd ⟨by omega, hse⟩ this
      intro h; rw [h] at hmem; simp at hmem
    cases hi : (Region.ready .any ops a)[t % (Region.ready .any ops a).length]? with
    | none =>
      exfalso
      have hpos : 0 < (Region.ready .any ops a).length := List.length_pos_iff.2 hne
      have := Nat.mod_lt t hpos
      rw [List.getElem?_eq_none_iff] at hi
      omega
    | some i =>
      simp only []
      rw [linearise_go_acc, List.reverse_singleton, List.singleton_append]
      have hm := List.mem_of_getElem? hi
      rw [mem_ready] at hm
      obtain ⟨h0, o, ho, hall⟩ := hm
      have hlt : i < ops.size := (Array.getElem?_eq_some_iff.1 ho).1
      have hs : seenOf a i = false := by
        simp only [seenOf, Array.getD_eq_getD_getElem?] at h0 ⊢
        have : i < a.size := by omega
        simp [this] at h0 ⊢; exact h0
      refine ⟨hlt, hs, ?_, ?_⟩
      · intro o' e ho' he hb
        rw [ho] at ho'; cases ho'
        exact hall e (by simpa using he) hb
      · rw [← seenOf_set (by omega)]
        refine ih _ _ (by simp [hsz]) ?_
        rw [seenOf_set (by omega)]
        have hcount : ∀ l : List Nat, l.Nodup → i ∈ l → l.countP (fun j => !seenOf a j) = l.countP (fun j => !addS (seenOf a) i j) + 1 := by
          intro l
          induction l with
          | nil => intro _ h; simp at h
          | cons x l ih3 =>
            intro hnd hmem
            obtain ⟨hx, hnd'⟩ := List.nodup_cons.1 hnd
            rw [List.countP_cons, List.countP_cons]
            by_cases hxi : x = i
            · subst hxi
              have : ∀ l' : List Nat, x ∉ l' → l'.countP (fun j => !addS (seenOf a) x j) = l'.countP (fun j => !seenOf a j) := by
                intro l' hn
                refine List.countP_congr ?_
                intro y hy
                have : y ≠ x := by rintro rfl; exact hn hy
                simp [addS, this]
              rw [this l hx]
              simp [hs, addS]
            · have hil : i ∈ l := by rcases List.mem_cons.1 hmem with h | h; exact absurd h.symm hxi; exact h
              rw [ih3 hnd' hil]
              have : addS (seenOf a) i x = seenOf a x := by simp [addS, hxi]
              rw [this]; omega
        have := hcount (List.range ops.size) List.nodup_range (List.mem_range.2 hlt)
        omega

theorem listing_ok (st : Static A ops items bits an) (t : Nat) : Listing ops (fun _ => false) (Region.linearise .any ops t) := by
  have hS : seenOf (Array.replicate ops.size false) = fun _ => false := by
    funext i
    simp only [seenOf, Array.getD_eq_getD_getElem?]
    by_cases h : i < ops.size
    · simp [h]
    · simp [h]
  have := listing_go st ops.size t (Array.replicate ops.size false) (by simp) (by
    rw [hS]
    rw [List.countP_eq_length.2 (by simp)]
    simp)
  rw [hS] at this
  exact this
end
end Go.Abs

namespace Go.Abs
set_option linter.unusedVariables false
set_option linter.unusedSimpArgs false
section
variable {A : AProg} {P : Program} {L : List (PTree AObj)} {E : Keep} {f : Inj} {h h' : Heap} {g : Pos → Option AObj} {nx : Pos} {w w' : World}

/-- a block that was made and is not looked at yet -/
structure Waits (E : Keep) (f : Inj) (w : World) (id : Pos) (ob : AObj) (b : Nat) : Prop where
  ex : ∃ p ob', f id = some p ∧ p.block = b ∧ w.heap[b]? = some ob' ∧ ORel f p ob ob'
  old : E.w0.heap.size ≤ b

theorem Waits.free {id : Pos} {ob : AObj} {b : Nat} (h : Waits E f w id ob b) (hH : HRel E f g nx w) : ¬ E.keep b := by
  intro hk
  have := (hH.keep b hk).1
  have := h.old
  omega

theorem adopt_get {k : Nat} : ∀ {l : List Pend} {h : Heap} {i : Pos} {o : AObj}, hget L (adopt k l h) i = some o → (∃ p ∈ l, p.hi = k ∧ p.id = i ∧ p.o = o) ∨ hget L h i = some o := by
  intro l
  induction l with
  | nil => intro h i o hg; exact .inr hg
  | cons x l ih =>
    intro h i o hg
    simp only [adopt, cond_eq] at hg
    split at hg
    · rename_i hx
      rw [hget_set] at hg
      unfold upd at hg
      split at hg
      · rename_i e
        simp at hg
        exact .inl ⟨x, List.mem_cons_self .., Nat.eq_of_beq_eq_true hx, e, hg⟩
      · rcases ih hg with ⟨p, a, b⟩ | hg
        · exact .inl ⟨p, List.mem_cons_of_mem _ a, b⟩
        · exact .inr hg
    · rcases ih hg with ⟨p, a, b⟩ | hg
      · exact .inl ⟨p, List.mem_cons_of_mem _ a, b⟩
      · exact .inr hg

theorem adopt_next {k : Nat} : ∀ {l : List Pend} {h : Heap}, (adopt k l h).next = h.next := by
  intro l
  induction l with
  | nil => intro h; rfl
  | cons x l ih =>
    intro h
    simp only [adopt, cond_eq]
    split
    · rw [next_set, ih]
    · exact ih

theorem adopt_ok {k : Nat} (blk : Pend → Nat) : ∀ {l : List Pend}, HRel E f (hget L h) nx w →
    (∀ p ∈ l, p.hi = k → Waits E f w p.id p.o (blk p) ∧ p.id.toNat < nx.toNat ∧ ∀ j o q, hget L h j = some o → o.live = true → f j = some q → q.block ≠ blk p) →
    (l.Pairwise fun p q => p.hi = k → q.hi = k → blk p ≠ blk q) → HRel E f (hget L (adopt k l h)) nx w := by
  intro l
  induction l with
  | nil => intro hH _ _; exact hH
  | cons x l ih =>
    intro hH hl hp
    obtain ⟨hp1, hp2⟩ := List.pairwise_cons.1 hp
    have hH1 := ih hH (fun p hp => hl p (List.mem_cons_of_mem _ hp)) hp2
    simp only [adopt, cond_eq]
    split
    · rename_i hx
      have hx : x.hi = k := Nat.eq_of_beq_eq_true hx
      obtain ⟨hw, hlt, hsep⟩ := hl x (List.mem_cons_self ..) hx
      obtain ⟨p, ob', hf, hb, hwh, hr⟩ := hw.ex
      rw [hget_set]
      refine hH1.adopt hlt hf (by rw [hb]; exact hwh) hr (by rw [hb]; exact hw.free hH) ?_
      intro i oi q hg hlv hne hq
      rw [hb]
      rcases adopt_get hg with ⟨p', hp', hpk, rfl, rfl⟩ | hg
      · obtain ⟨hw', _, _⟩ := hl p' (List.mem_cons_of_mem _ hp') hpk
        obtain ⟨p2, ob2, hf2, hb2, _⟩ := hw'.ex
        rw [hf2] at hq; cases hq
        rw [hb2]
        exact fun e => hp1 p' hp' hx hpk e.symm
      · exact hsep i oi q hg hlv hq
    · exact hH1

theorem adoptAll_get : ∀ {l : List Pend} {h : Heap} {i : Pos} {o : AObj}, hget L (adoptAll l h) i = some o → (∃ p ∈ l, p.id = i ∧ p.o = o) ∨ hget L h i = some o := by
  intro l
  induction l with
  | nil => intro h i o hg; exact .inr hg
  | cons x l ih =>
    intro h i o hg
    simp only [adoptAll] at hg
    rw [hget_set] at hg
    unfold upd at hg
    split at hg
    · rename_i e
      simp at hg
      exact .inl ⟨x, List.mem_cons_self .., e, hg⟩
    · rcases ih hg with ⟨p, a, b⟩ | hg
      · exact .inl ⟨p, List.mem_cons_of_mem _ a, b⟩
      · exact .inr hg

theorem adoptAll_next : ∀ {l : List Pend} {h : Heap}, (adoptAll l h).next = h.next := by
  intro l
  induction l with
  | nil => intro h; rfl
  | cons x l ih => intro h; simp only [adoptAll]; rw [next_set, ih]

theorem adoptAll_ok (blk : Pend → Nat) : ∀ {l : List Pend}, HRel E f (hget L h) nx w →
    (∀ p ∈ l, Waits E f w p.id p.o (blk p) ∧ p.id.toNat < nx.toNat ∧ ∀ j o q, hget L h j = some o → o.live = true → f j = some q → q.block ≠ blk p) →
    (l.Pairwise fun p q => blk p ≠ blk q) → HRel E f (hget L (adoptAll l h)) nx w := by
  intro l
  induction l with
  | nil => intro hH _ _; exact hH
  | cons x l ih =>
    intro hH hl hp
    obtain ⟨hp1, hp2⟩ := List.pairwise_cons.1 hp
    have hH1 := ih hH (fun p hp => hl p (List.mem_cons_of_mem _ hp)) hp2
    simp only [adoptAll]
    obtain ⟨hw, hlt, hsep⟩ := hl x (List.mem_cons_self ..)
    obtain ⟨p, ob', hf, hb, hwh, hr⟩ := hw.ex
    rw [hget_set]
    refine hH1.adopt hlt hf (by rw [hb]; exact hwh) hr (by rw [hb]; exact hw.free hH) ?_
    intro i oi q hg hlv hne hq
    rw [hb]
    rcases adoptAll_get hg with ⟨p', hp', rfl, rfl⟩ | hg
    · obtain ⟨hw', _, _⟩ := hl p' (List.mem_cons_of_mem _ hp')
      obtain ⟨p2, ob2, hf2, hb2, _⟩ := hw'.ex
      rw [hf2] at hq; cases hq
      rw [hb2]
      exact fun e => hp1 p' hp' e.symm
    · exact hsep i oi q hg hlv hq

/-- what waits is kept, the numbers that are given away stay free: for a while -/
def shield (E : Keep) (w : World) (B : Nat → Prop) (R : Pos → Prop) : Keep := ⟨fun b => E.keep b ∨ B b, E.ro, fun i => E.res i ∨ R i, w⟩

theorem HRel.shield {B : Nat → Prop} {R : Pos → Prop} (hH : HRel E f g nx w) (hB : ∀ b, B b → b < w.heap.size ∧ ∀ j o q, g j = some o → o.live = true → f j = some q → q.block ≠ b) (hR : ∀ i, R i → f i = none ∧ i.toNat < nx.toNat) : HRel (Abs.shield E w B R) f g nx w where
  objs := hH.objs
  sep := hH.sep
  fresh := hH.fresh
  kept i o p h1 h2 h3 h4 := by
    rcases h4 with h4 | h4
    · exact hH.kept i o p h1 h2 h3 h4
    · exact absurd rfl ((hB _ h4).2 i o p h1 h2 h3)
  low b hb := Nat.lt_of_lt_of_le (hH.low b hb) hH.size
  res i hi := hi.elim (hH.res i) (hR i)
  keep b hb := ⟨hb.elim (fun hb => Nat.lt_of_lt_of_le (hH.keep b hb).1 hH.size) (fun hb => (hB b hb).1), rfl⟩
  size := Nat.le_refl _
  os := rfl
  tape := rfl
  output := rfl

theorem HRel.unshield {B : Nat → Prop} {R : Pos → Prop} {f' : Inj} {g' : Pos → Option AObj} {nx' : Pos} (hH : HRel E f g nx w) (hH' : HRel (Abs.shield E w B R) f' g' nx' w') : HRel E f' g' nx' w' where
  objs := hH'.objs
  sep := hH'.sep
  fresh := hH'.fresh
  kept i o p h1 h2 h3 h4 := hH'.kept i o p h1 h2 h3 (.inl h4)
  low := hH.low
  res i hi := hH'.res i (.inl hi)
  keep b hb := ⟨(hH.keep b hb).1, (hH'.keep b (.inl hb)).2.trans (hH.keep b hb).2⟩
  size := Nat.le_trans hH.size hH'.size
  os := hH'.os.trans hH.os
  tape := hH'.tape.trans hH.tape
  output := hH'.output.trans hH.output

/-- what was kept by a shield still waits -/
theorem Waits.after {B : Nat → Prop} {R : Pos → Prop} {f' : Inj} {g' : Pos → Option AObj} {nx' : Pos} {id : Pos} {ob : AObj} {b : Nat} (hw : Waits E f w id ob b) (hH : HRel E f g nx w) (hb : B b) (hle : f.le f') (hH' : HRel (Abs.shield E w B R) f' g' nx' w') :
    Waits E f' w' id ob b ∧ ∀ j o q, g' j = some o → o.live = true → f' j = some q → q.block ≠ b := by
  obtain ⟨p, ob', h1, h2, h3, h4⟩ := hw.ex
  refine ⟨⟨⟨p, ob', hle _ _ h1, h2, ?_, h4.mono hle⟩, hw.old⟩, ?_⟩
  · rw [(hH'.keep b (.inr hb)).2]; exact h3
  · intro j o q hg hl hq e
    have := (hH'.kept j o q hg hl hq (by rw [e]; exact .inr hb)).2
    have h1 : b < E.w0.heap.size := hH.low b (by rw [← e]; exact this)
    have := hw.old
    omega
end
end Go.Abs

namespace Go.Abs
set_option linter.unusedVariables false
set_option linter.unusedSimpArgs false
section
variable {rn : AState → Option (AEnd × Heap)} {A : AProg} {P : Program} {L : List (PTree AObj)} {nt : Nat} {ops : Array Oper} {items : List PItem} {bits : List Nat} {an : List (Nat × Nat)} {tm : PTree AVal} {T : List Rec} {s0 t : TSt} {E : Keep} {f f' : Inj} {w w' : World}

/-- a trace of a region, and what its plan says -/
structure Tr (rn : AState → Option (AEnd × Heap)) (A : AProg) (L : List (PTree AObj)) (nt : Nat) (ops : Array Oper) (items : List PItem) (bits : List Nat) (an : List (Nat × Nat)) (tm : PTree AVal) (T : List Rec) (s0 t : TSt) : Prop where
  st : Static A ops items bits an
  chain : Chain (Good rn A L nt ops) s0 T t
  k0 : s0.k = 0
  e0 : s0.e = ⟨[], tm⟩
  pd0 : s0.pd = []
  hit : ∀ (i : Nat) (r : Rec), T[i]? = some r → items[i]? = some r.it
  seen : ∀ r ∈ T, Seen A L t.k (heapsBack T [s0.h]) r

theorem Tr.good (tr : Tr rn A L nt ops items bits an tm T s0 t) {i : Nat} {r : Rec} (hi : T[i]? = some r) : Good rn A L nt ops r :=
  ((Chain.inv (Q := fun _ _ => True) 0 tr.chain trivial (fun _ _ _ _ _ => trivial)).1 i r hi).1
theorem Tr.op (tr : Tr rn A L nt ops items bits an tm T s0 t) {i : Nat} {r : Rec} (hi : T[i]? = some r) : ops[i]? = some r.it.o := (tr.st.item i r.it (tr.hit i r hi)).1

/-- what the temporaries hold, where some operations are done -/
structure EInv (nt : Nat) (tm : PTree AVal) (T : List Rec) (S : Nat → Bool) (f : Inj) (tmps : Array Value) : Prop where
  vals : ∀ (i : Nat) (r : Rec) (d : Tmp), S i = true → T[i]? = some r → r.it.o.dst = some d → ∃ v', tmps[d]? = some v' ∧ VRel f r.v v'
  base : ∀ (d : Tmp) (v : AVal), tm.get (posOf d) = some v → (∀ (i : Nat) (r : Rec), S i = true → T[i]? = some r → r.it.o.dst ≠ some d) → ∃ v', tmps[d]? = some v' ∧ VRel f v v'
  size : nt ≤ tmps.size

theorem EInv.mono {S : Nat → Bool} {tmps : Array Value} (h : EInv nt tm T S f tmps) (hle : f.le f') : EInv nt tm T S f' tmps where
  vals i r d h1 h2 h3 := let ⟨v', a, b⟩ := h.vals i r d h1 h2 h3; ⟨v', a, VRel.mono hle _ _ b⟩
  base d v h1 h2 := let ⟨v', a, b⟩ := h.base d v h1 h2; ⟨v', a, VRel.mono hle _ _ b⟩
  size := h.size

theorem dstNe_ne {d : Option Tmp} {d' : Option Tmp} {x : Tmp} (h : dstNe d d' = true) (h1 : d = some x) : d' ≠ some x := by
  rintro rfl
  subst h1
  simp [dstNe] at h

theorem Tr.dst_ne (tr : Tr rn A L nt ops items bits an tm T s0 t) {i j : Nat} {r r' : Rec} (hi : T[i]? = some r) (hj : T[j]? = some r') (hne : i ≠ j) {d : Tmp} (hd : r.it.o.dst = some d) : r'.it.o.dst ≠ some d := by
  rcases Nat.lt_or_gt_of_ne hne with h | h
  · exact dstNe_ne (tr.st.pair i j _ _ h (tr.hit i r hi) (tr.hit j r' hj)).1 hd
  · intro hd'
    exact dstNe_ne (tr.st.pair j i _ _ h (tr.hit j r' hj) (tr.hit i r hi)).1 hd' hd

/-- one more operation is done -/
theorem EInv.put (tr : Tr rn A L nt ops items bits an tm T s0 t) {S : Nat → Bool} {tmps : Array Value} (h : EInv nt tm T S f tmps) {i : Nat} {r : Rec} (hi : T[i]? = some r) {v' : Value} (hv : VRel f r.v v') :
    EInv nt tm T (addS S i) f (putDst tmps r.it.o.dst v') := by
  have hs := (tr.good hi).dst
  cases hd : r.it.o.dst with
  | none =>
    refine ⟨?_, ?_, h.size⟩
    · intro j rj d hj hT hdj
      simp only [addS] at hj
      split at hj
      · rename_i e; subst e; rw [hi] at hT; cases hT; rw [hd] at hdj; simp at hdj
      · exact h.vals j rj d hj hT hdj
    · intro d v hb hn
      refine h.base d v hb fun j rj hj hT => hn j rj ?_ hT
      simp [addS, hj]
  | some d0 =>
    rw [hd] at hs
    have hlt : @LT.lt Nat _ d0 nt := by
      simp only [setDst, cond_eq] at hs
      split at hs
      · rename_i hb; exact Nat.lt_of_succ_le (Nat.le_of_ble_eq_true hb)
      · simp at hs
    have hsz : @LT.lt Nat _ d0 tmps.size := Nat.lt_of_lt_of_le hlt h.size
    have hset : ∀ d : Tmp, (putDst tmps (some d0) v')[d]? = if d0 = d then some v' else tmps[d]? := by
      intro d
      simp only [putDst, Array.getElem?_setIfInBounds]
      by_cases e : d0 = d
      · rw [if_pos e, if_pos e, if_pos hsz]
      · rw [if_neg e, if_neg e]
    refine ⟨?_, ?_, by simpa [putDst] using h.size⟩
    · intro j rj d hj hT hdj
      simp only [addS] at hj
      split at hj
      · rename_i e; subst e; rw [hi] at hT; cases hT
        rw [hd] at hdj; cases hdj
        exact ⟨v', by rw [hset, if_pos rfl], hv⟩
      · rename_i hne
        obtain ⟨u, a, b⟩ := h.vals j rj d hj hT hdj
        refine ⟨u, ?_, b⟩
        rw [hset, if_neg]
        · exact a
        · rintro rfl
          exact tr.dst_ne hi hT (fun e => hne e.symm) hd hdj
    · intro d v hb hn
      have hne : d0 ≠ d := by
        rintro rfl
        exact hn i r (by simp [addS]) hi hd
      obtain ⟨u, a, b⟩ := h.base d v hb fun j rj hj hT => hn j rj (by simp [addS, hj]) hT
      exact ⟨u, by rw [hset, if_neg hne]; exact a, b⟩

theorem inNats_mem {x : Nat} : ∀ {l : List Nat}, x ∈ l → inNats x l = true := by
  intro l
  induction l with
  | nil => intro h; simp at h
  | cons y l ih =>
    intro h
    simp only [inNats, cond_eq]
    split
    · rfl
    · rename_i hn
      rcases List.mem_cons.1 h with rfl | h
      · exact absurd (Nat.beq_refl x) hn
      · exact ih h
theorem tmpOf_mem {t : Tmp} : ∀ {l : List Operand}, Operand.tmp t ∈ l → t ∈ tmpOf l := by
  intro l
  induction l with
  | nil => intro h; simp at h
  | cons y l ih =>
    intro h
    rcases List.mem_cons.1 h with rfl | h2
    · simp [tmpOf]
    · have := ih h2
      cases y <;> simp [tmpOf, this]
theorem reads_in {o : Oper} {t : Tmp} (h : Operand.tmp t ∈ o.op.operands.toList) : dstIn (some t) (readsOf o) = true := inNats_mem (tmpOf_mem h)

/-- what an operation reads is what the trace says, whenever it may be done -/
theorem EInv.reads (tr : Tr rn A L nt ops items bits an tm T s0 t) {S : Nat → Bool} {fr : Frame} (h : EInv nt tm T S f fr.tmps) (hg : GRel f) (hS : Down bits S) {i : Nat} {r : Rec} (hi : T[i]? = some r) (hn : S i = false) (hr : Ready ops S i) :
    OpEnv f r.pre.e fr.eval r.it.o.op.operands.toList := by
  intro x hx v hv
  cases x with
  | tmp d =>
    have hv' : r.pre.e.get d = some v := hv
    obtain ⟨v', h1, h2⟩ : ∃ v', fr.tmps[d]? = some v' ∧ VRel f v v' := by
      rcases ((tr_env tr.e0 tr.chain).1 i r hi).2 d v hv' with ⟨j, rj, hj, hT, hd, rfl⟩ | ⟨hno, hb⟩
      · have hbit : Bit bits i j := by
          rcases (tr.st.pair j i _ _ hj (tr.hit j rj hT) (tr.hit i r hi)).2 with h | h
          · exact h
          · rw [hd, reads_in hx] at h; simp at h
        exact h.vals j rj d (tr.st.ready hS hr j hbit) hT hd
      · refine h.base d v hb ?_
        intro j rj hj hT hd
        rcases Nat.lt_trichotomy j i with hlt | rfl | hlt
        · exact hno j rj hlt hT hd
        · rw [hn] at hj; simp at hj
        · have hbit : Bit bits j i := by
            rcases (tr.st.pair i j _ _ hlt (tr.hit i r hi) (tr.hit j rj hT)).2 with h | h
            · exact h
            · rw [hd, reads_in hx] at h; simp at h
          have := hS j i hj hbit
          rw [hn] at this; simp at this
    simp only [Frame.eval, Array.getD_eq_getD_getElem?, h1]
    exact h2
  | const c => exact ofValue_rel c v hv
  | global g =>
    simp only [aeval, cond_eq] at hv
    split at hv
    · rename_i hlt
      have hlt : g < 32 := Nat.lt_of_succ_le (Nat.le_of_ble_eq_true hlt)
      simp at hv; subst hv
      obtain ⟨p, h1, h2, h3⟩ := hg g hlt
      refine ⟨p, h1, ?_⟩
      simp [Frame.eval, h2, h3]
    · simp at hv
  | func g => simp [aeval] at hv; subst hv; exact ⟨#[], #[], rfl, rfl, rfl⟩

/-- whether an operation is wanted is what the trace says -/
theorem EInv.wanted (tr : Tr rn A L nt ops items bits an tm T s0 t) {S : Nat → Bool} {tmps : Array Value} (h : EInv nt tm T S f tmps) (hS : Down bits S) {i : Nat} {r : Rec} (hi : T[i]? = some r) (hr : Ready ops S i) {e : Env} {b : Bool}
    (he : FromTr T tm i e) (hw : awanted r.it.o.guard ops e = some b) : Region.wanted r.it.o (yielded ops tmps) = b := by
  unfold awanted at hw
  unfold Region.wanted
  split at hw
  · rename_i hg; simp at hw; subst hw; rw [hg]
  · rename_i j want hg
    rw [hg]
    simp only
    have hbit := tr.st.guard i r.it j want (tr.hit i r hi) hg
    have hji := tr.st.lt i j hbit
    have hlen : i < T.length := (List.getElem?_eq_some_iff.1 hi).1
    obtain ⟨rj, hj⟩ : ∃ rj, T[j]? = some rj := ⟨T[j]'(by omega), List.getElem?_eq_getElem (by omega)⟩
    have hn := tr.op hj
    have key : ∀ o' d x, nth j ops.toList = some o' → o'.dst = some d → e.get d = some x → rj.it.o.dst = some d ∧ ∃ v', tmps[d]? = some v' ∧ VRel f x v' := by
      intro o' d x ho' hd hx
      rw [nth_eq, Array.getElem?_toList, hn] at ho'
      cases ho'
      refine ⟨hd, ?_⟩
      rcases he.2 d x hx with ⟨j', rj', hlt, hT, hd', rfl⟩ | ⟨hno, _⟩
      · by_cases hjj : j = j'
        · subst hjj
          rw [hj] at hT; cases hT
          exact h.vals j rj d (tr.st.ready hS hr j hbit) hj hd
        · exact absurd hd' (tr.dst_ne hj hT hjj hd)
      · exact absurd hd (hno j rj hji hj)
    split at hw
    · rename_i b' hy
      simp at hw; subst hw
      unfold ayielded at hy
      split at hy
      · rename_i o' ho'
        split at hy
        · rename_i d hd
          split at hy
          · rename_i x hx
            simp at hy; subst hy
            obtain ⟨hdj, v', h1, h2⟩ := key o' d _ ho' hd hx
            rw [VRel] at h2; subst h2
            simp only [yielded, hn, Option.bind_some, hdj, h1]
            cases x <;> cases want <;> rfl
          · simp at hy
          · simp at hy
        · simp at hy
      · simp at hy
    · rename_i hy
      simp at hw; subst hw
      unfold ayielded at hy
      split at hy
      · rename_i o' ho'
        split at hy
        · rename_i d hd
          split at hy
          · simp at hy
          · rename_i hx
            obtain ⟨hdj, v', h1, a, rfl, h2⟩ := key o' d _ ho' hd hx
            simp only [yielded, hn, Option.bind_some, hdj, h1]
            rfl
          · simp at hy
        · simp at hy
      · simp at hy
    · simp at hw
end
end Go.Abs

namespace Go.Abs
set_option linter.unusedVariables false
set_option linter.unusedSimpArgs false
section
variable {rn : AState → Option (AEnd × Heap)} {A : AProg} {P : Program} {L : List (PTree AObj)} {nt : Nat} {ops : Array Oper} {items : List PItem} {bits : List Nat} {an : List (Nat × Nat)} {tm : PTree AVal} {T : List Rec} {s0 t : TSt} {E : Keep} {f f' : Inj} {w w' : World}

/-- the heap, where some operations are done -/
structure HInv (A : AProg) (L : List (PTree AObj)) (an : List (Nat × Nat)) (T : List Rec) (h0 : Heap) (E : Keep) (f : Inj) (S : Nat → Bool) (w : World) : Prop where
  heap : HRel E f (hget L (hk T h0 (stage an S))) (hk T h0 (stage an S)).next w
  free : ∀ i r ob m, Makes A T i r ob m → S i = false → f r.pre.id = none ∧ r.pre.id.toNat < (hk T h0 (stage an S)).next.toNat
  pend : ∀ i r ob m, Makes A T i r ob m → S i = true → stage an S ≤ r.it.hi → ∃ b, Waits E f w r.pre.id ob b ∧ ∀ j o q, hget L (hk T h0 (stage an S)) j = some o → o.live = true → f j = some q → q.block ≠ b
  apart : ∀ i i' r r' ob ob' m m' p p', i ≠ i' → Makes A T i r ob m → Makes A T i' r' ob' m' → S i = true → S i' = true → stage an S ≤ r.it.hi → stage an S ≤ r'.it.hi → f r.pre.id = some p → f r'.pre.id = some p' → p.block ≠ p'.block

theorem Makes.same {i : Nat} {r r' : Rec} {ob : AObj} {m : Mk} (h : Makes A T i r ob m) (hi : T[i]? = some r') : r = r' := by
  have := h.1; rw [hi] at this; cases this; rfl

theorem addS_false {S : Nat → Bool} {i j : Nat} (h : addS S i j = false) : S j = false ∧ j ≠ i := by
  simp only [addS] at h
  split at h
  · simp at h
  · exact ⟨h, ‹_›⟩
theorem addS_true {S : Nat → Bool} {i j : Nat} (h : addS S i j = true) : j = i ∨ S j = true := by
  simp only [addS] at h
  split at h
  · exact .inl ‹_›
  · exact .inr h

/-- an operation that neither makes nor is an anchor is done -/
theorem HInv.quiet (tr : Tr rn A L nt ops items bits an tm T s0 t) {S : Nat → Bool} (h : HInv A L an T s0.h E f S w) {i : Nat} {r : Rec} (hi : T[i]? = some r) (hn : S i = false) (hk : r.it.kind ≠ 2) (hm : r.it.kind ≠ 1 ∨ r.want = false) : HInv A L an T s0.h E f (addS S i) w := by
  have hst : stage an (addS S i) = stage an S := by rw [tr.st.stage_add hn (tr.hit i r hi), if_neg hk]
  have hne : ∀ j rj ob m, Makes A T j rj ob m → j ≠ i := by
    rintro j rj ob m hmk rfl
    have := hmk.same hi
    subst this
    rcases hm with h | h
    · exact h hmk.2.1
    · rw [hmk.2.2.1] at h; simp at h
  refine ⟨by rw [hst]; exact h.heap, ?_, ?_, ?_⟩
  · intro j rj ob m h1 h2
    rw [hst]
    exact h.free j rj ob m h1 (addS_false h2).1
  · intro j rj ob m h1 h2 h3
    rw [hst] at h3 ⊢
    exact h.pend j rj ob m h1 ((addS_true h2).resolve_left (hne j rj ob m h1)) h3
  · intro j j' rj rj' ob ob' m m' p p' h0 h1 h2 h3 h4 h5 h6
    rw [hst] at h5 h6
    exact h.apart j j' rj rj' ob ob' m m' p p' h0 h1 h2 ((addS_true h3).resolve_left (hne j rj ob m h1)) ((addS_true h4).resolve_left (hne j' rj' ob' m' h2)) h5 h6

/-- a block is made -/
theorem HInv.make (tr : Tr rn A L nt ops items bits an tm T s0 t) {S : Nat → Bool} (h : HInv A L an T s0.h E f S w) (hS : Down bits S) {i : Nat} {r : Rec} {ob : AObj} {m : Mk} {v : Value} (hmk : Makes A T i r ob m) (hn : S i = false)
    (hres : ¬ E.res r.pre.id) (hmade : Made f w w' ob m v) : ∃ f', f.le f' ∧ VRel f' r.v v ∧ HInv A L an T s0.h E f' (addS S i) w' := by
  have hi := hmk.1
  have hst : stage an (addS S i) = stage an S := by rw [tr.st.stage_add hn (tr.hit i r hi), if_neg (by have := hmk.2.1; omega)]
  obtain ⟨x, room, hw, hex⟩ := hmade.ex
  obtain ⟨hfn, hlt⟩ := h.free i r ob m hmk hn
  have hle : f.le (f.upd r.pre.id ⟨w.heap.size, 0, room⟩) := Inj.le_upd hfn
  obtain ⟨hor, hvr⟩ := hex _ r.pre.id hle Inj.upd_same
  have hv : r.v = m.val r.pre.id := by
    obtain ⟨ob', m', g1, g2, _⟩ := (tr.good hi).make hmk.2.1 hmk.2.2.1
    rw [hmk.2.2.2] at g1; cases g1; exact g2
  have hH1 : HRel E f (hget L (hk T s0.h (stage an S))) (hk T s0.h (stage an S)).next w' := h.heap.push hw hmade.same
  have hids := tr_ids tr.chain (fun r hr => by
    obtain ⟨j, hj⟩ := List.getElem?_of_mem hr
    have := (tr.st.item j r.it (tr.hit j r hj)).2.1
    rw [this]; unfold kindOf
    repeat' split
    all_goals simp)
  have hidne : ∀ j rj ob' m', Makes A T j rj ob' m' → j ≠ i → rj.pre.id ≠ r.pre.id := by
    intro j rj ob' m' h1 hne e
    rcases Nat.lt_or_gt_of_ne hne with hlt | hlt
    · have := hids.2 j i rj r hlt h1.1 hi h1.2.1 h1.2.2.1
      rw [e] at this; omega
    · have := hids.2 i j r rj hlt hi h1.1 hmk.2.1 hmk.2.2.1
      rw [e] at this; omega
  have hother : ∀ j, j ≠ r.pre.id → (f.upd r.pre.id ⟨w.heap.size, 0, room⟩) j = f j := fun j hj => by unfold Inj.upd; rw [if_neg (fun e => hj e.symm)]
  have hblk : ∀ {b : Nat} {id : Pos} {o : AObj}, Waits E f w id o b → b < w.heap.size := by
    rintro b id o ⟨⟨p, ob', _, _, h3, _⟩, _⟩
    exact (Array.getElem?_eq_some_iff.1 h3).1
  have hwaits : ∀ {b : Nat} {id : Pos} {o : AObj}, Waits E f w id o b → Waits E (f.upd r.pre.id ⟨w.heap.size, 0, room⟩) w' id o b := by
    intro b id o hw1
    have hb := hblk hw1
    obtain ⟨⟨p, ob', h1, h2, h3, h4⟩, h5⟩ := hw1
    refine ⟨⟨p, ob', hle _ _ h1, h2, ?_, h4.mono hle⟩, h5⟩
    rw [hw, Array.getElem?_push, if_neg (by omega)]; exact h3
  have hnew : Waits E (f.upd r.pre.id ⟨w.heap.size, 0, room⟩) w' r.pre.id ob w.heap.size :=
    ⟨⟨_, x, Inj.upd_same, rfl, by rw [hw]; simp, hor⟩, h.heap.size⟩
  refine ⟨_, hle, by rw [hv]; exact hvr, ⟨by rw [hst]; exact hH1.name hlt hfn hres, ?_, ?_, ?_⟩⟩
  · intro j rj ob' m' h1 h2
    obtain ⟨h3, hne⟩ := addS_false h2
    obtain ⟨g1, g2⟩ := h.free j rj ob' m' h1 h3
    rw [hst]
    exact ⟨by rw [hother _ (hidne j rj ob' m' h1 hne)]; exact g1, g2⟩
  · intro j rj ob' m' h1 h2 h3
    rw [hst] at h3 ⊢
    rcases addS_true h2 with rfl | h2
    · have := h1.same hi
      subst this
      have hob : ob' = ob := by have := h1.2.2.2; rw [hmk.2.2.2] at this; simp at this; exact this.1.symm
      subst hob
      refine ⟨_, hnew, ?_⟩
      intro k o q hg hl hq
      obtain ⟨q', ob2, hq', hw2, _⟩ := h.heap.objs k o hg hl
      rw [hle _ _ hq'] at hq; cases hq
      have := (Array.getElem?_eq_some_iff.1 hw2).1
      omega
    · obtain ⟨b, g1, g2⟩ := h.pend j rj ob' m' h1 h2 h3
      refine ⟨b, hwaits g1, ?_⟩
      intro k o q hg hl hq
      obtain ⟨q', ob2, hq', hw2, _⟩ := h.heap.objs k o hg hl
      rw [hle _ _ hq'] at hq; cases hq
      exact g2 k o q hg hl hq'
  · intro j j' rj rj' ob1 ob2 m1 m2 p p' hne h1 h2 h3 h4 h5 h6 h7 h8
    rw [hst] at h5 h6
    have hold : ∀ j rj ob1 m1 p, Makes A T j rj ob1 m1 → S j = true → stage an S ≤ rj.it.hi → (f.upd r.pre.id ⟨w.heap.size, 0, room⟩) rj.pre.id = some p → f rj.pre.id = some p ∧ p.block < w.heap.size := by
      intro j rj ob1 m1 p h1 h3 h5 h7
      obtain ⟨b, g1, _⟩ := h.pend j rj ob1 m1 h1 h3 h5
      have hb := hblk g1
      obtain ⟨⟨q, _, e1, e2, _⟩, _⟩ := g1
      rw [hle _ _ e1] at h7; cases h7
      exact ⟨e1, by omega⟩
    have hnewp : ∀ rj p, rj = r → (f.upd r.pre.id ⟨w.heap.size, 0, room⟩) rj.pre.id = some p → p.block = w.heap.size := by
      rintro rj p rfl h7
      rw [Inj.upd_same] at h7; cases h7; rfl
    rcases addS_true h3 with rfl | h3'
    · rcases addS_true h4 with rfl | h4'
      · exact absurd rfl hne
      · have e1 := hnewp rj p (h1.same hi) h7
        have e2 := (hold j' rj' ob2 m2 p' h2 h4' h6 h8).2
        omega
    · rcases addS_true h4 with rfl | h4'
      · have e1 := hnewp rj' p' (h2.same hi) h8
        have e2 := (hold j rj ob1 m1 p h1 h3' h5 h7).2
        omega
      · exact h.apart j j' rj rj' ob1 ob2 m1 m2 p p' hne h1 h2 h3' h4' h5 h6 (hold j rj ob1 m1 p h1 h3' h5 h7).1 (hold j' rj' ob2 m2 p' h2 h4' h6 h8).1
end
end Go.Abs

namespace Go.Abs
set_option linter.unusedVariables false
set_option linter.unusedSimpArgs false
section
variable {rn : AState → Option (AEnd × Heap)} {A : AProg} {P : Program} {L : List (PTree AObj)} {nt : Nat} {ops : Array Oper} {items : List PItem} {bits : List Nat} {an : List (Nat × Nat)} {tm : PTree AVal} {T : List Rec} {s0 t : TSt} {E : Keep} {f f' : Inj} {w w' : World}

theorem Tr.kinds (tr : Tr rn A L nt ops items bits an tm T s0 t) : ∀ r ∈ T, r.it.kind = 0 ∨ r.it.kind = 1 ∨ r.it.kind = 2 := by
  intro r hr
  obtain ⟨j, hj⟩ := List.getElem?_of_mem hr
  have := (tr.st.item j r.it (tr.hit j r hj)).2.1
  rw [this]; unfold kindOf
  repeat' split
  all_goals simp

theorem unadopted_eq (k : Nat) : ∀ (l : List Pend), unadopted k l = l.filter fun p => !Nat.beq p.hi k := by
  intro l
  induction l with
  | nil => rfl
  | cons x l ih => simp only [unadopted, cond_eq, List.filter_cons, ih]; split <;> simp_all

theorem tr_pd_apart (tr : Tr rn A L nt ops items bits an tm T s0 t) : (∀ (i : Nat) (r : Rec), T[i]? = some r → r.pre.pd.Pairwise fun p q => p.id ≠ q.id) ∧ t.pd.Pairwise fun p q => p.id ≠ q.id := by
  have := Chain.inv (Q := fun _ (s : TSt) => (s.pd.Pairwise fun p q => p.id ≠ q.id) ∧ ∀ p ∈ s.pd, p.id.toNat < s.id.toNat) 0 tr.chain (by rw [tr.pd0]; simp) (by
    intro i r hi hg hq
    rcases tr.kinds r (List.mem_of_getElem? hi) with h0 | h0 | h0
    · rw [(hg.read h0).1, (hg.read h0).2.1]; exact hq
    · cases hw : r.want with
      | false => rw [(hg.none h0 hw).1, (hg.none h0 hw).2]; exact hq
      | true =>
        obtain ⟨ob, m, _, _, e1, e2⟩ := hg.make h0 hw
        rw [e1, e2]
        refine ⟨List.Pairwise.cons ?_ hq.1, ?_⟩
        · intro p hp e
          have := hq.2 p hp
          simp only at e
          rw [← e] at this; omega
        · intro p hp
          rw [Pos.toNat_inc]
          rcases List.mem_cons.1 hp with rfl | hp
          · simp only; omega
          · have := hq.2 p hp; omega
    · rw [(hg.anchor h0).1, (hg.anchor h0).2.1, unadopted_eq]
      exact ⟨hq.1.filter _, fun p hp => hq.2 p (List.mem_filter.1 hp).1⟩)
  exact ⟨fun i r hi => (this.1 i r hi).2.1, this.2.1⟩

/-- at an anchor that may be done: the time in the text is the time now -/
theorem Tr.now (tr : Tr rn A L nt ops items bits an tm T s0 t) {S : Nat → Bool} (hS : Down bits S) {i : Nat} {r : Rec} (hi : T[i]? = some r) (hn : S i = false) (hr : Ready ops S i) (hk : r.it.kind = 2) :
    r.pre.k = stage an S ∧ ∃ b, an[stage an S]? = some (i, b) := by
  obtain ⟨b, hb⟩ := tr.st.next hS hr hn (tr.hit i r hi) hk
  obtain ⟨b', hb'⟩ := tr.st.next (tr.st.down_upto i) (tr.st.ready_upto i) (by simp [upto]) (tr.hit i r hi) hk
  refine ⟨?_, b, hb⟩
  rw [(tr_stage tr.st tr.k0 tr.chain tr.hit).1 i r hi]
  rcases Nat.lt_trichotomy (stage an (upto i)) (stage an S) with h | h | h
  · have := tr.st.lt _ _ (tr.st.chain h hb' hb); simp only at this; omega
  · exact h
  · have := tr.st.lt _ _ (tr.st.chain h hb hb'); simp only at this; omega

/-- the blocks that wait longer -/
def waitB (A : AProg) (T : List Rec) (f : Inj) (S : Nat → Bool) (k : Nat) (b : Nat) : Prop := ∃ j rj ob m p, Makes A T j rj ob m ∧ S j = true ∧ k ≤ rj.it.hi ∧ f rj.pre.id = some p ∧ p.block = b
/-- the numbers that are free still -/
def freeR (A : AProg) (T : List Rec) (S : Nat → Bool) (x : Pos) : Prop := ∃ j rj ob m, Makes A T j rj ob m ∧ S j = false ∧ rj.pre.id = x

theorem HInv.block {S : Nat → Bool} (h : HInv A L an T s0.h E f S w) {j : Nat} {rj : Rec} {ob : AObj} {m : Mk} {p : Place} (h1 : Makes A T j rj ob m) (h2 : S j = true) (h3 : stage an S ≤ rj.it.hi) (h4 : f rj.pre.id = some p) :
    Waits E f w rj.pre.id ob p.block ∧ ∀ j o q, hget L (hk T s0.h (stage an S)) j = some o → o.live = true → f j = some q → q.block ≠ p.block := by
  obtain ⟨b, g1, g2⟩ := h.pend j rj ob m h1 h2 h3
  obtain ⟨q, _, e1, e2, _⟩ := g1.ex
  rw [h4] at e1; cases e1
  subst e2
  exact ⟨g1, g2⟩

theorem HInv.before (tr : Tr rn A L nt ops items bits an tm T s0 t) {S : Nat → Bool} (h : HInv A L an T s0.h E f S w) (hS : Down bits S) {i : Nat} {r : Rec} (hi : T[i]? = some r) (hn : S i = false) (hr : Ready ops S i) (hk : r.it.kind = 2) :
    HRel (shield E w (waitB A T f S (stage an S + 1)) (freeR A T S)) f (hget L (adopt r.pre.k r.pre.pd r.pre.h)) (adopt r.pre.k r.pre.pd r.pre.h).next w ∧ HRel E f (hget L (adopt r.pre.k r.pre.pd r.pre.h)) (adopt r.pre.k r.pre.pd r.pre.h).next w := by
  obtain ⟨hnow, b, hb⟩ := tr.now hS hi hn hr hk
  have hh : r.pre.h = Abs.hk T s0.h (stage an S) := by
    have := (tr_heap tr.chain).2.2 i r hi
    rw [this.2.2.1, tr.k0, Nat.sub_zero, hnow]
  have hpend := (tr_pend tr.st tr.k0 tr.pd0 tr.chain tr.hit).1 i r hi
  -- who is to be seen from now on
  have hdue : ∀ p ∈ r.pre.pd, p.hi = r.pre.k → ∃ j rj ob m q, Makes A T j rj ob m ∧ p = ⟨rj.pre.id, ob, rj.it.hi⟩ ∧ S j = true ∧ rj.it.hi = stage an S ∧ f rj.pre.id = some q := by
    intro p hp hpk
    obtain ⟨j, rj, ob, m, hj, hmk, rfl, hle⟩ := (hpend p).1 hp
    simp only at hpk
    have hSj := tr.st.ready hS hr j (tr.st.due (tr.hit j rj hmk.1) (by rw [← hnow, hpk]; exact Nat.le_refl _) hb)
    obtain ⟨b', g1, _⟩ := h.pend j rj ob m hmk hSj (by rw [← hnow, hpk]; exact Nat.le_refl _)
    obtain ⟨q, _, e1, _⟩ := g1.ex
    exact ⟨j, rj, ob, m, q, hmk, rfl, hSj, by rw [hpk, hnow], e1⟩
  have hH1 : HRel E f (hget L (adopt r.pre.k r.pre.pd r.pre.h)) (adopt r.pre.k r.pre.pd r.pre.h).next w := by
    rw [adopt_next]
    refine adopt_ok (fun p => match f p.id with | some q => q.block | none => 0) (by rw [hh]; exact h.heap) ?_ ?_
    · intro p hp hpk
      obtain ⟨j, rj, ob, m, q, hmk, rfl, hSj, hhi, hq⟩ := hdue p hp hpk
      obtain ⟨g1, g2⟩ := h.block hmk hSj (by omega) hq
      simp only [hq]
      refine ⟨g1, ?_, by rw [hh]; exact g2⟩
      have := h.heap.fresh _ _ hq
      rw [hh]; exact this
    · refine List.Pairwise.imp_of_mem ?_ ((tr_pd_apart tr).1 i r hi)
      intro p p' hp hp' hne e1 e2
      obtain ⟨j, rj, ob, m, q, hmk, rfl, hSj, hhi, hq⟩ := hdue p hp e1
      obtain ⟨j', rj', ob', m', q', hmk', rfl, hSj', hhi', hq'⟩ := hdue p' hp' e2
      simp only [hq, hq']
      refine h.apart j j' rj rj' ob ob' m m' q q' ?_ hmk hmk' hSj hSj' (by omega) (by omega) hq hq'
      rintro rfl
      have := hmk.same hmk'.1
      subst this
      exact hne rfl
  refine ⟨hH1.shield ?_ ?_, hH1⟩
  · rintro b' ⟨j, rj, ob, m, p, hmk, hSj, hhi, hp, rfl⟩
    obtain ⟨g1, g2⟩ := h.block hmk hSj (by omega) hp
    refine ⟨?_, ?_⟩
    · obtain ⟨q, ob', e1, e2, e3, _⟩ := g1.ex
      exact (Array.getElem?_eq_some_iff.1 e3).1
    · intro x o q hg hl hq
      rcases adopt_get hg with ⟨p', hp', hpk, rfl, rfl⟩ | hg
      · obtain ⟨j', rj', ob', m', q', hmk', rfl, hSj', hhi', hq'⟩ := hdue p' hp' hpk
        simp only at hq
        rw [hq'] at hq; cases hq
        refine h.apart j' j rj' rj ob' ob m' m _ _ ?_ hmk' hmk hSj' hSj (by omega) (by omega) hq' hp
        rintro rfl
        have := hmk.same hmk'.1
        subst this
        omega
      · rw [hh] at hg
        exact g2 x o q hg hl hq
  · rintro x ⟨j, rj, ob, m, hmk, hSj, rfl⟩
    rw [adopt_next, hh]
    exact h.free j rj ob m hmk hSj

theorem HInv.after (tr : Tr rn A L nt ops items bits an tm T s0 t) {S : Nat → Bool} (h : HInv A L an T s0.h E f S w) (hS : Down bits S) {i : Nat} {r : Rec} (hi : T[i]? = some r) (hn : S i = false) (hr : Ready ops S i) (hk : r.it.kind = 2)
    (hle : f.le f') (hH : HRel E f (hget L (adopt r.pre.k r.pre.pd r.pre.h)) (adopt r.pre.k r.pre.pd r.pre.h).next w)
    (hH' : HRel (shield E w (waitB A T f S (stage an S + 1)) (freeR A T S)) f' (hget L r.post.h) r.post.h.next w') : HInv A L an T s0.h E f' (addS S i) w' := by
  obtain ⟨hnow, b, hb⟩ := tr.now hS hi hn hr hk
  have hst : stage an (addS S i) = stage an S + 1 := by rw [tr.st.stage_add hn (tr.hit i r hi), if_pos hk]
  have hh : Abs.hk T s0.h (stage an S + 1) = r.post.h := by
    have := ((tr_heap tr.chain).2.2 i r hi).2.2.2 hk
    rw [this.2, tr.k0, Nat.sub_zero, hnow]
  have hne : ∀ j rj ob m, Makes A T j rj ob m → j ≠ i := by
    rintro j rj ob m hmk rfl
    have := hmk.same hi
    subst this
    have := hmk.2.1
    omega
  have hold : ∀ j rj ob m p, Makes A T j rj ob m → S j = true → stage an S + 1 ≤ rj.it.hi → f' rj.pre.id = some p → f rj.pre.id = some p := by
    intro j rj ob m p h1 h2 h3 h4
    obtain ⟨b', g1, _⟩ := h.pend j rj ob m h1 h2 (by omega)
    obtain ⟨q, _, e1, _⟩ := g1.ex
    rw [hle _ _ e1] at h4; cases h4; exact e1
  refine ⟨by rw [hst, hh]; exact hH.unshield hH', ?_, ?_, ?_⟩
  · intro j rj ob m h1 h2
    rw [hst, hh]
    exact hH'.res _ (.inr ⟨j, rj, ob, m, h1, (addS_false h2).1, rfl⟩)
  · intro j rj ob m h1 h2 h3
    rw [hst] at h3
    rw [hst, hh]
    have hSj := (addS_true h2).resolve_left (hne j rj ob m h1)
    obtain ⟨b', g1, _⟩ := h.pend j rj ob m h1 hSj (by omega)
    obtain ⟨q, _, e1, e2, _⟩ := g1.ex
    exact ⟨b', g1.after hH ⟨j, rj, ob, m, q, h1, hSj, h3, e1, e2⟩ hle hH'⟩
  · intro j j' rj rj' ob ob' m m' p p' h0 h1 h2 h3 h4 h5 h6 h7 h8
    rw [hst] at h5 h6
    have a1 := (addS_true h3).resolve_left (hne j rj ob m h1)
    have a2 := (addS_true h4).resolve_left (hne j' rj' ob' m' h2)
    exact h.apart j j' rj rj' ob ob' m m' p p' h0 h1 h2 a1 a2 (by omega) (by omega) (hold j rj ob m p h1 a1 h5 h7) (hold j' rj' ob' m' p' h2 a2 h6 h8)
end
end Go.Abs

