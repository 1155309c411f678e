/- A stable merge sort in plain Lean, and the walk of slices.SortStableFunc at the order of ends. -/
import Derived.Sort.LotA
import Derived.Shelf.SlGeneric
import Derived.Shelf.Spec.SlicesGrow
import Derived.Test.YtcibmhncdgoemaaGreatDoorProg
import Derived.Shelf.SlSortCmp.Kit1
import Derived.Sort.WalkA
import Derived.Sort.WalkB2
import Derived.Sort.WalkB12
import Derived.Deep.LoopGhost
import Derived.Lib.Hide
import Derived.Shelf.SlSortCmp.QuietGrown
import Derived.Deep.CutRange
import Derived.BigQuiet
import Derived.LoopN
import Derived.Deep.QuietTactic
set_option linter.unusedVariables false
set_option linter.unusedSimpArgs false
set_option linter.unusedSectionVars false
namespace Go.Sort
variable {α : Type} [Inhabited α]

section
variable (key : α → Int) (ix : α → Nat)
/-- less, by the keys alone -/
def ltK (x y : α) : Bool := decide (key x < key y)
/-- less, by the keys, then by the places -/
def ltX (x y : α) : Bool := decide (key x < key y ∨ key x = key y ∧ ix x < ix y)
variable {key ix}
theorem ltX_swo : SWO (ltX key ix) where
  irrefl x := by simp [ltX]
  trans x y z h1 h2 := by simp only [ltX, decide_eq_true_eq] at *; omega
  ntrans x y z h1 h2 := by simp only [ltX, decide_eq_false_iff_not] at *; omega
theorem ltX_total (hi : ∀ x y, ix x = ix y → x = y) (x y : α) (h1 : ltX key ix x y = false) (h2 : ltX key ix y x = false) : x = y := by
  simp only [ltX, decide_eq_false_iff_not] at *
  exact hi x y (by omega)
/-- of two, the later one in place is less just if its key is -/
theorem ltX_back {x y : α} (h : ix x < ix y) : ltX key ix y x = ltK key y x := by
  simp only [ltX, ltK]
  congr 1
  apply propext
  omega
theorem ltX_fore {x y : α} (h : ix x < ix y) (hk : ltK key y x = false) : ltX key ix y x = false := by rw [ltX_back h]; exact hk

theorem inner_eq (a : Nat) : ∀ (j : Nat) (d : Array α), (∀ k, a ≤ k → k < j → ix d[k]! < ix d[j]!) → j < d.size → insInner (ltK key) a j d = insInner (ltX key ix) a j d := by
  intro j
  induction j with
  | zero => intro d _ _; rfl
  | succ j ih =>
    intro d h hj
    unfold insInner
    by_cases ha : j + 1 > a
    · have hx := ltX_back (key := key) (h j (by omega) (by omega))
      rw [hx]
      split
      · refine ih (swp d (j + 1) j) (fun k hk hkj => ?_) (by rw [swp_size]; omega)
        rw [swp_get d hj (by omega) k, swp_get d hj (by omega) j, if_neg (by omega), if_neg (by omega), if_pos rfl]
        exact h k hk (by omega)
      · rfl
    · simp [ha]
theorem inner_perm (lt : α → α → Bool) (a b : Nat) : ∀ (j : Nat) (d : Array α), j < b → b ≤ d.size → PermIn a b d (insInner lt a j d) := by
  intro j
  induction j with
  | zero => intro d _ _; exact permIn_refl _ _ _
  | succ j ih =>
    intro d hj hb
    unfold insInner
    split
    · rename_i hc
      simp only [Bool.and_eq_true, decide_eq_true_eq] at hc
      exact permIn_trans _ _ _ _ _ (swp_permIn d a b (j + 1) j (by omega) hj (by omega) (by omega) hb) (ih _ (by omega) (by rw [swp_size]; exact hb))
    · exact permIn_refl _ _ _
theorem outer_eq (a b : Nat) : ∀ (n i : Nat) (d : Array α), b - i ≤ n → a ≤ i → b ≤ d.size → (∀ k j, a ≤ k → k < j → i ≤ j → j < b → ix d[k]! < ix d[j]!) → insOuter (ltK key) a b i d = insOuter (ltX key ix) a b i d := by
  intro n
  induction n with
  | zero =>
    intro i d hn _ _ _
    unfold insOuter
    rw [if_neg (by omega), if_neg (by omega)]
  | succ n ih =>
    intro i d hn ha hb h
    unfold insOuter
    split
    · rename_i hib
      rw [inner_eq a i d (fun k hk hki => h k i hk hki (Nat.le_refl _) hib) (by omega)]
      have hp := inner_perm (ltX key ix) a (i + 1) i d (by omega) (by omega)
      have hp2 := inner_perm (ltX key ix) a b i d (by omega) hb
      refine ih (i + 1) _ (by omega) (by omega) (by rw [hp.1]; exact hb) ?_
      intro k j hk hkj hij hjb
      rw [hp.2.1 j (by omega)]
      by_cases hki : k < i + 1
      · exact permIn_all d _ a (i + 1) (fun x => ix x < ix d[j]!) (by omega) hp (fun i' h1 h2 => h i' j h1 (by omega) (by omega) hjb) k hk hki
      · rw [hp.2.1 k (by omega)]
        exact h k j hk hkj (by omega) hjb
    · rfl
/-- ascending places -/
def Asc (ix : α → Nat) (d : Array α) (a b : Nat) : Prop := ∀ k j, a ≤ k → k < j → j < b → ix d[k]! < ix d[j]!
theorem ins_sorted (a b : Nat) (d : Array α) (hab : a ≤ b) (hb : b ≤ d.size) (h : Asc ix d a b) :
    PermIn a b d (insertionSort (ltK key) d a b) ∧ SortedIn (ltX key ix) a b (insertionSort (ltK key) d a b) := by
  have e : insertionSort (ltK key) d a b = insertionSort (ltX key ix) d a b := outer_eq a b (b - (a + 1)) (a + 1) d (Nat.le_refl _) (by omega) hb (fun k j hk hkj _ hjb => h k j hk hkj hjb)
  rw [e]
  exact insertionSort_holds ltX_swo d a b hab hb
end

/-! ## exchanging two stretches -/
def swpR : Nat → Array α → Nat → Nat → Array α
  | 0, d, _, _ => d
  | n + 1, d, a, b => swpR n (swp d a b) (a + 1) (b + 1)
theorem swpR_size (n : Nat) : ∀ (d : Array α) (a b : Nat), (swpR n d a b).size = d.size := by
  induction n with
  | zero => intro d a b; rfl
  | succ n ih => intro d a b; rw [swpR, ih, swp_size]
theorem swpR_perm (lo hi : Nat) (n : Nat) : ∀ (d : Array α) (a b : Nat), lo ≤ a → lo ≤ b → a + n ≤ hi → b + n ≤ hi → hi ≤ d.size → PermIn lo hi d (swpR n d a b) := by
  induction n with
  | zero => intro d a b _ _ _ _ _; exact permIn_refl _ _ _
  | succ n ih =>
    intro d a b h1 h2 h3 h4 h5
    rw [swpR]
    exact permIn_trans _ _ _ _ _ (swp_permIn d lo hi a b h1 (by omega) h2 (by omega) h5) (ih _ _ _ (by omega) (by omega) (by omega) (by omega) (by rw [swp_size]; exact h5))
theorem swpR_get (n : Nat) : ∀ (d : Array α) (a b : Nat), a + n ≤ b → b + n ≤ d.size → ∀ k,
    (swpR n d a b)[k]! = if a ≤ k ∧ k < a + n then d[k + (b - a)]! else if b ≤ k ∧ k < b + n then d[k - (b - a)]! else d[k]! := by
  induction n with
  | zero =>
    intro d a b _ _ k
    rw [swpR, if_neg (by omega), if_neg (by omega)]
  | succ n ih =>
    intro d a b h1 h2 k
    rw [swpR, ih (swp d a b) (a + 1) (b + 1) (by omega) (by rw [swp_size]; omega) k]
    have g := swp_get d (i := a) (j := b) (by omega) (by omega)
    by_cases c1 : a + 1 ≤ k ∧ k < a + 1 + n
    · rw [if_pos c1, if_pos (by omega), g, if_neg (by omega), if_neg (by omega)]
      congr 1; omega
    · rw [if_neg c1]
      by_cases c2 : b + 1 ≤ k ∧ k < b + 1 + n
      · rw [if_pos c2, if_neg (by omega), if_pos (by omega), g, if_neg (by omega), if_neg (by omega)]
        congr 1; omega
      · rw [if_neg c2, g]
        by_cases e1 : k = b
        · subst e1
          rw [if_pos rfl, if_neg (by omega), if_pos (by omega)]
          congr 1; omega
        · rw [if_neg e1]
          by_cases e2 : k = a
          · subst e2
            rw [if_pos rfl, if_pos (by omega)]
            congr 1; omega
          · rw [if_neg e2, if_neg (by omega), if_neg (by omega)]

/-! ## turning a stretch -/
/-- the stretch [lo, hi), turned at mid -/
def rotF (f : Nat → α) (lo mid hi k : Nat) : α := if lo ≤ k ∧ k < lo + (hi - mid) then f (k + (mid - lo)) else if lo + (hi - mid) ≤ k ∧ k < hi then f (k - (hi - mid)) else f k
def rotA (m : Nat) : Nat → Array α → Nat → Nat → Array α
  | 0, d, _, _ => d
  | n + 1, d, i, j => if i = j then swpR i d (m - i) m else if i > j then rotA m n (swpR j d (m - i) m) (i - j) j else rotA m n (swpR i d (m - i) (m + j - i)) i (j - i)
theorem rotA_size (m n : Nat) : ∀ (d : Array α) (i j : Nat), (rotA m n d i j).size = d.size := by
  induction n with
  | zero => intro d i j; rfl
  | succ n ih =>
    intro d i j
    unfold rotA
    split
    · exact swpR_size _ _ _ _
    · split <;> rw [ih, swpR_size]
theorem rotA_perm (lo hi m n : Nat) : ∀ (d : Array α) (i j : Nat), i ≤ m → lo ≤ m - i → m + j ≤ hi → hi ≤ d.size → PermIn lo hi d (rotA m n d i j) := by
  induction n with
  | zero => intro d i j _ _ _ _; exact permIn_refl _ _ _
  | succ n ih =>
    intro d i j h1 h2 h3 h4
    unfold rotA
    split
    · exact swpR_perm lo hi _ _ _ _ h2 (by omega) (by omega) (by omega) h4
    · split
      · exact permIn_trans _ _ _ _ _ (swpR_perm lo hi _ _ _ _ h2 (by omega) (by omega) (by omega) h4) (ih _ _ _ (by omega) (by omega) h3 (by rw [swpR_size]; exact h4))
      · exact permIn_trans _ _ _ _ _ (swpR_perm lo hi _ _ _ _ h2 (by omega) (by omega) (by omega) h4) (ih _ _ _ h1 h2 (by omega) (by rw [swpR_size]; exact h4))
theorem rotA_get (m n : Nat) : ∀ (d : Array α) (i j : Nat), i + j ≤ n → 0 < i → 0 < j → i ≤ m → m + j ≤ d.size → ∀ k, (rotA m n d i j)[k]! = rotF (fun k => d[k]!) (m - i) m (m + j) k := by
  induction n with
  | zero => intro d i j h1 h2; omega
  | succ n ih =>
    intro d i j h1 h2 h3 h4 h5 k
    unfold rotA
    split
    · rename_i e
      subst e
      rw [swpR_get i d (m - i) m (by omega) h5 k]
      unfold rotF
      repeat' split
      all_goals first | rfl | (exfalso; omega) | (show _ = d[_]!; congr 1; omega)
    · rename_i e
      split
      · rename_i e2
        rw [ih (swpR j d (m - i) m) (i - j) j (by omega) (by omega) h3 (by omega) (by rw [swpR_size]; exact h5) k]
        have g := swpR_get j d (m - i) m (by omega) h5
        simp only [rotF, g]
        repeat' split
        all_goals first | rfl | (exfalso; omega) | (congr 1; omega)
      · rename_i e2
        rw [ih (swpR i d (m - i) (m + j - i)) i (j - i) (by omega) h2 (by omega) h4 (by rw [swpR_size]; omega) k]
        have g := swpR_get i d (m - i) (m + j - i) (by omega) (by omega)
        simp only [rotF, g]
        repeat' split
        all_goals first | rfl | (exfalso; omega) | (congr 1; omega)

/-! ## two sorted stretches, one behind the other -/
section
variable {key : α → Int} {ix : α → Nat}
/-- all places of the first stretch lie ahead of those of the second -/
def Lr (ix : α → Nat) (d : Array α) (a m b : Nat) : Prop := ∀ i j, a ≤ i → i < m → m ≤ j → j < b → ix d[i]! < ix d[j]!
/-- none of the second stretch is less than one of the first -/
def Crs (key : α → Int) (ix : α → Nat) (d : Array α) (a m b : Nat) : Prop := ∀ i j, a ≤ i → i < m → m ≤ j → j < b → ltX key ix d[j]! d[i]! = false
theorem sorted_join {d : Array α} {a m b : Nat} (h1 : SortedIn (ltX key ix) a m d) (h2 : SortedIn (ltX key ix) m b d) (hc : Crs key ix d a m b) : SortedIn (ltX key ix) a b d := by
  intro i j hi hij hj
  by_cases c1 : j < m
  · exact h1 i j hi hij c1
  · by_cases c2 : m ≤ i
    · exact h2 i j c2 hij hj
    · exact hc i j hi (by omega) (by omega) hj
theorem crs_perm {d d' : Array α} {a m b : Nat} (hm : m ≤ b) (hb : b ≤ d.size) (ham : a ≤ m) (h : Crs key ix d a m b) (hp : PermIn a m d d') : Crs key ix d' a m b := by
  intro i j hi him hmj hjb
  rw [hp.2.1 j (by omega)]
  exact permIn_all d d' a m (fun x => ltX key ix d[j]! x = false) (by omega) hp (fun i' h1 h2 => h i' j h1 h2 hmj hjb) i hi him
theorem crs_perm2 {d d' : Array α} {a m b : Nat} (hb : b ≤ d.size) (ham : a ≤ m) (h : Crs key ix d a m b) (hp : PermIn m b d d') : Crs key ix d' a m b := by
  intro i j hi him hmj hjb
  rw [hp.2.1 i (by omega)]
  exact permIn_all d d' m b (fun x => ltX key ix x d[i]! = false) (by omega) hp (fun j' h1 h2 => h i j' hi him h1 h2) j hmj hjb
theorem sorted_perm_out {d d' : Array α} {a b lo hi : Nat} (h : SortedIn (ltX key ix) lo hi d) (hp : PermIn a b d d') (ho : hi ≤ a ∨ b ≤ lo) : SortedIn (ltX key ix) lo hi d' := by
  intro i j h1 h2 h3
  rw [hp.2.1 i (by omega), hp.2.1 j (by omega)]
  exact h i j h1 h2 h3
theorem lr_perm_out {d d' : Array α} {a b lo m hi : Nat} (h : Lr ix d lo m hi) (hp : PermIn a b d d') (ho : hi ≤ a ∨ b ≤ lo) : Lr ix d' lo m hi := by
  intro i j h1 h2 h3 h4
  rw [hp.2.1 i (by omega), hp.2.1 j (by omega)]
  exact h i j h1 h2 h3 h4

/-- the turn in a merge's middle: what holds behind it -/
theorem turned {d d2 : Array α} {a m b s e c : Nat} (has : a ≤ s) (hsm : s ≤ m) (hme : m ≤ e) (heb : e ≤ b) (hc : c = s + (e - m))
    (hS1 : SortedIn (ltX key ix) a m d) (hS2 : SortedIn (ltX key ix) m b d) (hL : Lr ix d a m b)
    (x1 : a < s → e < b → ltK key d[e]! d[s - 1]! = false) (x2 : m < e → s < m → ltK key d[e - 1]! d[s]! = true)
    (hg : ∀ k, d2[k]! = rotF (fun k => d[k]!) s m e k) :
    SortedIn (ltX key ix) a s d2 ∧ SortedIn (ltX key ix) s c d2 ∧ Lr ix d2 a s c ∧ SortedIn (ltX key ix) c e d2 ∧ SortedIn (ltX key ix) e b d2 ∧ Lr ix d2 c e b ∧ Crs key ix d2 a c b := by
  have g1 : ∀ k, k < s → d2[k]! = d[k]! := fun k hk => by rw [hg, rotF, if_neg (by omega), if_neg (by omega)]
  have g2 : ∀ k, s ≤ k → k < c → d2[k]! = d[k + (m - s)]! := fun k h1 h2 => by rw [hg, rotF, if_pos (by omega)]
  have g3 : ∀ k, c ≤ k → k < e → d2[k]! = d[k - (e - m)]! := fun k h1 h2 => by rw [hg, rotF, if_neg (by omega), if_pos (by omega)]
  have g4 : ∀ k, e ≤ k → d2[k]! = d[k]! := fun k hk => by rw [hg, rotF, if_neg (by omega), if_neg (by omega)]
  have swo := ltX_swo (key := key) (ix := ix)
  -- of the first part's head none is passed by the second part's tail
  have y1 : ∀ i j, a ≤ i → i < s → e ≤ j → j < b → ltX key ix d[j]! d[i]! = false := by
    intro i j h1 h2 h3 h4
    have z0 : ltX key ix d[e]! d[s - 1]! = false := ltX_fore (hL (s - 1) e (by omega) (by omega) hme (by omega)) (x1 (by omega) (by omega))
    have z1 : ltX key ix d[e]! d[i]! = false := by
      by_cases c1 : i = s - 1
      · rw [c1]; exact z0
      · exact swo.ntrans _ _ _ z0 (hS1 i (s - 1) h1 (by omega) (by omega))
    by_cases c2 : j = e
    · rw [c2]; exact z1
    · exact swo.ntrans _ _ _ (hS2 e j hme (by omega) h4) z1
  -- the second part's head is ahead of the first part's tail
  have y2 : ∀ i j, m ≤ i → i < e → s ≤ j → j < m → ltX key ix d[j]! d[i]! = false := by
    intro i j h1 h2 h3 h4
    have z : ltX key ix d[e - 1]! d[s]! = true := by
      rw [ltX_back (hL s (e - 1) has (by omega) (by omega) (by omega))]
      exact x2 (by omega) (by omega)
    have z0 : ltX key ix d[s]! d[e - 1]! = false := swo.asymmA z
    have z1 : ltX key ix d[j]! d[e - 1]! = false := by
      by_cases c1 : j = s
      · rw [c1]; exact z0
      · exact swo.ntrans _ _ _ (hS1 s j has (by omega) h4) z0
    by_cases c2 : i = e - 1
    · rw [c2]; exact z1
    · exact swo.ntrans _ _ _ z1 (hS2 i (e - 1) h1 (by omega) (by omega))
  refine ⟨?_, ?_, ?_, ?_, ?_, ?_, ?_⟩
  · intro i j h1 h2 h3
    rw [g1 i (by omega), g1 j h3]
    exact hS1 i j h1 h2 (by omega)
  · intro i j h1 h2 h3
    rw [g2 i h1 (by omega), g2 j (by omega) h3]
    exact hS2 _ _ (by omega) (by omega) (by omega)
  · intro i j h1 h2 h3 h4
    rw [g1 i h2, g2 j h3 h4]
    exact hL _ _ h1 (by omega) (by omega) (by omega)
  · intro i j h1 h2 h3
    rw [g3 i h1 (by omega), g3 j (by omega) h3]
    exact hS1 _ _ (by omega) (by omega) (by omega)
  · intro i j h1 h2 h3
    rw [g4 i h1, g4 j (by omega)]
    exact hS2 i j (by omega) h2 h3
  · intro i j h1 h2 h3 h4
    rw [g3 i h1 h2, g4 j h3]
    exact hL _ _ (by omega) (by omega) (by omega) h4
  · intro i j h1 h2 h3 h4
    by_cases c1 : i < s
    · rw [g1 i c1]
      by_cases c2 : j < e
      · rw [g3 j h3 c2]
        exact hS1 _ _ h1 (by omega) (by omega)
      · rw [g4 j (by omega)]
        exact y1 i j h1 c1 (by omega) h4
    · rw [g2 i (by omega) h2]
      by_cases c2 : j < e
      · rw [g3 j h3 c2]
        exact y2 _ _ (by omega) (by omega) (by omega) (by omega)
      · rw [g4 j (by omega)]
        exact hS2 _ _ (by omega) (by omega) h4
end
end Go.Sort
namespace Go.Sort
variable {α : Type} [Inhabited α]

/-- one element carried up, place by place -/
def shU : Nat → Array α → Nat → Array α
  | 0, d, _ => d
  | n + 1, d, k => shU n (swp d k (k + 1)) (k + 1)
/-- one element carried down -/
def shD : Nat → Array α → Nat → Array α
  | 0, d, _ => d
  | n + 1, d, k => shD n (swp d k (k - 1)) (k - 1)
theorem shU_size (n : Nat) : ∀ (d : Array α) (k : Nat), (shU n d k).size = d.size := by
  induction n with
  | zero => intro d k; rfl
  | succ n ih => intro d k; rw [shU, ih, swp_size]
theorem shD_size (n : Nat) : ∀ (d : Array α) (k : Nat), (shD n d k).size = d.size := by
  induction n with
  | zero => intro d k; rfl
  | succ n ih => intro d k; rw [shD, ih, swp_size]
theorem shU_perm (lo hi : Nat) (n : Nat) : ∀ (d : Array α) (k : Nat), lo ≤ k → k + n < hi → hi ≤ d.size → PermIn lo hi d (shU n d k) := by
  induction n with
  | zero => intro d k _ _ _; exact permIn_refl _ _ _
  | succ n ih =>
    intro d k h1 h2 h3
    rw [shU]
    exact permIn_trans _ _ _ _ _ (swp_permIn d lo hi k (k + 1) h1 (by omega) (by omega) (by omega) h3) (ih _ _ (by omega) (by omega) (by rw [swp_size]; exact h3))
theorem shD_perm (lo hi : Nat) (n : Nat) : ∀ (d : Array α) (k : Nat), lo + n ≤ k → k < hi → hi ≤ d.size → PermIn lo hi d (shD n d k) := by
  induction n with
  | zero => intro d k _ _ _; exact permIn_refl _ _ _
  | succ n ih =>
    intro d k h1 h2 h3
    rw [shD]
    exact permIn_trans _ _ _ _ _ (swp_permIn d lo hi k (k - 1) (by omega) h2 (by omega) (by omega) h3) (ih _ _ (by omega) (by omega) (by rw [swp_size]; exact h3))
theorem shU_get (n : Nat) : ∀ (d : Array α) (k : Nat), k + n < d.size → ∀ x, (shU n d k)[x]! = rotF (fun x => d[x]!) k (k + 1) (k + n + 1) x := by
  induction n with
  | zero =>
    intro d k _ x
    rw [shU]
    unfold rotF
    repeat' split
    all_goals first | rfl | (exfalso; omega) | (show _ = d[_]!; congr 1; omega)
  | succ n ih =>
    intro d k h x
    rw [shU, ih (swp d k (k + 1)) (k + 1) (by rw [swp_size]; omega) x]
    have g := swp_get d (i := k) (j := k + 1) (by omega) (by omega)
    simp only [rotF, g]
    repeat' split
    all_goals first | rfl | (exfalso; omega) | (congr 1; omega)
theorem shD_get (n : Nat) : ∀ (d : Array α) (k : Nat), n ≤ k → k < d.size → ∀ x, (shD n d k)[x]! = rotF (fun x => d[x]!) (k - n) k (k + 1) x := by
  induction n with
  | zero =>
    intro d k _ _ x
    rw [shD]
    unfold rotF
    repeat' split
    all_goals first | rfl | (exfalso; omega) | (show _ = d[_]!; congr 1; omega)
  | succ n ih =>
    intro d k h h2 x
    rw [shD, ih (swp d k (k - 1)) (k - 1) (by omega) (by rw [swp_size]; omega) x]
    have g := swp_get d (i := k) (j := k - 1) (by omega) (by omega)
    simp only [rotF, g]
    repeat' split
    all_goals first | rfl | (exfalso; omega) | (congr 1; omega)

section
variable {key : α → Int} {ix : α → Nat}
theorem one_left {d d2 : Array α} {a b i : Nat} (hai : a + 1 ≤ i) (hib : i ≤ b)
    (hS2 : SortedIn (ltX key ix) (a + 1) b d) (hL : Lr ix d a (a + 1) b)
    (x1 : i < b → ltK key d[i]! d[a]! = false) (x2 : a + 1 < i → ltK key d[i - 1]! d[a]! = true)
    (hg : ∀ k, d2[k]! = rotF (fun k => d[k]!) a (a + 1) i k) : SortedIn (ltX key ix) a b d2 := by
  have swo := ltX_swo (key := key) (ix := ix)
  obtain ⟨_, t2, _, t4, t5, _, t7⟩ := turned (c := a + (i - (a + 1))) (Nat.le_refl a) (by omega) hai hib rfl (fun p q h1 h2 h3 => by omega) hS2 hL (fun h => by omega) (fun h1 h2 => x2 h1) hg
  refine sorted_join t2 (sorted_join t4 t5 ?_) t7
  intro p q h1 h2 h3 h4
  have e1 : d2[p]! = d[a]! := by
    rw [hg, rotF, if_neg (by omega), if_pos (by omega)]
    congr 1; omega
  have e2 : d2[q]! = d[q]! := by rw [hg, rotF, if_neg (by omega), if_neg (by omega)]
  rw [e1, e2]
  have z : ltX key ix d[i]! d[a]! = false := ltX_fore (hL a i (Nat.le_refl _) (by omega) hai (by omega)) (x1 (by omega))
  by_cases c : q = i
  · rw [c]; exact z
  · exact swo.ntrans _ _ _ (hS2 i q hai (by omega) h4) z
theorem one_right {d d2 : Array α} {a m i : Nat} (hai : a ≤ i) (him : i ≤ m)
    (hS1 : SortedIn (ltX key ix) a m d) (hL : Lr ix d a m (m + 1))
    (x1 : a < i → ltK key d[m]! d[i - 1]! = false) (x2 : i < m → ltK key d[m]! d[i]! = true)
    (hg : ∀ k, d2[k]! = rotF (fun k => d[k]!) i m (m + 1) k) : SortedIn (ltX key ix) a (m + 1) d2 := by
  have swo := ltX_swo (key := key) (ix := ix)
  obtain ⟨t1, t2, _, t4, _, _, t7⟩ := turned (c := i + 1) (b := m + 1) hai him (Nat.le_succ m) (Nat.le_refl _) (by omega) hS1 (fun p q h1 h2 h3 => by omega) hL (fun h1 h2 => by omega) (fun h1 h2 => by simpa using x2 h2) hg
  refine sorted_join (sorted_join t1 t2 ?_) t4 t7
  intro p q h1 h2 h3 h4
  have e1 : d2[q]! = d[m]! := by
    rw [hg, rotF, if_pos (by omega)]
    congr 1; omega
  have e2 : d2[p]! = d[p]! := by rw [hg, rotF, if_neg (by omega), if_neg (by omega)]
  rw [e1, e2]
  have z : ltX key ix d[m]! d[i - 1]! = false := ltX_fore (hL (i - 1) m (by omega) (by omega) (Nat.le_refl _) (by omega)) (x1 (by omega))
  by_cases c : p = i - 1
  · rw [c]; exact z
  · exact swo.ntrans _ _ _ z (hS1 p (i - 1) h1 (by omega) (by omega))
/-- the turn, and both halves merged -/
theorem merged {d d2 d3 d4 : Array α} {a m b s e c : Nat} (has : a ≤ s) (hsm : s ≤ m) (hme : m ≤ e) (heb : e ≤ b) (hc : c = s + (e - m)) (hb : b ≤ d.size)
    (ht : Crs key ix d2 a c b) (hp2 : PermIn a b d d2) (hp3 : PermIn a c d2 d3) (hs3 : SortedIn (ltX key ix) a c d3) (hp4 : PermIn c b d3 d4) (hs4 : SortedIn (ltX key ix) c b d4) :
    SortedIn (ltX key ix) a b d4 ∧ PermIn a b d d4 := by
  have z2 := hp2.1
  have z3 := hp3.1
  have k3 : Crs key ix d3 a c b := crs_perm (by omega) (by omega) (by omega) ht hp3
  have k4 : Crs key ix d4 a c b := crs_perm2 (by omega) (by omega) k3 hp4
  refine ⟨sorted_join (sorted_perm_out hs3 hp4 (Or.inl (Nat.le_refl _))) hs4 k4, ?_⟩
  exact permIn_trans _ _ _ _ _ hp2 (permIn_trans _ _ _ _ _ (permIn_mono _ _ _ _ _ _ (Nat.le_refl _) (by omega) (by omega) hp3) (permIn_mono _ _ _ _ _ _ (by omega) (Nat.le_refl _) (by omega) hp4))
end
end Go.Sort
namespace Go.Sort
variable {α : Type} [Inhabited α] {key : α → Int} {ix : α → Nat}

/-- at each border of a block the places ahead of it are ahead of those behind it -/
def Rank (ix : α → Nat) (s n : Nat) (d : Array α) : Prop := ∀ t, s ∣ t → t ≤ n → Lr ix d 0 t n
theorem lr_perm_in {d d' : Array α} {lo hi t n : Nat} (ht : t ≤ n) (hn : n ≤ d.size) (hh : hi ≤ n) (hlo : lo ≤ hi) (h : Lr ix d 0 t n) (hp : PermIn lo hi d d') (ho : t ≤ lo ∨ hi ≤ t) : Lr ix d' 0 t n := by
  intro i j h1 h2 h3 h4
  rcases ho with ho | ho
  · rw [hp.2.1 i (by omega)]
    by_cases c : lo ≤ j ∧ j < hi
    · exact permIn_all d d' lo hi (fun x => ix d[i]! < ix x) (by omega) hp (fun j' a b => h i j' h1 h2 (by omega) (by omega)) j c.1 c.2
    · rw [hp.2.1 j (by omega)]
      exact h i j h1 h2 h3 h4
  · rw [hp.2.1 j (by omega)]
    by_cases c : lo ≤ i ∧ i < hi
    · exact permIn_all d d' lo hi (fun x => ix x < ix d[j]!) (by omega) hp (fun i' a b => h i' j (by omega) (by omega) h3 h4) i c.1 c.2
    · rw [hp.2.1 i (by omega)]
      exact h i j h1 h2 h3 h4
theorem rank_perm {d d' : Array α} {s n lo hi : Nat} (hn : n ≤ d.size) (hh : hi ≤ n) (hlo : lo ≤ hi) (h : Rank ix s n d) (hp : PermIn lo hi d d') (hb : ∀ t, s ∣ t → t ≤ n → t ≤ lo ∨ hi ≤ t) : Rank ix s n d' :=
  fun t h1 h2 => lr_perm_in h2 hn hh hlo (h t h1 h2) hp (hb t h1 h2)
theorem asc_rank {d : Array α} {s n : Nat} (h : Asc ix d 0 n) : Rank ix s n d := fun t _ _ i j h1 h2 h3 h4 => h i j h1 (by omega) h4
theorem lr_part {d : Array α} {n a m b : Nat} (h : Lr ix d 0 m n) (hb : b ≤ n) : Lr ix d a m b := fun i j _ h2 h3 h4 => h i j (Nat.zero_le _) h2 h3 (by omega)

/-- a border of blocks lies not within a block -/
theorem border {s a t : Nat} (hs : 0 < s) (ha : s ∣ a) (ht : s ∣ t) : t ≤ a ∨ a + s ≤ t := by
  obtain ⟨p, rfl⟩ := ha
  obtain ⟨q, rfl⟩ := ht
  rcases Nat.lt_or_ge p q with h | h
  · right
    have := Nat.mul_le_mul_left s h
    rw [Nat.mul_succ] at this
    exact this
  · left
    exact Nat.mul_le_mul_left s h

/-- the first loop's state: blocks ahead of a are sorted, what lies behind is as it was -/
structure Ph1 (key : α → Int) (ix : α → Nat) (s n a : Nat) (d : Array α) : Prop where
  ha : s ∣ a
  done : ∀ t, s ∣ t → t + s ≤ a → SortedIn (ltX key ix) t (t + s) d
  left : Asc ix d a n
  rank : Rank ix s n d
theorem Ph1.start {s n : Nat} {d : Array α} (h : Asc ix d 0 n) : Ph1 key ix s n 0 d :=
  ⟨Nat.dvd_zero s, fun t h1 h2 => fun i j h3 h4 h5 => by omega, h, asc_rank h⟩
theorem Ph1.step {s n a : Nat} {d : Array α} (hs : 0 < s) (hn : n ≤ d.size) (h : Ph1 key ix s n a d) (hb : a + s ≤ n) : Ph1 key ix s n (a + s) (insertionSort (ltK key) d a (a + s)) := by
  obtain ⟨p, q⟩ := ins_sorted (key := key) a (a + s) d (by omega) (by omega) (fun k j h1 h2 h3 => h.left k j h1 h2 (by omega))
  refine ⟨Nat.dvd_add h.ha (Nat.dvd_refl s), ?_, ?_, ?_⟩
  · intro t h1 h2
    rcases border hs h.ha h1 with c | c
    · by_cases e : t = a
      · rw [e]; exact q
      · have : t + s ≤ a := by
          rcases border hs h1 h.ha with c2 | c2
          · omega
          · exact c2
        exact sorted_perm_out (h.done t h1 this) p (Or.inl this)
    · omega
  · intro k j h1 h2 h3
    rw [p.2.1 k (by omega), p.2.1 j (by omega)]
    exact h.left k j (by omega) h2 h3
  · exact rank_perm hn (by omega) (by omega) h.rank p (fun t h1 _ => border hs h.ha h1)
/-- all blocks sorted -/
structure Blk (key : α → Int) (ix : α → Nat) (s n : Nat) (d : Array α) : Prop where
  sorted : ∀ t, s ∣ t → t < n → SortedIn (ltX key ix) t (min (t + s) n) d
  rank : Rank ix s n d
theorem Ph1.last {s n a : Nat} {d : Array α} (hs : 0 < s) (hn : n ≤ d.size) (h : Ph1 key ix s n a d) (han : a ≤ n) (hb : n < a + s) : Blk key ix s n (insertionSort (ltK key) d a n) := by
  obtain ⟨p, q⟩ := ins_sorted (key := key) a n d han hn h.left
  refine ⟨?_, ?_⟩
  · intro t h1 h2
    rcases border hs h.ha h1 with c | c
    · by_cases e : t = a
      · rw [e, Nat.min_eq_right (by omega)]; exact q
      · have : t + s ≤ a := by
          rcases border hs h1 h.ha with c2 | c2
          · omega
          · exact c2
        rw [Nat.min_eq_left (by omega)]
        exact sorted_perm_out (h.done t h1 this) p (Or.inl this)
    · omega
  · exact rank_perm hn (Nat.le_refl _) han h.rank p (fun t h1 h2 => by
      rcases border hs h.ha h1 with c | c
      · exact Or.inl c
      · omega)
theorem Ph1.perm {n a : Nat} {d : Array α} (hn : n ≤ d.size) (h : Asc ix d a n) {b : Nat} (hab : a ≤ b) (hb : b ≤ n) : PermIn 0 n d (insertionSort (ltK key) d a b) :=
  permIn_mono _ _ _ _ _ _ (Nat.zero_le _) hb hn (ins_sorted (key := key) a b d hab (by omega) (fun k j h1 h2 h3 => h k j h1 h2 (by omega))).1

/-- the second loop's state: double blocks ahead of a are sorted, the single ones from a on -/
structure Ph2 (key : α → Int) (ix : α → Nat) (s n a : Nat) (d : Array α) : Prop where
  ha : 2 * s ∣ a
  done : ∀ t, 2 * s ∣ t → t + 2 * s ≤ a → SortedIn (ltX key ix) t (t + 2 * s) d
  left : ∀ t, s ∣ t → a ≤ t → t < n → SortedIn (ltX key ix) t (min (t + s) n) d
  rank1 : ∀ t, s ∣ t → a ≤ t → t ≤ n → Lr ix d 0 t n
  rank2 : Rank ix (2 * s) n d
theorem Ph2.start {s n : Nat} {d : Array α} (hs : 0 < s) (h : Blk key ix s n d) : Ph2 key ix s n 0 d :=
  ⟨Nat.dvd_zero _, fun t h1 h2 => fun i j h3 h4 h5 => by omega, fun t h1 _ h2 => h.sorted t h1 h2, fun t h1 _ h2 => h.rank t h1 h2, fun t h1 h2 => h.rank t (Nat.dvd_trans (Nat.dvd_mul_left s 2) h1) h2⟩
theorem Ph2.one {s n a : Nat} {d : Array α} (h : Ph2 key ix s n a d) : s ∣ a := Nat.dvd_trans (Nat.dvd_mul_left s 2) h.ha
/-- what symMerge asks of a whole pair -/
theorem Ph2.pre {s n a : Nat} {d : Array α} (hs : 0 < s) (h : Ph2 key ix s n a d) (hb : a + 2 * s ≤ n) :
    SortedIn (ltX key ix) a (a + s) d ∧ SortedIn (ltX key ix) (a + s) (a + 2 * s) d ∧ Lr ix d a (a + s) (a + 2 * s) := by
  have e1 := h.left a h.one (Nat.le_refl _) (by omega)
  have e2 := h.left (a + s) (Nat.dvd_add h.one (Nat.dvd_refl s)) (by omega) (by omega)
  rw [Nat.min_eq_left (by omega)] at e1 e2
  rw [show a + s + s = a + 2 * s by omega] at e2
  exact ⟨e1, e2, lr_part (h.rank1 (a + s) (Nat.dvd_add h.one (Nat.dvd_refl s)) (by omega) (by omega)) hb⟩
theorem Ph2.step {s n a : Nat} {d d' : Array α} (hs : 0 < s) (hn : n ≤ d.size) (h : Ph2 key ix s n a d) (hb : a + 2 * s ≤ n) (p : PermIn a (a + 2 * s) d d') (q : SortedIn (ltX key ix) a (a + 2 * s) d') : Ph2 key ix s n (a + 2 * s) d' := by
  refine ⟨Nat.dvd_add h.ha (Nat.dvd_refl _), ?_, ?_, ?_, ?_⟩
  · intro t h1 h2
    by_cases e : t = a
    · rw [e]; exact q
    · have : t + 2 * s ≤ a := by
        rcases border (s := 2 * s) (by omega) h1 h.ha with c | c
        · rcases border (s := 2 * s) (by omega) h.ha h1 with c2 | c2 <;> omega
        · exact c
      exact sorted_perm_out (h.done t h1 this) p (Or.inl this)
  · intro t h1 h2 h3
    exact sorted_perm_out (h.left t h1 (by omega) h3) p (Or.inr h2)
  · intro t h1 h2 h3
    exact lr_perm_in h3 hn hb (by omega) (h.rank1 t h1 (by omega) h3) p (Or.inr h2)
  · exact rank_perm hn hb (by omega) h.rank2 p (fun t h1 _ => border (by omega) h.ha h1)
/-- the pair at the end, the second half of which may be short -/
theorem Ph2.pre_last {s n a : Nat} {d : Array α} (hs : 0 < s) (h : Ph2 key ix s n a d) (hm : a + s < n) (hb : n < a + 2 * s) :
    SortedIn (ltX key ix) a (a + s) d ∧ SortedIn (ltX key ix) (a + s) n d ∧ Lr ix d a (a + s) n := by
  have e1 := h.left a h.one (Nat.le_refl _) (by omega)
  have e2 := h.left (a + s) (Nat.dvd_add h.one (Nat.dvd_refl s)) (by omega) hm
  rw [Nat.min_eq_left (by omega)] at e1
  rw [Nat.min_eq_right (by omega)] at e2
  exact ⟨e1, e2, lr_part (h.rank1 (a + s) (Nat.dvd_add h.one (Nat.dvd_refl s)) (by omega) (by omega)) (Nat.le_refl _)⟩
theorem Ph2.last {s n a : Nat} {d d' : Array α} (hs : 0 < s) (hn : n ≤ d.size) (h : Ph2 key ix s n a d) (han : a ≤ n) (hb : n < a + 2 * s) (p : PermIn a n d d') (q : SortedIn (ltX key ix) a n d') : Blk key ix (2 * s) n d' := by
  refine ⟨?_, rank_perm hn (Nat.le_refl _) han h.rank2 p (fun t h1 h2 => ?_)⟩
  · intro t h1 h2
    rcases border (s := 2 * s) (by omega) h.ha h1 with c | c
    · by_cases e : t = a
      · rw [e, Nat.min_eq_right (by omega)]; exact q
      · have : t + 2 * s ≤ a := by
          rcases border (s := 2 * s) (by omega) h1 h.ha with c2 | c2
          · omega
          · exact c2
        rw [Nat.min_eq_left (by omega)]
        exact sorted_perm_out (h.done t h1 this) p (Or.inl this)
    · omega
  · rcases border (s := 2 * s) (by omega) h.ha h1 with c | c
    · exact Or.inl c
    · omega
theorem Ph2.tail {s n a : Nat} {d : Array α} (hs : 0 < s) (h : Ph2 key ix s n a d) (han : a ≤ n) (hm : ¬ a + s < n) : SortedIn (ltX key ix) a n d := by
  by_cases c : a < n
  · have e := h.left a h.one (Nat.le_refl _) c
    rw [Nat.min_eq_right (by omega)] at e
    exact e
  · intro i j h1 h2 h3
    omega
theorem Blk.whole {s n : Nat} {d : Array α} (h : Blk key ix s n d) (hs : ¬ s < n) : SortedIn (ltX key ix) 0 n d := by
  by_cases c : 0 < n
  · have e := h.sorted 0 (Nat.dvd_zero s) c
    rw [Nat.zero_add, Nat.min_eq_right (by omega)] at e
    exact e
  · intro i j h1 h2 h3
    omega
end Go.Sort
/-
  DERIVED: THE SHELF's CONTRACTS AT THIS DUMP, IN PLAIN WORDS (tools/lay-plain.mjs out of 'YtcibmhncdgoemaaGreatDoorLoShelf.lean', which tools/lay-shelf.mjs wrote): THE SAME DECLARATIONS UNDER THE SAME NAMES: 'import', 'namespace', 'open', 'def', 'theorem' AND NOTHING ELSE: no command of the shelf's: FOR A HAND-IN. Each laying: the table of numbers ('.._ren') and one theorem, a field a fact of the dump's own or the kernel's comparison; each contract: ONE APPLICATION.
-/
namespace Go.Proofs
open Go.Shelf
def Tryz.growB_ren : Go.Shelf.Ren := ⟨fun | 4 => 106 | n => n, fun | 22 => 49 | 25 => 5 | 3 => 3 | 4 => 4 | 9 => 9 | 20 => 20 | 0 => 0 | n => n, fun | n => n⟩
theorem Tryz.growB : Go.Proofs.Lays8.n4 Tryz.prog Tryz.growB_ren := {
  mixed := by kernel_rfl
  f4 := ⟨Tryz.f106.name, by decide, Tryz.func106.trans (congrArg some (by kernel_rfl))⟩
  t0 := Tryz.underlying0
  a0 := Tryz.isAgg0
  z0 := Tryz.sizeOf0
  v0 := Tryz.zeroValue0
  t3 := Tryz.underlying3
  a3 := Tryz.isAgg3
  z3 := Tryz.sizeOf3
  v3 := Tryz.zeroValue3
  t4 := Tryz.underlying4
  a4 := Tryz.isAgg4
  z4 := Tryz.sizeOf4
  v4 := Tryz.zeroValue4
  t9 := Tryz.underlying9
  a9 := Tryz.isAgg9
  z9 := Tryz.sizeOf9
  v9 := Tryz.zeroValue9
  t20 := Tryz.underlying20
  a20 := Tryz.isAgg20
  z20 := Tryz.sizeOf20
  v20 := Tryz.zeroValue20
  t22 := Tryz.underlying49
  a22 := Tryz.isAgg49
  z22 := Tryz.sizeOf49
  v22 := Tryz.zeroValue49 }
end Go.Proofs
namespace Go.Proofs.YtcibmhncdgoemaaGreatDoor
open Go Go.Shelf Go.RowKit Go.Lib Go.Sort
variable {α : Type} [Inhabited α]

set_option maxHeartbeats 4000000 in
set_option maxRecDepth 1000000 in
theorem swapRange_s (enc : α → Value) (fv : Value) (blk off cap a b n : Nat) (d0 d : Array α) (w0 w : World) (R : Row1 enc w0 blk off d0) (hs : d0.size = d.size) (S : SW enc w0 blk off d w)
    (ha : a + n ≤ d.size) (hb : b + n ≤ d.size) (hsz : d.size < 4611686018427387904) :
    Calls Tryz.prog 186 #[.slice (some ⟨blk, off, none⟩) d.size cap, .int .i64 a, .int .i64 b, .int .i64 n, fv] w fun e w' => e = .returned (.tuple #[]) ∧ SW enc w0 blk off (swpR n d a b) w' := by
  have mixed : Tryz.prog.follows .mixedOrders = true := by kernel_rfl
  have hcl0 := R.hO.cells
  simp only [Value.cells] at hcl0
  have hst := R.hO.store Tryz.prog
  have S0 : Aside (SW enc w0 blk off d w) := S
  clear S
  go_enter Tryz.func186, Tryz.ntmps186
  go_wp2
  go_loopg [10] n (fun g1 vi wr => ∃ (i : Nat) (dk : Array α), vi = .int .i64 i ∧ i ≤ n ∧ n - i ≤ g1 ∧ dk.size = d.size ∧ Aside (SW enc w0 blk off dk wr) ∧ Hid (swpR (n - i) dk (a + i) (b + i) = swpR n d a b))
  case atStart => exact ⟨0, d, by go_num, Nat.zero_le _, by omega, rfl, S0, rfl⟩
  case round =>
    clear S0
    obtain ⟨i, dk, rfl, hin, hg1, hsk, S2, HO⟩ := hrel
    by_cases hlt : i < n
    · have hltz : (i : Int) < (n : Int) := by omega
      obtain ⟨iN, hiN⟩ : ∃ q, q = a + i := ⟨_, rfl⟩
      obtain ⟨jN, hjN⟩ : ∃ q, q = b + i := ⟨_, rfl⟩
      have ea : ((a : Int) + (i : Int)).toNat = iN := by omega
      have pa : (0 : Int) ≤ (a : Int) + (i : Int) := by omega
      have ba : (a : Int) + (i : Int) < (d.size : Int) := by omega
      have ra : IntKind.i64.wrap ((a : Int) + (i : Int)) = (a : Int) + (i : Int) := by rw [IntKind.wrap_i64]; omega
      have ec : ((b : Int) + (i : Int)).toNat = jN := by omega
      have pc : (0 : Int) ≤ (b : Int) + (i : Int) := by omega
      have bc : (b : Int) + (i : Int) < (d.size : Int) := by omega
      have rc : IntKind.i64.wrap ((b : Int) + (i : Int)) = (b : Int) + (i : Int) := by rw [IntKind.wrap_i64]; omega
      obtain ⟨x, hx⟩ : ∃ x, x = dk[a + i]! := ⟨_, rfl⟩
      obtain ⟨y, hy⟩ : ∃ x, x = dk[b + i]! := ⟨_, rfl⟩
      have S3 : Aside (SW enc w0 blk off (swp dk (a + i) (b + i)) ((wr.setCell ⟨blk, off + iN, none⟩ (enc y)).setCell ⟨blk, off + jN, none⟩ (enc x)).drew) := by rw [hiN, hjN, hx, hy]; exact S2.out.swapped R (a + i) (b + i) (by omega) (by omega)
      have c1 := S2.out.c1 R (by omega) (a + i) (by omega)
      have c2 := S2.out.c1 R (by omega) (b + i) (by omega)
      have f1 := S2.out.f1 R (by omega) (a + i) (by omega)
      have f2 := S2.out.f1 R (by omega) (b + i) (by omega)
      obtain ⟨u, c3⟩ := S2.out.c2 R (by omega) (a + i) (b + i) (by omega) (by omega) (enc y)
      rw [← hjN, ← hiN] at c3
      rw [← hx, ← hiN] at c1
      rw [← hy, ← hjN] at c2
      rw [← hiN] at f1
      rw [← hjN] at f2
      clear S2 hx hy hiN hjN
      go_wp2_with fail
      go_big_region_o
      clear c1 c2 c3 f1 f2
      generalize ((wr.setCell ⟨blk, off + iN, none⟩ (enc y)).setCell ⟨blk, off + jN, none⟩ (enc x)).drew = w3 at S3 ⊢
      clear ea ec
      go_wp2
      go_roundg (n - (i + 1))
      case measure => omega
      case rel => exact ⟨i + 1, swp dk (a + i) (b + i), by go_num, by omega, Nat.le_refl _, by rw [size_swp]; exact hsk, S3, (show Hid _ from by
        have e := HO.out
        rw [show n - i = (n - (i + 1)) + 1 by omega] at e
        exact e)⟩
    · have hltz : ¬ (i : Int) < (n : Int) := by omega
      go_wp2
      go_end0
      refine ⟨rfl, ?_⟩
      have e := HO.out
      rw [show n - i = 0 by omega] at e
      rw [← e]
      exact S2.out
end Go.Proofs.YtcibmhncdgoemaaGreatDoor
namespace Go.Proofs.YtcibmhncdgoemaaGreatDoor
open Go Go.Shelf Go.RowKit Go.Lib Go.Sort
variable {α : Type} [Inhabited α]

theorem swapRange_z (enc : α → Value) (fv : Value) (blk off cap a b n : Nat) (d0 d : Array α) (w0 w : World) (R : Row1 enc w0 blk off d0) (hs : d0.size = d.size) (S : SW enc w0 blk off d w)
    (ha : a + n ≤ d.size) (hb : b + n ≤ d.size) (hsz : d.size < 4611686018427387904) (za zb zn : Int) (ea : za = a) (eb : zb = b) (en : zn = n) (N : Nat) (eN : N = d.size) :
    Calls Tryz.prog 186 #[.slice (some ⟨blk, off, none⟩) N cap, .int .i64 za, .int .i64 zb, .int .i64 zn, fv] w fun e w' => e = .returned (.tuple #[]) ∧ SW enc w0 blk off (swpR n d a b) w' := by
  subst ea eb en eN
  exact swapRange_s enc fv blk off cap a b n d0 d w0 w R hs S ha hb hsz

set_option maxHeartbeats 4000000 in
set_option maxRecDepth 1000000 in
theorem rotate_s (enc : α → Value) (fv : Value) (blk off cap a m b : Nat) (d0 d : Array α) (w0 w : World) (R : Row1 enc w0 blk off d0) (hs : d0.size = d.size) (S : SW enc w0 blk off d w)
    (ham : a < m) (hmb : m < b) (hb : b ≤ d.size) (hsz : d.size < 4611686018427387904) :
    Calls Tryz.prog 107 #[.slice (some ⟨blk, off, none⟩) d.size cap, .int .i64 a, .int .i64 m, .int .i64 b, fv] w fun e w' => e = .returned (.tuple #[]) ∧ SW enc w0 blk off (rotA m (b - a) d (m - a) (b - m)) w' := by
  have S0 : Aside (SW enc w0 blk off d w) := S
  clear S
  go_enter Tryz.func107, Tryz.ntmps107
  go_wp2
  go_loopg [10, 11] (b - a) (fun g1 vi vj wr => ∃ (i j f : Nat) (dk : Array α), vi = .int .i64 i ∧ vj = .int .i64 j ∧ 0 < i ∧ 0 < j ∧ i + j ≤ f ∧ i + j ≤ g1 ∧ i ≤ m - a ∧ m + j ≤ b ∧ dk.size = d.size ∧ Aside (SW enc w0 blk off dk wr) ∧ Hid (rotA m f dk i j = rotA m (b - a) d (m - a) (b - m)))
  case atStart => exact ⟨m - a, b - m, b - a, d, by congr 1; omega, by congr 1; omega, by omega, by omega, by omega, by omega, by omega, by omega, rfl, S0, rfl⟩
  case round =>
    clear S0
    obtain ⟨i, j, f, dk, rfl, rfl, hi, hj, hf, hg, hia, hjb, hsk, S2, HO⟩ := hrel
    by_cases hij : i = j
    · subst hij
      go_wp2_with (go_at_call 186; refine (swapRange_z enc _ blk off cap (m - i) m i d0 dk w0 wr R (by omega) S2.out (by omega) (by omega) (by omega) _ _ _ (by omega) (by omega) (by omega) _ (by omega)).mono ?_; rintro e w2 ⟨rfl, S3⟩)
      go_end0
      refine ⟨rfl, ?_⟩
      have e := HO.out
      obtain ⟨f, rfl⟩ : ∃ f', f = f' + 1 := ⟨f - 1, by omega⟩
      rw [rotA, if_pos rfl] at e
      rw [← e]
      exact S3
    · have hne : ((i : Int) == (j : Int)) = false := by simpa using (show ¬ (i : Int) = (j : Int) by omega)
      have hnz : ¬ (i : Int) = (j : Int) := by omega
      obtain ⟨f, rfl⟩ : ∃ f', f = f' + 1 := ⟨f - 1, by omega⟩
      by_cases hlt : j < i
      · have hltz : (j : Int) < (i : Int) := by omega
        have HN : Hid (rotA m f (swpR j dk (m - i) m) (i - j) j = rotA m (b - a) d (m - a) (b - m)) := Lib.hid (by
          have e := HO.out
          rw [rotA, if_neg hij, if_pos hlt] at e
          exact e)
        clear HO
        go_wp2_with (go_at_call 186; refine (swapRange_z enc _ blk off cap (m - i) m j d0 dk w0 wr R (by omega) S2.out (by omega) (by omega) (by omega) _ _ _ (by omega) (by omega) (by omega) _ (by omega)).mono ?_; rintro e w2 ⟨rfl, S3⟩)
        go_roundg (i - j + j)
        case measure => omega
        case rel => exact ⟨i - j, j, f, _, by congr 1; omega, rfl, by omega, hj, by omega, Nat.le_refl _, by omega, hjb, by rw [swpR_size]; exact hsk, S3, HN⟩
      · have hltz : ¬ (j : Int) < (i : Int) := by omega
        have HN : Hid (rotA m f (swpR i dk (m - i) (m + j - i)) i (j - i) = rotA m (b - a) d (m - a) (b - m)) := Lib.hid (by
          have e := HO.out
          rw [rotA, if_neg hij, if_neg hlt] at e
          exact e)
        clear HO
        go_wp2_with (go_at_call 186; refine (swapRange_z enc _ blk off cap (m - i) (m + j - i) i d0 dk w0 wr R (by omega) S2.out (by omega) (by omega) (by omega) _ _ _ (by omega) (by omega) (by omega) _ (by omega)).mono ?_; rintro e w2 ⟨rfl, S3⟩)
        go_roundg (i + (j - i))
        case measure => omega
        case rel => exact ⟨i, j - i, f, _, rfl, by congr 1; omega, hi, by omega, by omega, Nat.le_refl _, hia, by omega, by rw [swpR_size]; exact hsk, S3, HN⟩
end Go.Proofs.YtcibmhncdgoemaaGreatDoor
namespace Go.Proofs.YtcibmhncdgoemaaGreatDoor
open Go Go.Shelf Go.RowKit Go.Lib Go.Sort
variable {α : Type} [Inhabited α]

/-- what is asked of cmp: the method byEnd, bound to a history; it may lay blocks -/
def CmpB (hv : Value) (enc : α → Value) (cf : α → α → Int) (blk off size : Nat) (w : World) : Prop :=
  ∀ (m : Nat) (os : Array Obj) (dk : Array α), dk.size = size → ∀ x y : α,
    Calls Tryz.prog 24 #[hv, enc x, enc y] (sortWorld enc w blk off m dk os) fun e w' => e = .returned (.int .i64 (cf x y)) ∧ ∃ q os', w' = grow ((sortWorld enc w blk off m dk os).drewN q) os'
theorem cmpB {hv : Value} {enc : α → Value} {cf : α → α → Int} {blk off size : Nat} {w0 W : World} {dk : Array α} (h : SW enc w0 blk off dk W) (hC : CmpB hv enc cf blk off size w0) (hs : dk.size = size) (x y : α) (n : Nat) (os : Array Obj) :
    Calls Tryz.prog 24 #[hv, enc x, enc y] (grow (W.drewN n) os) fun e w' => e = .returned (.int .i64 (cf x y)) ∧ ∃ q os', w' = grow ((grow (W.drewN n) os).drewN q) os' := by
  obtain ⟨m, os0, hw⟩ := h.grown n os
  rw [hw]
  exact hC m os0 dk hs x y
/-- the method, bound -/
def fvOf (hv : Value) : Value := .func (.func 24) #[hv] #[]

set_option maxHeartbeats 8000000 in
set_option maxRecDepth 1000000 in
theorem sym_one (enc : α → Value) (cf : α → α → Int) (key : α → Int) (ix : α → Nat) (hK : ∀ x y, decide (cf x y < 0) = ltK key x y) (hv : Value) (blk off cap a b : Nat) (d0 d : Array α) (w0 w : World)
    (hcmp : CmpB hv enc cf blk off d0.size w0) (R : Row1 enc w0 blk off d0) (hs : d0.size = d.size) (S : SW enc w0 blk off d w) (hab : a + 1 < b) (hb : b ≤ d.size) (hsz : d.size < 2305843009213693952)
    (hS2 : SortedIn (ltX key ix) (a + 1) b d) (hL : Lr ix d a (a + 1) b) :
    Calls Tryz.prog 66 #[.slice (some ⟨blk, off, none⟩) d.size cap, .int .i64 a, .int .i64 (a + 1 : Int), .int .i64 b, .func (.func 24) #[hv] #[]] w fun e w' => e = .returned (.tuple #[]) ∧ ∃ d', PermIn a b d d' ∧ SortedIn (ltX key ix) a b d' ∧ SW enc w0 blk off d' w' := by
  have mixed : Tryz.prog.follows .mixedOrders = true := by kernel_rfl
  have hcl0 := R.hO.cells
  simp only [Value.cells] at hcl0
  have hst := R.hO.store Tryz.prog
  have HC : Aside _ := hcmp
  have S0 : Aside (SW enc w0 blk off d w) := S
  have HS2 : Aside _ := hS2
  have HL : Aside _ := hL
  have HK : Aside _ := hK
  clear S hcmp hS2 hL hK
  have t1 : (((a : Int) + 1 - (a : Int)) == 1) = true := by rw [beq_iff_eq]; omega
  go_enter Tryz.func66, Tryz.ntmps66
  go_wp2_with fail
  go_loopg [10, 11] (b - (a + 1)) (fun g1 vi vj wr => ∃ (i j : Nat), vi = .int .i64 i ∧ vj = .int .i64 j ∧ a + 1 ≤ i ∧ i ≤ j ∧ j ≤ b ∧ j - i ≤ g1 ∧ Aside (SW enc w0 blk off d wr) ∧ Hid ((a + 1 < i → ltK key d[i - 1]! d[a]! = true) ∧ (j < b → ltK key d[j]! d[a]! = false)))
  case atStart => exact ⟨a + 1, b, by congr 1, rfl, Nat.le_refl _, by omega, Nat.le_refl _, by omega, S0, Lib.hid ⟨fun h => by omega, fun h => by omega⟩⟩
  case round =>
    clear S0
    obtain ⟨i, j, rfl, rfl, hai, hij, hjb, hg, S2, HO⟩ := hrel
    by_cases hlt : i < j
    · have hltz : (i : Int) < (j : Int) := by omega
      have hbz : (i : Int) + (j : Int) < 4611686018427387904 := by omega
      go_wp2_with fail
      obtain ⟨h, hh⟩ : ∃ h : Nat, h = (i + j) / 2 := ⟨_, rfl⟩
      have hz : ((i : Int) + (j : Int)) / 2 = (h : Int) := by omega
      rw [hz]
      have hih : i ≤ h := by omega
      have hhj : h < j := by omega
      clear hz hh
      obtain ⟨iN, hiN⟩ : ∃ q, q = h := ⟨_, rfl⟩
      obtain ⟨jN, hjN⟩ : ∃ q, q = a := ⟨_, rfl⟩
      have ea : (h : Int).toNat = iN := by omega
      have pa : (0 : Int) ≤ (h : Int) := by omega
      have ba : (h : Int) < (d.size : Int) := by omega
      have ra : IntKind.i64.wrap (h : Int) = (h : Int) := by rw [IntKind.wrap_i64]; omega
      have ec : (a : Int).toNat = jN := by omega
      have pc : (0 : Int) ≤ (a : Int) := by omega
      have bc : (a : Int) < (d.size : Int) := by omega
      have rc : IntKind.i64.wrap (a : Int) = (a : Int) := by rw [IntKind.wrap_i64]; omega
      obtain ⟨x, hx⟩ : ∃ x, x = d[h]! := ⟨_, rfl⟩
      obtain ⟨y, hy⟩ : ∃ x, x = d[a]! := ⟨_, rfl⟩
      have l1 := S2.out.cl R (by omega) h (by omega)
      have l2 := S2.out.cl R (by omega) a (by omega)
      rw [← hx, ← hiN] at l1
      rw [← hy, ← hjN] at l2
      have hc := cmpB S2.out HC.out (by omega) x y
      cases hlv : ltK key d[h]! d[a]! with
      | true =>
        have hcv : cf x y < 0 := by
          have e := HK.out x y
          rw [hx, hy, hlv] at e
          rw [hx, hy]
          exact of_decide_eq_true e
        have hd : decide (cf x y < 0) = true := decide_eq_true hcv
        clear hx hy hiN hjN
        go_quiet_grown (first | (go_at_call 24; refine Calls.grown_of (hc _ _)))
        have S3 : Aside (SW enc w0 blk off d (grow (wr.drewN nq) osq)) := S2.out.grown nq osq
        clear l1 l2 hc S2
        generalize grow (wr.drewN nq) osq = w2 at S3 ⊢
        clear nq osq
        clear ea ec
        go_wp2_with fail
        go_roundg (j - (h + 1))
        case measure => omega
        case rel => exact ⟨h + 1, j, by go_num, rfl, by omega, by omega, hjb, Nat.le_refl _, S3, Lib.hid ⟨fun _ => by rw [Nat.add_sub_cancel]; exact hlv, HO.out.2⟩⟩
      | false =>
        have hcv : ¬ cf x y < 0 := by
          have e := HK.out x y
          rw [hx, hy, hlv] at e
          rw [hx, hy]
          exact of_decide_eq_false e
        have hd : decide (cf x y < 0) = false := decide_eq_false hcv
        clear hx hy hiN hjN
        go_quiet_grown (first | (go_at_call 24; refine Calls.grown_of (hc _ _)))
        have S3 : Aside (SW enc w0 blk off d (grow (wr.drewN nq) osq)) := S2.out.grown nq osq
        clear l1 l2 hc S2
        generalize grow (wr.drewN nq) osq = w2 at S3 ⊢
        clear nq osq
        clear ea ec
        go_wp2_with fail
        go_roundg (h - i)
        case measure => omega
        case rel => exact ⟨i, h, rfl, rfl, hai, hih, by omega, Nat.le_refl _, S3, Lib.hid ⟨HO.out.1, fun _ => hlv⟩⟩
    · have hltz : ¬ (i : Int) < (j : Int) := by omega
      obtain rfl : i = j := by omega
      have hfin : ∀ dk, dk = shU (i - 1 - a) d a → PermIn a b d dk ∧ SortedIn (ltX key ix) a b dk := fun dk e => by
        subst e
        refine ⟨shU_perm a b _ d a (Nat.le_refl _) (by omega) (by omega), one_left (i := i) hai hjb HS2.out HL.out HO.out.2 HO.out.1 fun x => ?_⟩
        rw [shU_get (i - 1 - a) d a (by omega) x, show a + (i - 1 - a) + 1 = i by omega]
      have HF : Aside _ := hfin
      clear hfin HO HS2 HL HK HC
      go_wp2_with fail
      go_loopg [13] (i - a) (fun g1 vk wr => ∃ (k : Nat) (dk : Array α), vk = .int .i64 k ∧ a ≤ k ∧ k + 1 ≤ i ∧ i - 1 - k ≤ g1 ∧ dk.size = d.size ∧ Aside (SW enc w0 blk off dk wr) ∧ Hid (shU (i - 1 - k) dk k = shU (i - 1 - a) d a))
      case atStart => exact ⟨a, d, rfl, Nat.le_refl _, by omega, by omega, rfl, S2, rfl⟩
      case round =>
        clear S2
        obtain ⟨k, dk, rfl, hak, hki, hg, hsk, S2, HO⟩ := hrel
        by_cases hlt : k + 1 < i
        · have hkz : (k : Int) < (i : Int) - 1 := by omega
          obtain ⟨iN, hiN⟩ : ∃ q, q = k := ⟨_, rfl⟩
          obtain ⟨jN, hjN⟩ : ∃ q, q = k + 1 := ⟨_, rfl⟩
          have ea : (k : Int).toNat = iN := by omega
          have pa : (0 : Int) ≤ (k : Int) := by omega
          have ba : (k : Int) < (d.size : Int) := by omega
          have ra : IntKind.i64.wrap (k : Int) = (k : Int) := by rw [IntKind.wrap_i64]; omega
          have ec : ((k : Int) + 1).toNat = jN := by omega
          have pc : (0 : Int) ≤ (k : Int) + 1 := by omega
          have bc : (k : Int) + 1 < (d.size : Int) := by omega
          have rc : IntKind.i64.wrap ((k : Int) + 1) = (k : Int) + 1 := by rw [IntKind.wrap_i64]; omega
          obtain ⟨x, hx⟩ : ∃ x, x = dk[k]! := ⟨_, rfl⟩
          obtain ⟨y, hy⟩ : ∃ x, x = dk[k + 1]! := ⟨_, rfl⟩
          have S3 : Aside (SW enc w0 blk off (swp dk k (k + 1)) ((wr.setCell ⟨blk, off + iN, none⟩ (enc y)).setCell ⟨blk, off + jN, none⟩ (enc x)).drew) := by rw [hiN, hjN, hx, hy]; exact S2.out.swapped R k (k + 1) (by omega) (by omega)
          have c1 := S2.out.c1 R (by omega) k (by omega)
          have c2 := S2.out.c1 R (by omega) (k + 1) (by omega)
          have f1 := S2.out.f1 R (by omega) k (by omega)
          have f2 := S2.out.f1 R (by omega) (k + 1) (by omega)
          obtain ⟨u, c3⟩ := S2.out.c2 R (by omega) k (k + 1) (by omega) (by omega) (enc y)
          rw [← hjN, ← hiN] at c3
          rw [← hx, ← hiN] at c1
          rw [← hy, ← hjN] at c2
          rw [← hiN] at f1
          rw [← hjN] at f2
          clear S2 hx hy hiN hjN
          go_wp2_with fail
          go_big_region_o
          clear c1 c2 c3 f1 f2
          generalize ((wr.setCell ⟨blk, off + iN, none⟩ (enc y)).setCell ⟨blk, off + jN, none⟩ (enc x)).drew = w3 at S3 ⊢
          clear ea ec
          go_wp2_with fail
          go_roundg (i - 1 - (k + 1))
          case measure => omega
          case rel => exact ⟨k + 1, swp dk k (k + 1), by go_num, by omega, by omega, Nat.le_refl _, by rw [size_swp]; exact hsk, S3, (show Hid _ from by
            have e := HO.out
            rw [show i - 1 - k = (i - 1 - (k + 1)) + 1 by omega] at e
            exact e)⟩
        · have hkz : ¬ (k : Int) < (i : Int) - 1 := by omega
          go_wp2_with fail
          (try simp only [Exit.inBlock, Exit.then])
          refine bodyPost_ret (results_none rfl _ _ _) rfl ?_
          have e := HO.out
          rw [show i - 1 - k = 0 by omega] at e
          obtain ⟨p1, p2⟩ := HF.out dk e
          exact ⟨rfl, dk, p1, p2, S2.out⟩
end Go.Proofs.YtcibmhncdgoemaaGreatDoor
namespace Go.Proofs.YtcibmhncdgoemaaGreatDoor
open Go Go.Shelf Go.RowKit Go.Lib Go.Sort
variable {α : Type} [Inhabited α]

set_option maxHeartbeats 8000000 in
set_option maxRecDepth 1000000 in
theorem sym_two (enc : α → Value) (cf : α → α → Int) (key : α → Int) (ix : α → Nat) (hK : ∀ x y, decide (cf x y < 0) = ltK key x y) (hv : Value) (blk off cap a m : Nat) (d0 d : Array α) (w0 w : World)
    (hcmp : CmpB hv enc cf blk off d0.size w0) (R : Row1 enc w0 blk off d0) (hs : d0.size = d.size) (S : SW enc w0 blk off d w) (ham : a + 2 ≤ m) (hb : m + 1 ≤ d.size) (hsz : d.size < 2305843009213693952)
    (hS1 : SortedIn (ltX key ix) a m d) (hL : Lr ix d a m (m + 1)) :
    Calls Tryz.prog 66 #[.slice (some ⟨blk, off, none⟩) d.size cap, .int .i64 a, .int .i64 m, .int .i64 (m + 1 : Int), .func (.func 24) #[hv] #[]] w fun e w' => e = .returned (.tuple #[]) ∧ ∃ d', PermIn a (m + 1) d d' ∧ SortedIn (ltX key ix) a (m + 1) d' ∧ SW enc w0 blk off d' w' := by
  have mixed : Tryz.prog.follows .mixedOrders = true := by kernel_rfl
  have hcl0 := R.hO.cells
  simp only [Value.cells] at hcl0
  have hst := R.hO.store Tryz.prog
  have HC : Aside _ := hcmp
  have S0 : Aside (SW enc w0 blk off d w) := S
  have HS1 : Aside _ := hS1
  have HL : Aside _ := hL
  have HK : Aside _ := hK
  clear S hcmp hS1 hL hK
  have t0 : (((m : Int) - (a : Int)) == 1) = false := by simpa using (show ¬ (m : Int) - (a : Int) = 1 by omega)
  have t1 : (((m : Int) + 1 - (m : Int)) == 1) = true := by rw [beq_iff_eq]; omega
  go_enter Tryz.func66, Tryz.ntmps66
  go_wp2_with fail
  go_loopg [14, 15] (m - a) (fun g1 vi vj wr => ∃ (i j : Nat), vi = .int .i64 i ∧ vj = .int .i64 j ∧ a ≤ i ∧ i ≤ j ∧ j ≤ m ∧ j - i ≤ g1 ∧ Aside (SW enc w0 blk off d wr) ∧ Hid ((a < i → ltK key d[m]! d[i - 1]! = false) ∧ (j < m → ltK key d[m]! d[j]! = true)))
  case atStart => exact ⟨a, m, rfl, rfl, Nat.le_refl _, by omega, Nat.le_refl _, by omega, S0, Lib.hid ⟨fun h => by omega, fun h => by omega⟩⟩
  case round =>
    clear S0
    obtain ⟨i, j, rfl, rfl, hai, hij, hjb, hg, S2, HO⟩ := hrel
    by_cases hlt : i < j
    · have hltz : (i : Int) < (j : Int) := by omega
      have hbz : (i : Int) + (j : Int) < 4611686018427387904 := by omega
      go_wp2_with fail
      obtain ⟨h, hh⟩ : ∃ h : Nat, h = (i + j) / 2 := ⟨_, rfl⟩
      have hz : ((i : Int) + (j : Int)) / 2 = (h : Int) := by omega
      rw [hz]
      have hih : i ≤ h := by omega
      have hhj : h < j := by omega
      clear hz hh
      obtain ⟨iN, hiN⟩ : ∃ q, q = m := ⟨_, rfl⟩
      obtain ⟨jN, hjN⟩ : ∃ q, q = h := ⟨_, rfl⟩
      have ea : (m : Int).toNat = iN := by omega
      have pa : (0 : Int) ≤ (m : Int) := by omega
      have ba : (m : Int) < (d.size : Int) := by omega
      have ra : IntKind.i64.wrap (m : Int) = (m : Int) := by rw [IntKind.wrap_i64]; omega
      have ec : (h : Int).toNat = jN := by omega
      have pc : (0 : Int) ≤ (h : Int) := by omega
      have bc : (h : Int) < (d.size : Int) := by omega
      have rc : IntKind.i64.wrap (h : Int) = (h : Int) := by rw [IntKind.wrap_i64]; omega
      obtain ⟨x, hx⟩ : ∃ x, x = d[m]! := ⟨_, rfl⟩
      obtain ⟨y, hy⟩ : ∃ x, x = d[h]! := ⟨_, rfl⟩
      have l1 := S2.out.cl R (by omega) m (by omega)
      have l2 := S2.out.cl R (by omega) h (by omega)
      rw [← hx, ← hiN] at l1
      rw [← hy, ← hjN] at l2
      have hc := cmpB S2.out HC.out (by omega) x y
      cases hlv : ltK key d[m]! d[h]! with
      | true =>
        have hcv : cf x y < 0 := by
          have e := HK.out x y
          rw [hx, hy, hlv] at e
          rw [hx, hy]
          exact of_decide_eq_true e
        have hd : decide (cf x y < 0) = true := decide_eq_true hcv
        clear hx hy hiN hjN
        go_quiet_grown (first | (go_at_call 24; refine Calls.grown_of (hc _ _)))
        have S3 : Aside (SW enc w0 blk off d (grow (wr.drewN nq) osq)) := S2.out.grown nq osq
        clear l1 l2 hc S2
        generalize grow (wr.drewN nq) osq = w2 at S3 ⊢
        clear nq osq
        clear ea ec
        go_wp2_with fail
        go_roundg (h - i)
        case measure => omega
        case rel => exact ⟨i, h, rfl, rfl, hai, hih, by omega, Nat.le_refl _, S3, Lib.hid ⟨HO.out.1, fun _ => hlv⟩⟩
      | false =>
        have hcv : ¬ cf x y < 0 := by
          have e := HK.out x y
          rw [hx, hy, hlv] at e
          rw [hx, hy]
          exact of_decide_eq_false e
        have hd : decide (cf x y < 0) = false := decide_eq_false hcv
        clear hx hy hiN hjN
        go_quiet_grown (first | (go_at_call 24; refine Calls.grown_of (hc _ _)))
        have S3 : Aside (SW enc w0 blk off d (grow (wr.drewN nq) osq)) := S2.out.grown nq osq
        clear l1 l2 hc S2
        generalize grow (wr.drewN nq) osq = w2 at S3 ⊢
        clear nq osq
        clear ea ec
        go_wp2_with fail
        go_roundg (j - (h + 1))
        case measure => omega
        case rel => exact ⟨h + 1, j, by go_num, rfl, by omega, by omega, hjb, Nat.le_refl _, S3, Lib.hid ⟨fun _ => by rw [Nat.add_sub_cancel]; exact hlv, HO.out.2⟩⟩
    · have hltz : ¬ (i : Int) < (j : Int) := by omega
      obtain rfl : i = j := by omega
      have hfin : ∀ dk, dk = shD (m - i) d m → PermIn a (m + 1) d dk ∧ SortedIn (ltX key ix) a (m + 1) dk := fun dk e => by
        subst e
        refine ⟨shD_perm a (m + 1) _ d m (by omega) (by omega) (by omega), one_right (i := i) hai hjb HS1.out HL.out HO.out.1 HO.out.2 fun x => ?_⟩
        rw [shD_get (m - i) d m (by omega) (by omega) x, show m - (m - i) = i by omega]
      have HF : Aside _ := hfin
      clear hfin HO HS1 HL HK HC
      go_wp2_with fail
      go_loopg [17] (m - i) (fun g1 vk wr => ∃ (k : Nat) (dk : Array α), vk = .int .i64 k ∧ i ≤ k ∧ k ≤ m ∧ k - i ≤ g1 ∧ dk.size = d.size ∧ Aside (SW enc w0 blk off dk wr) ∧ Hid (shD (k - i) dk k = shD (m - i) d m))
      case atStart => exact ⟨m, d, rfl, by omega, Nat.le_refl _, by omega, rfl, S2, rfl⟩
      case round =>
        clear S2
        obtain ⟨k, dk, rfl, hik, hkm, hg, hsk, S2, HO⟩ := hrel
        by_cases hlt : i < k
        · have hkz : (i : Int) < (k : Int) := by omega
          obtain ⟨kp, hkp⟩ : ∃ q, q + 1 = k := ⟨k - 1, by omega⟩
          subst hkp
          obtain ⟨iN, hiN⟩ : ∃ q, q = kp + 1 := ⟨_, rfl⟩
          obtain ⟨jN, hjN⟩ : ∃ q, q = kp := ⟨_, rfl⟩
          have zk : ((kp + 1 : Nat) : Int) = (kp : Int) + 1 := by omega
          have hkz' : (i : Int) < (kp : Int) + 1 := by omega
          have ea : ((kp : Int) + 1).toNat = iN := by omega
          have pa : (0 : Int) ≤ (kp : Int) + 1 := by omega
          have ba : (kp : Int) + 1 < (d.size : Int) := by omega
          have ra : IntKind.i64.wrap ((kp : Int) + 1) = (kp : Int) + 1 := by rw [IntKind.wrap_i64]; omega
          have ec : (kp : Int).toNat = jN := by omega
          have pc : (0 : Int) ≤ (kp : Int) := by omega
          have bc : (kp : Int) < (d.size : Int) := by omega
          have rc : IntKind.i64.wrap (kp : Int) = (kp : Int) := by rw [IntKind.wrap_i64]; omega
          obtain ⟨x, hx⟩ : ∃ x, x = dk[kp + 1]! := ⟨_, rfl⟩
          obtain ⟨y, hy⟩ : ∃ x, x = dk[kp]! := ⟨_, rfl⟩
          have S3 : Aside (SW enc w0 blk off (swp dk (kp + 1) kp) ((wr.setCell ⟨blk, off + iN, none⟩ (enc y)).setCell ⟨blk, off + jN, none⟩ (enc x)).drew) := by rw [hiN, hjN, hx, hy]; exact S2.out.swapped R (kp + 1) kp (by omega) (by omega)
          have c1 := S2.out.c1 R (by omega) (kp + 1) (by omega)
          have c2 := S2.out.c1 R (by omega) kp (by omega)
          have f1 := S2.out.f1 R (by omega) (kp + 1) (by omega)
          have f2 := S2.out.f1 R (by omega) kp (by omega)
          obtain ⟨u, c3⟩ := S2.out.c2 R (by omega) (kp + 1) kp (by omega) (by omega) (enc y)
          rw [← hiN, ← hjN] at c3
          rw [← hx, ← hiN] at c1
          rw [← hy, ← hjN] at c2
          rw [← hiN] at f1
          rw [← hjN] at f2
          clear S2 hx hy hiN hjN
          go_wp2_with fail
          go_big_region_o
          clear c1 c2 c3 f1 f2
          generalize ((wr.setCell ⟨blk, off + iN, none⟩ (enc y)).setCell ⟨blk, off + jN, none⟩ (enc x)).drew = w3 at S3 ⊢
          clear ea ec
          go_wp2_with fail
          go_roundg (kp - i)
          case measure => omega
          case rel => exact ⟨kp, swp dk (kp + 1) kp, by first | rfl | (congr 1; omega), by omega, by omega, Nat.le_refl _, by rw [size_swp]; exact hsk, S3, (show Hid _ from by
            have e := HO.out
            rw [show kp + 1 - i = (kp - i) + 1 by omega, shD, Nat.add_sub_cancel] at e
            exact e)⟩
        · have hkz : ¬ (i : Int) < (k : Int) := by omega
          go_wp2_with fail
          (try simp only [Exit.inBlock, Exit.then])
          refine bodyPost_ret (results_none rfl _ _ _) rfl ?_
          have e := HO.out
          rw [show k - i = 0 by omega] at e
          obtain ⟨p1, p2⟩ := HF.out dk e
          exact ⟨rfl, dk, p1, p2, S2.out⟩
end Go.Proofs.YtcibmhncdgoemaaGreatDoor
namespace Go.Proofs.YtcibmhncdgoemaaGreatDoor
open Go Go.Shelf Go.RowKit Go.Lib Go.Sort
variable {α : Type} [Inhabited α]

/-- what symMerge is to do, up to a size -/
def SymSpec (enc : α → Value) (key : α → Int) (ix : α → Nat) (hv : Value) (blk off cap n : Nat) (w0 : World) (N : Nat) : Prop :=
  ∀ (a m b : Nat) (d : Array α) (w : World), b - a ≤ N → a < m → m < b → b ≤ n → d.size = n → SW enc w0 blk off d w → SortedIn (ltX key ix) a m d → SortedIn (ltX key ix) m b d → Lr ix d a m b →
    Calls Tryz.prog 66 #[.slice (some ⟨blk, off, none⟩) n cap, .int .i64 a, .int .i64 m, .int .i64 b, .func (.func 24) #[hv] #[]] w fun e w' => e = .returned (.tuple #[]) ∧ ∃ d', PermIn a b d d' ∧ SortedIn (ltX key ix) a b d' ∧ SW enc w0 blk off d' w'
theorem rotate_n (enc : α → Value) (fv : Value) (blk off cap a m b : Nat) (d0 d : Array α) (w0 w : World) (R : Row1 enc w0 blk off d0) (hs : d0.size = d.size) (S : SW enc w0 blk off d w)
    (ham : a < m) (hmb : m < b) (hb : b ≤ d.size) (hsz : d.size < 1000000) (N : Nat) (eN : N = d.size) :
    Calls Tryz.prog 107 #[.slice (some ⟨blk, off, none⟩) N cap, .int .i64 a, .int .i64 m, .int .i64 b, fv] w fun e w' => e = .returned (.tuple #[]) ∧ SW enc w0 blk off (rotA m (b - a) d (m - a) (b - m)) w' := by
  subst eN
  exact rotate_s enc fv blk off cap a m b d0 d w0 w R hs S ham hmb hb (by omega)
theorem rot_same {β : Type} [Inhabited β] {f : Nat → β} {s m e k : Nat} (h : s = m ∨ m = e) (hs : s ≤ m) (he : m ≤ e) : f k = rotF f s m e k := by
  unfold rotF
  repeat' split
  all_goals first | rfl | (exfalso; omega) | (congr 1; omega)

set_option maxHeartbeats 16000000 in
set_option maxRecDepth 1000000 in
theorem sym_gen (enc : α → Value) (cf : α → α → Int) (key : α → Int) (ix : α → Nat) (hK : ∀ x y, decide (cf x y < 0) = ltK key x y) (hv : Value) (blk off cap n a m b : Nat) (d0 d : Array α) (w0 w : World)
    (hcmp : CmpB hv enc cf blk off d0.size w0) (R : Row1 enc w0 blk off d0) (hs0 : Hid (d0.size = n)) (hsn : Hid (d.size = n)) (S : SW enc w0 blk off d w) (ham : a + 2 ≤ m) (hmb : m + 2 ≤ b) (hb : b ≤ n) (hsz : n < 1000000)
    (hS1 : SortedIn (ltX key ix) a m d) (hS2 : SortedIn (ltX key ix) m b d) (hL : Lr ix d a m b) (IH : Aside (SymSpec enc key ix hv blk off cap n w0 (b - a - 1))) :
    Calls Tryz.prog 66 #[.slice (some ⟨blk, off, none⟩) n cap, .int .i64 a, .int .i64 m, .int .i64 b, .func (.func 24) #[hv] #[]] w fun e w' => e = .returned (.tuple #[]) ∧ ∃ d', PermIn a b d d' ∧ SortedIn (ltX key ix) a b d' ∧ SW enc w0 blk off d' w' := by
  have mixed : Tryz.prog.follows .mixedOrders = true := by kernel_rfl
  have hcl0 := R.hO.cells
  simp only [Value.cells] at hcl0
  have hst := R.hO.store Tryz.prog
  have HC : Aside _ := hcmp
  have S0 : Aside (SW enc w0 blk off d w) := S
  have HS1 : Aside _ := hS1
  have HS2 : Aside _ := hS2
  have HL : Aside _ := hL
  have HK : Aside _ := hK
  clear S hcmp hS1 hS2 hL hK
  have t0 : (((m : Int) - (a : Int)) == 1) = false := by simpa using (show ¬ (m : Int) - (a : Int) = 1 by omega)
  have t1 : (((b : Int) - (m : Int)) == 1) = false := by simpa using (show ¬ (b : Int) - (m : Int) = 1 by omega)
  obtain ⟨mid, hmid⟩ : ∃ q : Nat, q = (a + b) / 2 := ⟨_, rfl⟩
  have zm := Lib.hid (show ((a : Int) + (b : Int)) / 2 = (mid : Int) by omega)
  have bm : mid < b := by omega
  have bm0 : a < mid := by omega
  obtain ⟨lo, hi, z⟩ : ∃ lo hi : Nat, (mid < m ∧ lo + b = mid + m ∧ hi = mid) ∨ (¬ mid < m ∧ lo = a ∧ hi = m) := by
    by_cases h : mid < m
    · exact ⟨mid + m - b, mid, Or.inl ⟨h, by omega, rfl⟩⟩
    · exact ⟨a, m, Or.inr ⟨h, rfl, rfl⟩⟩
  have hlo : a ≤ lo ∧ lo ≤ hi ∧ hi ≤ m ∧ hi ≤ mid ∧ mid + m ≤ b + lo ∧ lo ≤ mid := by omega
  have ZZ := Lib.hid z
  clear z hmid
  go_enter Tryz.func66, Tryz.ntmps66
  go_upto_region 25 with fail
  rw [zm.out]
  clear zm
  go_upto_if 140 with fail
  go_cut [20, 21] from 138 to 146 (fun s20 s21 wx => s20 = .int .i64 lo ∧ s21 = .int .i64 hi ∧ wx = w)
  case first =>
    rcases ZZ.out with ⟨h1, h2, h3⟩ | ⟨h1, h2, h3⟩
    · have hz : (mid : Int) < (m : Int) := by omega
      have zl := Lib.hid (show (mid : Int) + (m : Int) - (b : Int) = (lo : Int) by omega)
      have H3 := Lib.hid h3
      clear h2 h3 ZZ
      go_wp2_with fail
      go_meet
      rw [H3.out, ← zl.out]
      exact ⟨rfl, rfl, rfl⟩
    · have hz : ¬ (mid : Int) < (m : Int) := by omega
      have H2 := Lib.hid h2
      have H3 := Lib.hid h3
      clear h2 h3 ZZ
      go_wp2_with fail
      go_meet
      rw [H2.out, H3.out]
      exact ⟨rfl, rfl, rfl⟩
  case rest =>
    obtain ⟨rfl, rfl, rfl⟩ := hcut
    go_wp2_with fail
    obtain ⟨p, hp⟩ : ∃ q : Nat, q = mid + m - 1 := ⟨_, rfl⟩
    rw [show (mid : Int) + (m : Int) - 1 = (p : Int) by omega]
    have HP := Lib.hid hp
    have hpb : p < b + lo := by omega
    have hpm : m + hi ≤ p + 1 := by
      rcases ZZ.out with ⟨h1, h2, h3⟩ | ⟨h1, h2, h3⟩ <;> omega
    clear hp
    go_loopg [20, 21] (hi - lo) (fun g1 vi vj wr => ∃ (i j : Nat), vi = .int .i64 i ∧ vj = .int .i64 j ∧ lo ≤ i ∧ i ≤ j ∧ j ≤ hi ∧ j - i ≤ g1 ∧ Aside (SW enc w0 blk off d wr) ∧ Hid ((lo < i → ltK key d[p - (i - 1)]! d[i - 1]! = false) ∧ (j < hi → ltK key d[p - j]! d[j]! = true)))
    case atStart => exact ⟨lo, hi, rfl, rfl, Nat.le_refl _, by omega, Nat.le_refl _, by omega, S0, Lib.hid ⟨fun h => by omega, fun h => by omega⟩⟩
    case round =>
      clear S0
      obtain ⟨i, j, rfl, rfl, hai, hij, hjb, hg, S2, HO⟩ := hrel
      by_cases hlt : i < j
      · have hltz : (i : Int) < (j : Int) := by omega
        go_wp2_with fail
        obtain ⟨h, hh⟩ : ∃ h : Nat, h = (i + j) / 2 := ⟨_, rfl⟩
        have hz : ((i : Int) + (j : Int)) / 2 = (h : Int) := by omega
        rw [hz]
        have hih : i ≤ h := by omega
        have hhj : h < j := by omega
        clear hz hh
        obtain ⟨q, hq⟩ : ∃ q : Nat, q = p - h := ⟨_, rfl⟩
        have rq : IntKind.i64.wrap ((p : Int) - (h : Int)) = (q : Int) := by rw [IntKind.wrap_i64]; omega
        have rq2 : (p : Int) - (h : Int) = (q : Int) := by omega
        have hqn : q < n := by omega
        obtain ⟨iN, hiN⟩ : ∃ r, r = q := ⟨_, rfl⟩
        obtain ⟨jN, hjN⟩ : ∃ q, q = h := ⟨_, rfl⟩
        have ea : (q : Int).toNat = iN := by omega
        have pa : (0 : Int) ≤ (q : Int) := by omega
        have ba : (q : Int) < (n : Int) := by omega
        have ra : IntKind.i64.wrap (q : Int) = (q : Int) := by rw [IntKind.wrap_i64]; omega
        have ec : (h : Int).toNat = jN := by omega
        have pc : (0 : Int) ≤ (h : Int) := by omega
        have bc : (h : Int) < (n : Int) := by omega
        have rc : IntKind.i64.wrap (h : Int) = (h : Int) := by rw [IntKind.wrap_i64]; omega
        obtain ⟨x, hx⟩ : ∃ x, x = d[p - h]! := ⟨_, rfl⟩
        obtain ⟨y, hy⟩ : ∃ x, x = d[h]! := ⟨_, rfl⟩
        have l1 := S2.out.cl R (by rw [hsn.out, hs0.out]) q (by rw [hsn.out]; omega)
        have l2 := S2.out.cl R (by rw [hsn.out, hs0.out]) h (by rw [hsn.out]; omega)
        rw [← hq] at hx
        rw [← hx, ← hiN] at l1
        rw [← hy, ← hjN] at l2
        rw [hq] at hx
        have hc := cmpB S2.out HC.out (by rw [hsn.out, hs0.out]) x y
        clear hq
        cases hlv : ltK key d[p - h]! d[h]! with
        | true =>
          have hcv : cf x y < 0 := by
            have e := HK.out x y
            rw [hx, hy, hlv] at e
            rw [hx, hy]
            exact of_decide_eq_true e
          have hd : decide (cf x y < 0) = true := decide_eq_true hcv
          clear hx hy hiN hjN
          go_quiet_grown (first | (go_at_call 24; refine Calls.grown_of (hc _ _)))
          have S3 : Aside (SW enc w0 blk off d (grow (wr.drewN nq) osq)) := S2.out.grown nq osq
          clear l1 l2 hc S2
          generalize grow (wr.drewN nq) osq = w2 at S3 ⊢
          clear nq osq
          clear ea ec
          go_wp2_with fail
          go_roundg (h - i)
          case measure => omega
          case rel => exact ⟨i, h, rfl, rfl, hai, hih, by omega, Nat.le_refl _, S3, Lib.hid ⟨HO.out.1, fun _ => hlv⟩⟩
        | false =>
          have hcv : ¬ cf x y < 0 := by
            have e := HK.out x y
            rw [hx, hy, hlv] at e
            rw [hx, hy]
            exact of_decide_eq_false e
          have hd : decide (cf x y < 0) = false := decide_eq_false hcv
          clear hx hy hiN hjN
          go_quiet_grown (first | (go_at_call 24; refine Calls.grown_of (hc _ _)))
          have S3 : Aside (SW enc w0 blk off d (grow (wr.drewN nq) osq)) := S2.out.grown nq osq
          clear l1 l2 hc S2
          generalize grow (wr.drewN nq) osq = w2 at S3 ⊢
          clear nq osq
          clear ea ec
          go_wp2_with fail
          go_roundg (j - (h + 1))
          case measure => omega
          case rel => exact ⟨h + 1, j, by go_num, rfl, by omega, by omega, hjb, Nat.le_refl _, S3, Lib.hid ⟨fun _ => by rw [Nat.add_sub_cancel]; exact hlv, HO.out.2⟩⟩
      · have hltz : ¬ (i : Int) < (j : Int) := by omega
        obtain rfl : i = j := by omega
        go_upto_region 39 with fail
        obtain ⟨e, he⟩ : ∃ q : Nat, q = mid + m - i := ⟨_, rfl⟩
        rw [show (mid : Int) + (m : Int) - (i : Int) = (e : Int) by omega]
        have x1 : a < i → e < b → ltK key d[e]! d[i - 1]! = false := fun h1 h2 => by
          have h := HO.out.1 (by rcases ZZ.out with ⟨h1, h2, h3⟩ | ⟨h1, h2, h3⟩ <;> omega)
          rw [HP.out, show mid + m - 1 - (i - 1) = e by omega] at h
          exact h
        have x2 : m < e → i < m → ltK key d[e - 1]! d[i]! = true := fun h1 h2 => by
          have h := HO.out.2 (by rcases ZZ.out with ⟨h1, h2, h3⟩ | ⟨h1, h2, h3⟩ <;> omega)
          rw [HP.out, show mid + m - 1 - i = e - 1 by omega] at h
          exact h
        have hai' : a ≤ i := by omega
        have him : i ≤ m := by omega
        have hme : m ≤ e := by omega
        have heb : e ≤ b := by omega
        have hec := Lib.hid (show mid = i + (e - m) by omega)
        have hmi : i ≤ mid := by omega
        have hmide : mid ≤ e := by omega
        have X1 := Lib.hid x1
        have X2 := Lib.hid x2
        clear x1 x2 he HO HP ZZ HC HK
        obtain ⟨C1, hC1⟩ : ∃ c : Bool, c = (decide (i < m) && decide (m < e)) := ⟨_, rfl⟩
        have HC1 := Lib.hid hC1
        clear hC1
        go_cut [185] from 178 to 184 (fun s185 wx => s185 = .bool C1 ∧ wx = wr)
        case first =>
          by_cases h1 : i < m
          · have h1z : (i : Int) < (m : Int) := by omega
            by_cases h2 : m < e
            · have h2z : (m : Int) < (e : Int) := by omega
              go_wp2_with fail
              go_meet
              rw [HC1.out, decide_eq_true h1, decide_eq_true h2]
              exact ⟨rfl, rfl⟩
            · have h2z : ¬ (m : Int) < (e : Int) := by omega
              go_wp2_with fail
              go_meet
              rw [HC1.out, decide_eq_true h1, decide_eq_false h2]
              exact ⟨rfl, rfl⟩
          · have h1z : ¬ (i : Int) < (m : Int) := by omega
            go_wp2_with fail
            go_meet
            rw [HC1.out, decide_eq_false h1]
            exact ⟨rfl, rfl⟩
        case rest =>
          obtain ⟨rfl, rfl⟩ := hcut
          go_upto_if 185 with fail
          go_cut [185] from 186 to 191 (fun s185 wx => s185 = .bool C1 ∧ ∃ d2, Aside (SW enc w0 blk off d2 wx) ∧ Hid (d2.size = n ∧ PermIn a b d d2 ∧ ∀ k, d2[k]! = rotF (fun k => d[k]!) i m e k))
          case first =>
            cases C1 with
            | true =>
              have hh := HC1.out
              have h12 : i < m ∧ m < e := by simpa using hh.symm
              obtain ⟨h1, h2⟩ := h12
              clear hh HC1
              go_wp2_with (go_at_call 107; refine (rotate_n enc _ blk off cap i m e d0 d w0 wc R (by rw [hsn.out, hs0.out]) S2.out h1 h2 (by rw [hsn.out]; omega) (by rw [hsn.out]; exact hsz) _ (by rw [hsn.out])).mono ?_; rintro r w2 ⟨rfl, S3⟩)
              go_meet
              refine ⟨rfl, _, S3, Lib.hid ⟨by rw [rotA_size]; exact hsn.out, rotA_perm a b m _ d _ _ (by omega) (by omega) (by omega) (by rw [hsn.out]; exact hb), fun k => ?_⟩⟩
              rw [rotA_get m (e - i) d (m - i) (e - m) (by omega) (by omega) (by omega) (by omega) (by rw [hsn.out]; omega) k, show m - (m - i) = i by omega, show m + (e - m) = e by omega]
            | false =>
              have hh := HC1.out
              have h12 : i = m ∨ m = e := by
                have : ¬ (i < m ∧ m < e) := by simpa using hh.symm
                omega
              clear hh HC1
              have H12 := Lib.hid h12
              clear h12
              go_wp2_with fail
              go_meet
              exact ⟨rfl, d, S2, Lib.hid ⟨hsn.out, permIn_refl _ _ _, fun k => rot_same H12.out him hme⟩⟩
          case rest =>
            obtain ⟨rfl, d2, S3, H2⟩ := hcut
            have HT := Lib.hid (turned (c := mid) hai' him hme heb hec.out HS1.out HS2.out HL.out X1.out X2.out H2.out.2.2)
            clear HC1 HS1 HS2 HL X1 X2 S2
            obtain ⟨C2, hC2⟩ : ∃ c : Bool, c = (decide (a < i) && decide (i < mid)) := ⟨_, rfl⟩
            have HC2 := Lib.hid hC2
            clear hC2
            go_upto_region 41 with fail
            go_cut [199] from 192 to 198 (fun s199 wx => s199 = .bool C2 ∧ wx = wc)
            case first =>
              by_cases h1 : a < i
              · have h1z : (a : Int) < (i : Int) := by omega
                by_cases h2 : i < mid
                · have h2z : (i : Int) < (mid : Int) := by omega
                  go_wp2_with fail
                  go_meet
                  rw [HC2.out, decide_eq_true h1, decide_eq_true h2]
                  exact ⟨rfl, rfl⟩
                · have h2z : ¬ (i : Int) < (mid : Int) := by omega
                  go_wp2_with fail
                  go_meet
                  rw [HC2.out, decide_eq_true h1, decide_eq_false h2]
                  exact ⟨rfl, rfl⟩
              · have h1z : ¬ (a : Int) < (i : Int) := by omega
                go_wp2_with fail
                go_meet
                rw [HC2.out, decide_eq_false h1]
                exact ⟨rfl, rfl⟩
            case rest =>
              obtain ⟨rfl, rfl⟩ := hcut
              go_upto_if 199 with fail
              go_cut [199] from 200 to 205 (fun s199 wx => s199 = .bool C2 ∧ ∃ d3, Aside (SW enc w0 blk off d3 wx) ∧ Hid (d3.size = n ∧ PermIn a mid d2 d3 ∧ SortedIn (ltX key ix) a mid d3))
              case first =>
                cases C2 with
                | true =>
                  have hh := HC2.out
                  have h12 : a < i ∧ i < mid := by simpa using hh.symm
                  obtain ⟨h1, h2⟩ := h12
                  clear hh HC2
                  go_wp2_with (go_at_call 66; refine (IH.out a i mid d2 wc (by omega) h1 h2 (by omega) H2.out.1 S3.out HT.out.1 HT.out.2.1 HT.out.2.2.1).mono ?_; rintro r w2 ⟨rfl, d3, p1, p2, S4⟩; refine Hid.out ?_)
                  refine Lib.hid ?_
                  have P1 := Lib.hid p1
                  have P2 := Lib.hid p2
                  have S5 : Aside _ := S4
                  clear p1 p2 S4
                  go_wp2_with fail
                  go_meet
                  exact ⟨rfl, d3, S5, Lib.hid ⟨by rw [P1.out.1]; exact H2.out.1, P1.out, P2.out⟩⟩
                | false =>
                  have hh := HC2.out
                  have h12 : i = a ∨ i = mid := by
                    have : ¬ (a < i ∧ i < mid) := by simpa using hh.symm
                    omega
                  clear hh HC2
                  have H12 := Lib.hid h12
                  clear h12
                  go_wp2_with fail
                  go_meet
                  refine ⟨rfl, d2, S3, Lib.hid ⟨H2.out.1, permIn_refl _ _ _, ?_⟩⟩
                  rcases H12.out with h | h
                  · have := HT.out.2.1
                    rw [h] at this
                    exact this
                  · have := HT.out.1
                    rw [h] at this
                    exact this
              case rest =>
                obtain ⟨rfl, d3, S4, H3⟩ := hcut
                clear HC2 S3
                obtain ⟨C3, hC3⟩ : ∃ c : Bool, c = (decide (mid < e) && decide (e < b)) := ⟨_, rfl⟩
                have HC3 := Lib.hid hC3
                clear hC3
                go_upto_region 43 with fail
                go_cut [213] from 206 to 212 (fun s213 wx => s213 = .bool C3 ∧ wx = wc)
                case first =>
                  by_cases h1 : mid < e
                  · have h1z : (mid : Int) < (e : Int) := by omega
                    by_cases h2 : e < b
                    · have h2z : (e : Int) < (b : Int) := by omega
                      go_wp2_with fail
                      go_meet
                      rw [HC3.out, decide_eq_true h1, decide_eq_true h2]
                      exact ⟨rfl, rfl⟩
                    · have h2z : ¬ (e : Int) < (b : Int) := by omega
                      go_wp2_with fail
                      go_meet
                      rw [HC3.out, decide_eq_true h1, decide_eq_false h2]
                      exact ⟨rfl, rfl⟩
                  · have h1z : ¬ (mid : Int) < (e : Int) := by omega
                    go_wp2_with fail
                    go_meet
                    rw [HC3.out, decide_eq_false h1]
                    exact ⟨rfl, rfl⟩
                case rest =>
                  obtain ⟨rfl, rfl⟩ := hcut
                  go_upto_if 213 with fail
                  have hfin : ∀ d4, PermIn mid b d3 d4 → SortedIn (ltX key ix) mid b d4 → PermIn a b d d4 ∧ SortedIn (ltX key ix) a b d4 := fun d4 p q => by
                    have h := merged hai' him hme heb hec.out (by rw [hsn.out]; exact hb) HT.out.2.2.2.2.2.2 H2.out.2.1 H3.out.2.1 H3.out.2.2 p q
                    exact ⟨h.2, h.1⟩
                  have HF := Lib.hid hfin
                  clear hfin
                  cases C3 with
                  | true =>
                    have hh := HC3.out
                    have h12 : mid < e ∧ e < b := by simpa using hh.symm
                    obtain ⟨h1, h2⟩ := h12
                    clear hh HC3
                    go_wp2_with (go_at_call 66; refine (IH.out mid e b d3 wc (by omega) h1 h2 (by omega) H3.out.1 S4.out (sorted_perm_out HT.out.2.2.2.1 H3.out.2.1 (Or.inr (Nat.le_refl _))) (sorted_perm_out HT.out.2.2.2.2.1 H3.out.2.1 (Or.inr hmide)) (lr_perm_out HT.out.2.2.2.2.2.1 H3.out.2.1 (Or.inr (Nat.le_refl _)))).mono ?_; rintro r w2 ⟨rfl, d4, p1, p2, S5⟩; refine Hid.out ?_)
                    refine Lib.hid ?_
                    have P1 := Lib.hid p1
                    have P2 := Lib.hid p2
                    have S6 : Aside _ := S5
                    clear p1 p2 S5
                    go_wp2_with fail
                    go_end0
                    obtain ⟨q1, q2⟩ := HF.out d4 P1.out P2.out
                    exact ⟨rfl, d4, q1, q2, S6.out⟩
                  | false =>
                    have hh := HC3.out
                    have h12 : mid = e ∨ e = b := by
                      have : ¬ (mid < e ∧ e < b) := by simpa using hh.symm
                      omega
                    clear hh HC3
                    have H12 := Lib.hid h12
                    clear h12
                    go_wp2_with fail
                    go_end0
                    obtain ⟨q1, q2⟩ := HF.out d3 (permIn_refl _ _ _) (by
                      rcases H12.out with h | h
                      · have := sorted_perm_out (lo := e) (hi := b) HT.out.2.2.2.2.1 H3.out.2.1 (Or.inr hmide)
                        rw [← h] at this
                        exact this
                      · have := sorted_perm_out (lo := mid) (hi := e) HT.out.2.2.2.1 H3.out.2.1 (Or.inr (Nat.le_refl _))
                        rw [h] at this
                        exact this)
                    exact ⟨rfl, d3, q1, q2, S4.out⟩
end Go.Proofs.YtcibmhncdgoemaaGreatDoor
namespace Go.Proofs.YtcibmhncdgoemaaGreatDoor
open Go Go.Shelf Go.RowKit Go.Lib Go.Sort
variable {α : Type} [Inhabited α]

theorem sym_all (enc : α → Value) (cf : α → α → Int) (key : α → Int) (ix : α → Nat) (hK : ∀ x y, decide (cf x y < 0) = ltK key x y) (hv : Value) (blk off cap n : Nat) (d0 : Array α) (w0 : World)
    (hcmp : CmpB hv enc cf blk off d0.size w0) (R : Row1 enc w0 blk off d0) (hs0 : d0.size = n) (hsz : n < 1000000) : ∀ N, SymSpec enc key ix hv blk off cap n w0 N := by
  intro N
  induction N with
  | zero => intro a m b d w h1 h2 h3; omega
  | succ N ih =>
    intro a m b d w hN ham hmb hb hd S s1 s2 L
    by_cases c1 : m = a + 1
    · subst c1
      subst hd
      have h := sym_one enc cf key ix hK hv blk off cap a b d0 d w0 w hcmp R hs0 S hmb hb (by omega) s2 L
      rw [show ((a + 1 : Nat) : Int) = (a : Int) + 1 by omega]
      exact h
    · by_cases c2 : b = m + 1
      · subst c2
        subst hd
        have h := sym_two enc cf key ix hK hv blk off cap a m d0 d w0 w hcmp R hs0 S (by omega) hb (by omega) s1 L
        rw [show ((m + 1 : Nat) : Int) = (m : Int) + 1 by omega]
        exact h
      · exact sym_gen enc cf key ix hK hv blk off cap n a m b d0 d w0 w hcmp R hs0 hd S (by omega) (by omega) hb hsz s1 s2 L (fun a' m' b' d' w' h => ih a' m' b' d' w' (by omega))
end Go.Proofs.YtcibmhncdgoemaaGreatDoor
namespace Go.Proofs.YtcibmhncdgoemaaGreatDoor
open Go Go.Shelf Go.RowKit Go.Lib Go.Sort
variable {α : Type} [Inhabited α]

theorem inner_stop (lt : α → α → Bool) (a j : Nat) (d : Array α) (h : j ≤ a ∨ lt d[j]! d[j - 1]! = false) : Go.Sort.insInner lt a j d = d := by
  cases j with
  | zero => rfl
  | succ j =>
    unfold Go.Sort.insInner
    rw [if_neg]
    rw [Nat.add_sub_cancel] at h
    rcases h with h | h
    · simp; omega
    · simp [h]

set_option maxHeartbeats 8000000 in
set_option maxRecDepth 1000000 in
theorem insSort_s (enc : α → Value) (cf : α → α → Int) (key : α → Int) (hK : ∀ x y, decide (cf x y < 0) = ltK key x y) (hv : Value) (blk off cap n a b : Nat) (d0 d : Array α) (w0 w : World)
    (hcmp : CmpB hv enc cf blk off d0.size w0) (R : Row1 enc w0 blk off d0) (hs0 : Hid (d0.size = n)) (hsn : Hid (d.size = n)) (S : SW enc w0 blk off d w) (hab : a ≤ b) (hb : b ≤ n) (hsz : n < 1000000) :
    Calls Tryz.prog 65 #[.slice (some ⟨blk, off, none⟩) n cap, .int .i64 a, .int .i64 b, .func (.func 24) #[hv] #[]] w fun e w' => e = .returned (.tuple #[]) ∧ SW enc w0 blk off (Go.Sort.insertionSort (ltK key) d a b) w' := by
  have mixed : Tryz.prog.follows .mixedOrders = true := by kernel_rfl
  have hcl0 := R.hO.cells
  simp only [Value.cells] at hcl0
  have hst := R.hO.store Tryz.prog
  have HC : Aside _ := hcmp
  have S0 : Aside (SW enc w0 blk off d w) := S
  have HK : Aside _ := hK
  clear S hcmp hK
  go_enter Tryz.func65, Tryz.ntmps65
  go_wp2_with fail
  go_loopg [8] (b - a) (fun g1 vi wr => ∃ (i : Nat) (dk : Array α), vi = .int .i64 i ∧ a + 1 ≤ i ∧ i ≤ b + 1 ∧ b + 1 - i ≤ g1 + 1 ∧ Hid (dk.size = n) ∧ Aside (SW enc w0 blk off dk wr) ∧ Hid (Go.Sort.insOuter (ltK key) a b i dk = Go.Sort.insertionSort (ltK key) d a b))
  case atStart => exact ⟨a + 1, d, by go_num, Nat.le_refl _, by omega, by omega, hsn, S0, rfl⟩
  case round =>
    clear S0 hsn
    obtain ⟨i, dk, rfl, hai, hib, hg1, hsk, S1, HO⟩ := hrel
    by_cases hlt : i < b
    · have hltz : (i : Int) < (b : Int) := by omega
      go_wp2_with fail
      go_loopg [9] i (fun g2 vj wr2 => ∃ (j : Nat) (dj : Array α), vj = .int .i64 j ∧ a ≤ j ∧ j ≤ i ∧ j ≤ g2 ∧ Hid (dj.size = n) ∧ Aside (SW enc w0 blk off dj wr2) ∧ Hid (Go.Sort.insInner (ltK key) a j dj = Go.Sort.insInner (ltK key) a i dk))
      case atStart => exact ⟨i, dk, rfl, by omega, Nat.le_refl _, Nat.le_refl _, hsk, S1, rfl⟩
      case round =>
        clear S1
        obtain ⟨j, dj, rfl, haj, hji, hg2, hsj, S2, HI⟩ := hrel
        have hout : (j ≤ a ∨ ltK key dj[j]! dj[j - 1]! = false) → Hid (Go.Sort.insOuter (ltK key) a b (i + 1) dj = Go.Sort.insertionSort (ltK key) d a b) := fun h => by
          have e := HO.out
          rw [Go.Sort.insOuter, if_pos hlt, ← HI.out, inner_stop _ _ _ _ h] at e
          exact e
        have OUT : Aside _ := hout
        clear hout
        by_cases hja : a < j
        · obtain ⟨kp, hkp⟩ : ∃ q, q + 1 = j := ⟨j - 1, by omega⟩
          subst hkp
          have zk : ((kp + 1 : Nat) : Int) = (kp : Int) + 1 := by omega
          have hjad : decide ((kp : Int) + 1 > (a : Int)) = true := decide_eq_true (by omega)
          have hjaz : (a : Int) < (kp : Int) + 1 := by omega
          obtain ⟨iN, hiN⟩ : ∃ q, q = kp + 1 := ⟨_, rfl⟩
          obtain ⟨jN, hjN⟩ : ∃ q, q = kp := ⟨_, rfl⟩
          have ea : ((kp : Int) + 1).toNat = iN := by omega
          have pa : (0 : Int) ≤ (kp : Int) + 1 := by omega
          have ba : (kp : Int) + 1 < (n : Int) := by omega
          have ra : IntKind.i64.wrap ((kp : Int) + 1) = (kp : Int) + 1 := by rw [IntKind.wrap_i64]; omega
          have ec : (kp : Int).toNat = jN := by omega
          have pc : (0 : Int) ≤ (kp : Int) := by omega
          have bc : (kp : Int) < (n : Int) := by omega
          have rc : IntKind.i64.wrap (kp : Int) = (kp : Int) := by rw [IntKind.wrap_i64]; omega
          obtain ⟨x, hx⟩ : ∃ x, x = dj[kp + 1]! := ⟨_, rfl⟩
          obtain ⟨y, hy⟩ : ∃ x, x = dj[kp]! := ⟨_, rfl⟩
          have l1 := S2.out.cl R (by rw [hsj.out, hs0.out]) (kp + 1) (by rw [hsj.out]; omega)
          have l2 := S2.out.cl R (by rw [hsj.out, hs0.out]) kp (by rw [hsj.out]; omega)
          rw [← hx, ← hiN] at l1
          rw [← hy, ← hjN] at l2
          have hc := cmpB S2.out HC.out (by rw [hsj.out, hs0.out]) x y
          cases hlv : ltK key dj[kp + 1]! dj[kp]! with
          | true =>
            have hcv : cf x y < 0 := by
              have e := HK.out x y
              rw [hx, hy, hlv] at e
              rw [hx, hy]
              exact of_decide_eq_true e
            have hd : decide (cf x y < 0) = true := decide_eq_true hcv
            have E1 := Lib.hid hx
            have E2 := Lib.hid hy
            have E3 := Lib.hid hiN
            have E4 := Lib.hid hjN
            clear hx hy hiN hjN
            go_wp2_with fail
            go_quiet_grown (first | (go_at_call 24; refine Calls.grown_of (hc _ _)))
            have S2' : Aside (SW enc w0 blk off dj (grow (wr.drewN nq) osq)) := S2.out.grown nq osq
            clear l1 l2 hc S2
            generalize grow (wr.drewN nq) osq = w2 at S2' ⊢
            clear nq osq
            have hx := E1.out
            have hy := E2.out
            have hiN := E3.out
            have hjN := E4.out
            clear E1 E2 E3 E4
            have S3 : Aside (SW enc w0 blk off (swp dj (kp + 1) kp) ((w2.setCell ⟨blk, off + iN, none⟩ (enc y)).setCell ⟨blk, off + jN, none⟩ (enc x)).drew) := by rw [hiN, hjN, hx, hy]; exact S2'.out.swapped R (kp + 1) kp (by rw [hsj.out]; omega) (by rw [hsj.out]; omega)
            have c1 := S2'.out.c1 R (by rw [hsj.out, hs0.out]) (kp + 1) (by rw [hsj.out]; omega)
            have c2 := S2'.out.c1 R (by rw [hsj.out, hs0.out]) kp (by rw [hsj.out]; omega)
            have f1 := S2'.out.f1 R (by rw [hsj.out, hs0.out]) (kp + 1) (by rw [hsj.out]; omega)
            have f2 := S2'.out.f1 R (by rw [hsj.out, hs0.out]) kp (by rw [hsj.out]; omega)
            obtain ⟨u, c3⟩ := S2'.out.c2 R (by rw [hsj.out, hs0.out]) (kp + 1) kp (by rw [hsj.out]; omega) (by rw [hsj.out]; omega) (enc y)
            rw [← hiN, ← hjN] at c3
            rw [← hx, ← hiN] at c1
            rw [← hy, ← hjN] at c2
            rw [← hiN] at f1
            rw [← hjN] at f2
            clear S2' hx hy hiN hjN hcv hd
            go_wp2_with fail
            go_big_region_o
            clear c1 c2 c3 f1 f2
            generalize ((w2.setCell ⟨blk, off + iN, none⟩ (enc y)).setCell ⟨blk, off + jN, none⟩ (enc x)).drew = w3 at S3 ⊢
            clear ea ec
            go_wp2_with fail
            go_roundg kp
            case measure => omega
            case rel => exact ⟨kp, swp dj (kp + 1) kp, by first | rfl | (congr 1; omega), by omega, by omega, Nat.le_refl _, Lib.hid (by rw [size_swp]; exact hsj.out), S3, (show Hid _ from by
              have e := HI.out
              rw [Go.Sort.insInner, if_pos (by rw [hlv]; simp; omega)] at e
              exact e)⟩
          | false =>
            have hcv : ¬ cf x y < 0 := by
              have e := HK.out x y
              rw [hx, hy, hlv] at e
              rw [hx, hy]
              exact of_decide_eq_false e
            have hd : decide (cf x y < 0) = false := decide_eq_false hcv
            clear hx hy hiN hjN
            go_wp2_with fail
            go_quiet_grown (first | (go_at_call 24; refine Calls.grown_of (hc _ _)))
            have S3 : Aside (SW enc w0 blk off dj (grow (wr.drewN nq) osq)) := S2.out.grown nq osq
            clear l1 l2 hc S2
            generalize grow (wr.drewN nq) osq = w2 at S3 ⊢
            clear nq osq
            clear ea ec
            go_wp2_with fail
            go_roundg (b - (i + 1))
            case measure => omega
            case rel => exact ⟨i + 1, dj, by go_num, by omega, by omega, by omega, hsj, S3, OUT.out (Or.inr hlv)⟩
        · have hjad : decide ((j : Int) > (a : Int)) = false := decide_eq_false (by omega)
          have hjaz : ¬ (a : Int) < (j : Int) := by omega
          go_wp2_with fail
          go_big_region_o
          have S3 : Aside (SW enc w0 blk off dj wr.drew) := S2.out.drew
          clear S2
          generalize wr.drew = w2 at S3 ⊢
          go_wp2_with fail
          go_roundg (b - (i + 1))
          case measure => omega
          case rel => exact ⟨i + 1, dj, by go_num, by omega, by omega, by omega, hsj, S3, OUT.out (Or.inl (by omega))⟩
    · have hltz : ¬ (i : Int) < (b : Int) := by omega
      go_wp2_with fail
      go_end0
      have e := HO.out
      rw [Go.Sort.insOuter, if_neg hlt] at e
      refine ⟨rfl, ?_⟩
      rw [← e]
      exact S1.out
end Go.Proofs.YtcibmhncdgoemaaGreatDoor
namespace Go.Proofs.YtcibmhncdgoemaaGreatDoor
open Go Go.Shelf Go.RowKit Go.Lib Go.Sort
variable {α : Type} [Inhabited α]

theorem insSort_z (enc : α → Value) (cf : α → α → Int) (key : α → Int) (hK : ∀ x y, decide (cf x y < 0) = ltK key x y) (hv : Value) (blk off cap n a b : Nat) (d0 d : Array α) (w0 w : World)
    (hcmp : CmpB hv enc cf blk off d0.size w0) (R : Row1 enc w0 blk off d0) (hs0 : d0.size = n) (hsn : d.size = n) (S : SW enc w0 blk off d w) (hab : a ≤ b) (hb : b ≤ n) (hsz : n < 1000000) (zb : Int) (eb : zb = (b : Int)) :
    Calls Tryz.prog 65 #[.slice (some ⟨blk, off, none⟩) n cap, .int .i64 a, .int .i64 zb, .func (.func 24) #[hv] #[]] w fun e w' => e = .returned (.tuple #[]) ∧ SW enc w0 blk off (Go.Sort.insertionSort (ltK key) d a b) w' := by
  subst eb
  exact insSort_s enc cf key hK hv blk off cap n a b d0 d w0 w hcmp R hs0 hsn S hab hb hsz
theorem sym_z {enc : α → Value} {key : α → Int} {ix : α → Nat} {hv : Value} {blk off cap n : Nat} {w0 : World} (H : ∀ N, SymSpec enc key ix hv blk off cap n w0 N) (a m b : Nat) (d : Array α) (w : World) (ham : a < m) (hmb : m < b) (hb : b ≤ n) (hd : d.size = n) (S : SW enc w0 blk off d w)
    (s1 : SortedIn (ltX key ix) a m d) (s2 : SortedIn (ltX key ix) m b d) (L : Lr ix d a m b) (zm zb : Int) (em : zm = (m : Int)) (eb : zb = (b : Int)) :
    Calls Tryz.prog 66 #[.slice (some ⟨blk, off, none⟩) n cap, .int .i64 a, .int .i64 zm, .int .i64 zb, .func (.func 24) #[hv] #[]] w fun e w' => e = .returned (.tuple #[]) ∧ ∃ d', PermIn a b d d' ∧ SortedIn (ltX key ix) a b d' ∧ SW enc w0 blk off d' w' := by
  subst em eb
  exact H (b - a) a m b d w (Nat.le_refl _) ham hmb hb hd S s1 s2 L

set_option maxHeartbeats 8000000 in
set_option maxRecDepth 1000000 in
theorem stable_s (enc : α → Value) (cf : α → α → Int) (key : α → Int) (ix : α → Nat) (hK : ∀ x y, decide (cf x y < 0) = ltK key x y) (hv : Value) (blk off cap n : Nat) (d : Array α) (w : World)
    (hcmp : CmpB hv enc cf blk off d.size w) (R : Row1 enc w blk off d) (hsn : Hid (d.size = n)) (hsz : n < 1000) (hA : Asc ix d 0 n) :
    Calls Tryz.prog 45 #[.slice (some ⟨blk, off, none⟩) n cap, .int .i64 n, .func (.func 24) #[hv] #[]] w fun e w' => e = .returned (.tuple #[]) ∧ ∃ d', PermIn 0 n d d' ∧ SortedIn (ltX key ix) 0 n d' ∧ SW enc w blk off d' w' := by
  have HC : Aside _ := hcmp
  have HK : Aside _ := hK
  have HSYM : Aside _ := sym_all enc cf key ix hK hv blk off cap n d w hcmp R hsn (by omega)
  have S0 : Aside (SW enc w blk off d w) := SW.start R.hH
  have P0 : Aside _ := Ph1.start (key := key) (s := 20) hA
  clear hcmp hK hA
  go_enter Tryz.func45, Tryz.ntmps45
  go_wp2_with fail
  go_loopg [7, 8] n (fun g1 va vb wr => ∃ (a : Nat) (dk : Array α), va = .int .i64 a ∧ vb = .int .i64 ((a : Int) + 20) ∧ a ≤ n ∧ n - a ≤ g1 ∧ Hid (dk.size = n) ∧ Aside (SW enc w blk off dk wr) ∧ Aside (PermIn 0 n d dk) ∧ Aside (Ph1 key ix 20 n a dk))
  case atStart => exact ⟨0, d, rfl, rfl, Nat.zero_le _, by omega, hsn, S0, permIn_refl _ _ _, P0⟩
  case round =>
    clear S0 P0
    obtain ⟨a, dk, rfl, rfl, han, hg, hsk, S1, PM, P1⟩ := hrel
    by_cases hlt : a + 20 ≤ n
    · have hltz : (a : Int) + 20 ≤ (n : Int) := by omega
      go_wp2_with (go_at_call 65; refine (insSort_z enc cf key HK.out hv blk off cap n a (a + 20) d dk w wr HC.out R hsn.out hsk.out S1.out (by omega) hlt (by omega) _ (by omega)).mono ?_; rintro r w2 ⟨rfl, S2⟩)
      have hle : n ≤ dk.size := by rw [hsk.out]; exact Nat.le_refl _
      have pm : PermIn 0 n dk (Go.Sort.insertionSort (ltK key) dk a (a + 20)) := Ph1.perm hle P1.out.left (by omega) hlt
      have hs2 : (Go.Sort.insertionSort (ltK key) dk a (a + 20)).size = n := by rw [pm.1]; exact hsk.out
      have PM2 : Aside _ := permIn_trans _ _ _ _ _ PM.out pm
      have P2 : Aside _ := P1.out.step (by omega) hle hlt
      have HS2 := Lib.hid hs2
      have S3 : Aside _ := S2
      clear pm hs2 hle S2
      go_roundg (n - (a + 20))
      case measure => omega
      case rel => exact ⟨a + 20, _, by go_num, by first | rfl | (congr 1; omega), hlt, Nat.le_refl _, HS2, S3, PM2, P2⟩
    · have hltz : ¬ (a : Int) + 20 ≤ (n : Int) := by omega
      go_wp2_with (go_at_call 65; refine (insSort_z enc cf key HK.out hv blk off cap n a n d dk w wr HC.out R hsn.out hsk.out S1.out han (Nat.le_refl _) (by omega) _ (by omega)).mono ?_; rintro r w2 ⟨rfl, S2⟩)
      have B0 : Aside _ := P1.out.last (by omega) (by rw [hsk.out]; exact Nat.le_refl _) han (by omega)
      have PM2 : Aside _ := permIn_trans _ _ _ _ _ PM.out (Ph1.perm (key := key) (by rw [hsk.out]; exact Nat.le_refl _) P1.out.left han (Nat.le_refl _))
      have hs2 := Lib.hid (show (Go.Sort.insertionSort (ltK key) dk a n).size = n by rw [PM2.out.1]; exact hsn.out)
      generalize Go.Sort.insertionSort (ltK key) dk a n = d2 at S2 B0 PM2 hs2
      have S3 : Aside _ := S2
      clear S1 PM P1 hsk S2 hltz hlt
      go_wp2_with fail
      go_loopg [6] n (fun g1 vs wr => ∃ (s : Nat) (dk : Array α), vs = .int .i64 s ∧ 0 < s ∧ s < 2000 ∧ n - s ≤ g1 ∧ Hid (dk.size = n) ∧ Aside (SW enc w blk off dk wr) ∧ Aside (PermIn 0 n d dk) ∧ Aside (Blk key ix s n dk))
      case atStart => exact ⟨20, d2, rfl, by omega, by omega, by omega, hs2, S3, PM2, B0⟩
      case round =>
        clear S3 PM2 B0 hs2
        obtain ⟨s, dk, rfl, hs0, hs2k, hg2, hsk, S1, PM, B1⟩ := hrel
        by_cases hsn' : s < n
        · have hsz1 : (s : Int) < (n : Int) := by omega
          have P20 : Aside _ := B1.out
          have P2 : Aside _ := Ph2.start hs0 B1.out
          clear B1 P20
          go_wp2_with fail
          go_loopg [7, 8] n (fun g1 va vb wr => ∃ (a : Nat) (dj : Array α), va = .int .i64 a ∧ vb = .int .i64 ((a : Int) + 2 * (s : Int)) ∧ a ≤ n ∧ n - a ≤ g1 ∧ Hid (dj.size = n) ∧ Aside (SW enc w blk off dj wr) ∧ Aside (PermIn 0 n d dj) ∧ Aside (Ph2 key ix s n a dj))
          case atStart => exact ⟨0, dk, rfl, by congr 1; omega, Nat.zero_le _, by omega, hsk, S1, PM, P2⟩
          case round =>
            clear S1 PM P2 hsk
            obtain ⟨a, dj, rfl, rfl, han, hg3, hsj, S4, PM3, P3⟩ := hrel
            by_cases hlt2 : a + 2 * s ≤ n
            · have hltz : (a : Int) + 2 * (s : Int) ≤ (n : Int) := by omega
              have hpre := P3.out.pre hs0 hlt2
              have HPRE := Lib.hid hpre
              clear hpre
              go_wp2_with (go_at_call 66; refine (sym_z HSYM.out a (a + s) (a + 2 * s) dj wr (by omega) (by omega) hlt2 hsj.out S4.out HPRE.out.1 HPRE.out.2.1 HPRE.out.2.2 _ _ (by omega) (by omega)).mono ?_; rintro r w2 ⟨rfl, dm, p1, p2, S5⟩; refine Hid.out ?_)
              refine Lib.hid ?_
              have hle : n ≤ dj.size := by rw [hsj.out]; exact Nat.le_refl _
              have HS2 := Lib.hid (show dm.size = n by rw [p1.1]; exact hsj.out)
              have PM4 : Aside _ := permIn_trans _ _ _ _ _ PM3.out (permIn_mono _ _ _ _ _ _ (Nat.zero_le _) hlt2 hle p1)
              have P4 : Aside _ := P3.out.step hs0 hle hlt2 p1 p2
              have S6 : Aside _ := S5
              clear p1 p2 S5 hle
              go_wp2_with fail
              go_roundg (n - (a + 2 * s))
              case measure => omega
              case rel => exact ⟨a + 2 * s, dm, by first | rfl | (congr 1; omega), by first | rfl | (congr 1; omega), hlt2, Nat.le_refl _, HS2, S6, PM4, P4⟩
            · have hltz : ¬ (a : Int) + 2 * (s : Int) ≤ (n : Int) := by omega
              by_cases hm : a + s < n
              · have hmz : (a : Int) + (s : Int) < (n : Int) := by omega
                have HPRE := Lib.hid (P3.out.pre_last hs0 hm (by omega))
                go_wp2_with (go_at_call 66; refine (sym_z HSYM.out a (a + s) n dj wr (by omega) (by omega) (Nat.le_refl _) hsj.out S4.out HPRE.out.1 HPRE.out.2.1 HPRE.out.2.2 _ _ (by omega) (by omega)).mono ?_; rintro r w2 ⟨rfl, dm, p1, p2, S5⟩; refine Hid.out ?_)
                refine Lib.hid ?_
                have hle : n ≤ dj.size := by rw [hsj.out]; exact Nat.le_refl _
                have HS2 := Lib.hid (show dm.size = n by rw [p1.1]; exact hsj.out)
                have PM4 : Aside _ := permIn_trans _ _ _ _ _ PM3.out (permIn_mono _ _ _ _ _ _ (Nat.zero_le _) (Nat.le_refl _) hle p1)
                have B4 : Aside _ := P3.out.last hs0 hle han (by omega) p1 p2
                have S6 : Aside _ := S5
                clear p1 p2 S5 hle
                go_wp2_with fail
                go_roundg (n - 2 * s)
                case measure => omega
                case rel => exact ⟨2 * s, dm, by congr 1; omega, by omega, by omega, Nat.le_refl _, HS2, S6, PM4, B4⟩
              · have hmz : ¬ (a : Int) + (s : Int) < (n : Int) := by omega
                have hle : n ≤ dj.size := by rw [hsj.out]; exact Nat.le_refl _
                have B4 : Aside _ := P3.out.last hs0 hle han (by omega) (permIn_refl _ _ _) (P3.out.tail hs0 han hm)
                clear hle
                go_wp2_with fail
                go_roundg (n - 2 * s)
                case measure => omega
                case rel => exact ⟨2 * s, dj, by congr 1; omega, by omega, by omega, Nat.le_refl _, hsj, S4, PM3, B4⟩
        · have hsz1 : ¬ (s : Int) < (n : Int) := by omega
          go_wp2_with fail
          go_end0
          exact ⟨rfl, dk, PM.out, B1.out.whole hsn', S1.out⟩
end Go.Proofs.YtcibmhncdgoemaaGreatDoor
namespace Go.Proofs.YtcibmhncdgoemaaGreatDoor
open Go Go.Shelf Go.RowKit Go.Lib Go.Sort

/-- cmp.Compare at integers -/
def cmpI (x y : Int) : Int := if x < y then -1 else if y < x then 1 else 0
set_option maxHeartbeats 1000000 in
theorem compare_s (x y : Int) (w : World) : Calls Tryz.prog 46 #[.int .i64 x, .int .i64 y] w fun e w' => e = .returned (.int .i64 (cmpI x y)) ∧ w' = w := by
  unfold cmpI
  by_cases h1 : x < y
  · go_enter Tryz.func46, Tryz.ntmps46
    go_wp2
    go_ret
    exact ⟨rfl, rfl⟩
  · by_cases h2 : y < x
    · go_enter Tryz.func46, Tryz.ntmps46
      go_wp2
      go_ret
      exact ⟨rfl, rfl⟩
    · go_enter Tryz.func46, Tryz.ntmps46
      go_wp2
      go_ret
      exact ⟨rfl, rfl⟩

set_option maxHeartbeats 4000000 in
set_option maxRecDepth 100000 in
theorem byEnd_s (hb ho hc H x y : Nat) (ex ey : Int) (hx : x < H) (hy : y < H) (hH : H < 1000) (w : World) (c1 : w.cell? ⟨hb, ho + x * 8 + 3, none⟩ = some (.int .i64 ex)) (c2 : w.cell? ⟨hb, ho + y * 8 + 3, none⟩ = some (.int .i64 ey)) :
    Calls Tryz.prog 24 #[.slice (some ⟨hb, ho, none⟩) H hc, .int .i64 x, .int .i64 y] w fun e w' => e = .returned (.int .i64 (cmpI ex ey)) ∧ ∃ q, w' = w.drewN q := by
  have b1 : (x : Int) < (H : Int) := by omega
  have b2 : (y : Int) < (H : Int) := by omega
  have p1 : (0 : Int) ≤ (x : Int) := by omega
  have p2 : (0 : Int) ≤ (y : Int) := by omega
  go_enter Tryz.func24, Tryz.ntmps24
  go_wp2
  go_quiet ((go_at_call 46; exact Calls.quiet_of_same (compare_s _ _ _)))
  go_wp2
  go_ret
  exact ⟨rfl, _, rfl⟩

set_option maxHeartbeats 4000000 in
set_option maxRecDepth 100000 in
theorem insSort_nil (fv : Value) (w : World) :
    Calls Tryz.prog 65 #[.slice none 0 0, .int .i64 0, .int .i64 0, fv] w fun e w' => e = .returned (.tuple #[]) ∧ w' = w := by
  go_enter Tryz.func65, Tryz.ntmps65
  go_wp2
  refine wp_loop_rounds 1 ?_
  rw [rounds_succ]
  go_wp2
  go_end0
  exact ⟨rfl, rfl⟩
set_option maxHeartbeats 4000000 in
set_option maxRecDepth 100000 in
theorem stable_nil (fv : Value) (w : World) :
    Calls Tryz.prog 45 #[.slice none 0 0, .int .i64 0, fv] w fun e w' => e = .returned (.tuple #[]) ∧ w' = w := by
  go_enter Tryz.func45, Tryz.ntmps45
  go_wp2
  refine wp_loop_rounds 1 ?_
  rw [rounds_succ]
  go_wp2_with (go_at_call 65; refine (insSort_nil fv _).mono ?_; rintro e w' ⟨rfl, rfl⟩)
  refine wp_loop_rounds 1 ?_
  rw [rounds_succ]
  go_wp2
  go_end0
  exact ⟨rfl, rfl⟩
set_option maxHeartbeats 4000000 in
set_option maxRecDepth 100000 in
theorem sortStable_nil (fv : Value) (w : World) :
    Calls Tryz.prog 23 #[.slice none 0 0, fv] w fun e w' => e = .returned (.tuple #[]) ∧ w' = w := by
  go_enter Tryz.func23, Tryz.ntmps23
  go_wp2_with (go_at_call 45; refine (stable_nil fv _).mono ?_; rintro e w' ⟨rfl, rfl⟩)
  go_end0
  exact ⟨rfl, rfl⟩

/-- a place of a history, as a number -/
def encF {m : Nat} (x : Fin (m + 1)) : Value := .int .i64 ((x.val : Nat) : Int)
theorem encF_one {m : Nat} : OneCell (encF (m := m)) := fun x => rfl
/-- where a history's ends lie -/
def Ends (w : World) (hb ho H : Nat) (E : Nat → Int) : Prop := ∀ x, x < H → w.cell? ⟨hb, ho + x * 8 + 3, none⟩ = some (.int .i64 (E x))
theorem cell_sortWorld {α : Type} [Inhabited α] (enc : α → Value) (w : World) (blk off m : Nat) (dk : Array α) (os : Array Obj) (a : Addr) (ha : a.block < w.heap.size) (hne : a.block ≠ blk) : (sortWorld enc w blk off m dk os).cell? a = w.cell? a := by
  unfold sortWorld
  rw [cell?_grow _ _ _ (by simpa using ha), cell?_putRow_other _ _ _ _ _ _ (Or.inl hne)]
  rfl
theorem cmpB_byEnd (m hb ho hc blk off size : Nat) (hm : m + 1 < 1000) (E : Nat → Int) (w : World) (hE : Ends w hb ho (m + 1) E) (hlt : hb < w.heap.size) (hne : hb ≠ blk) :
    CmpB (.slice (some ⟨hb, ho, none⟩) (m + 1) hc) (encF (m := m)) (fun x y => cmpI (E x.val) (E y.val)) blk off size w := by
  intro k os dk _ x y
  refine (byEnd_s hb ho hc (m + 1) x.val y.val (E x.val) (E y.val) x.isLt y.isLt hm _ ?_ ?_).mono fun e w' ⟨he, q, hq⟩ => ⟨he, q, #[], by rw [hq, grow_empty]⟩
  · rw [cell_sortWorld _ _ _ _ _ _ _ _ hlt hne]; exact hE x.val x.isLt
  · rw [cell_sortWorld _ _ _ _ _ _ _ _ hlt hne]; exact hE y.val y.isLt
theorem cmpI_lt (x y : Int) : decide (cmpI x y < 0) = decide (x < y) := by
  unfold cmpI
  repeat' split
  all_goals simp
  all_goals omega

set_option maxHeartbeats 4000000 in
set_option maxRecDepth 100000 in
theorem sortStable_s (m hb ho hc blk off cap n : Nat) (hm : m + 1 < 1000) (E : Nat → Int) (d : Array (Fin (m + 1))) (w : World) (hE : Ends w hb ho (m + 1) E) (hlt : hb < w.heap.size) (hne : hb ≠ blk)
    (hH : Holds encF w blk off d) (hblk : blk < w.heap.size) (hd : Hid (d.size = n)) (hn : n < 1000) (hA : Asc (fun x : Fin (m + 1) => x.val) d 0 n) :
    Calls Tryz.prog 23 #[.slice (some ⟨blk, off, none⟩) n cap, .func (.func 24) #[.slice (some ⟨hb, ho, none⟩) (m + 1) hc] #[]] w fun e w' => e = .returned (.tuple #[]) ∧ ∃ d', PermIn 0 n d d' ∧ SortedIn (ltX (fun x : Fin (m + 1) => E x.val) (fun x => x.val)) 0 n d' ∧ SW encF w blk off d' w' := by
  have hc := stable_s (encF (m := m)) (fun x y => cmpI (E x.val) (E y.val)) (fun x : Fin (m + 1) => E x.val) (fun x => x.val) (fun x y => cmpI_lt _ _) (.slice (some ⟨hb, ho, none⟩) (m + 1) hc) blk off cap n d w (cmpB_byEnd m hb ho hc blk off d.size hm E w hE hlt hne) ⟨encF_one, hH, hblk⟩ hd hn hA
  have HC := Lib.hid hc
  clear hc hA hH hE
  go_enter Tryz.func23, Tryz.ntmps23
  go_wp2_with (go_at_call 45; refine HC.out.mono ?_; rintro e w' ⟨rfl, d', p1, p2, S⟩; refine Hid.out ?_)
  refine Lib.hid ?_
  have P1 := Lib.hid p1
  have P2 := Lib.hid p2
  have P3 : Aside _ := S
  clear p1 p2 S
  go_wp2_with fail
  go_end0
  exact ⟨rfl, d', P1.out, P2.out, P3.out⟩
end Go.Proofs.YtcibmhncdgoemaaGreatDoor
