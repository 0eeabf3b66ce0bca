/- Sets that follow one another by steps: they come again, and soon if they are ever empty. -/
namespace Go.Proofs.YtmdaggnfgghnfaaDoor.Rho
set_option linter.unusedVariables false
set_option linter.unusedSimpArgs false

theorem nodup_le {α : Type} [DecidableEq α] : ∀ (l U : List α), l.Nodup → (∀ x ∈ l, x ∈ U) → l.length ≤ U.length
  | [], U, _, _ => Nat.zero_le _
  | a :: l, U, hn, hs => by
    have hn' := List.nodup_cons.1 hn
    have ha : a ∈ U := hs a List.mem_cons_self
    have := nodup_le l (U.erase a) hn'.2 (fun x hx => (List.mem_erase_of_ne (fun e => hn'.1 (by rw [← e]; exact hx))).2 (hs x (List.mem_cons_of_mem _ hx)))
    rw [List.length_erase_of_mem ha] at this
    have hp : 0 < U.length := List.length_pos_of_mem ha
    simp only [List.length_cons]
    omega
theorem nodup_map {α : Type} (f : Nat → α) (a n : Nat) (h : ∀ i j, i < j → j < n → f (a + i) ≠ f (a + j)) : ((List.range n).map fun i => f (a + i)).Nodup := by
  unfold List.Nodup
  rw [List.pairwise_map]
  refine List.Pairwise.imp_of_mem ?_ List.pairwise_lt_range
  intro i j _ hj hij
  exact h i j hij (List.mem_range.1 hj)
/-- The first that comes again. -/
theorem pigeon {α : Type} [DecidableEq α] (U : List α) (f : Nat → α) (h : ∀ i, i ≤ U.length → f i ∈ U) : ∃ i j, i < j ∧ j ≤ U.length ∧ f i = f j ∧ ∀ p q, p < q → q < j → f p ≠ f q := by
  have ex : ∃ j, j ≤ U.length ∧ ∃ i, i < j ∧ f i = f j := by
    apply Classical.byContradiction
    intro hno
    have := nodup_le ((List.range (U.length + 1)).map fun i => f (0 + i)) U (nodup_map f 0 _ fun i j hij hj e => hno ⟨j, by omega, i, hij, by simpa using e⟩) (by
      intro x hx
      obtain ⟨i, hi, rfl⟩ := List.mem_map.1 hx
      rw [Nat.zero_add]
      exact h i (by have := List.mem_range.1 hi; omega))
    simp at this
    omega
  have least : ∀ n, (∃ j, j ≤ n ∧ j ≤ U.length ∧ ∃ i, i < j ∧ f i = f j) → ∃ i j, i < j ∧ j ≤ U.length ∧ f i = f j ∧ ∀ p q, p < q → q < j → f p ≠ f q := by
    intro n
    induction n with
    | zero => rintro ⟨j, h1, _, i, h3, _⟩; omega
    | succ n ih =>
      rintro ⟨j, h1, h2, i, h3, h4⟩
      by_cases hs : ∃ j, j ≤ n ∧ j ≤ U.length ∧ ∃ i, i < j ∧ f i = f j
      · exact ih hs
      · exact ⟨i, j, h3, h2, h4, fun p q hp hq e => hs ⟨q, by omega, by omega, p, hp, e⟩⟩
  obtain ⟨j, h1, h2⟩ := ex
  exact least j ⟨j, Nat.le_refl _, h1, h2⟩

/-- One comes back to x by c steps. -/
def Closed {α : Type} (E : α → α → Prop) (x : α) (c : Nat) : Prop := ∃ g : Nat → α, g 0 = x ∧ g c = x ∧ ∀ i, i < c → E (g i) (g (i + 1))
theorem cube_le : ∀ c : Nat, c ^ 3 ≤ 3 ^ c
  | 0 => by decide
  | 1 => by decide
  | 2 => by decide
  | 3 => by decide
  | c + 4 => by
    have ih := cube_le (c + 3)
    have e : 3 ^ (c + 4) = 3 * 3 ^ (c + 3) := by rw [Nat.pow_succ]; exact Nat.mul_comm _ _
    rw [e]
    refine Nat.le_trans ?_ (Nat.mul_le_mul_left 3 ih)
    have p1 : (c + 4) ^ 3 = (c + 4) * (c + 4) * (c + 4) := by rw [Nat.pow_succ, Nat.pow_succ, Nat.pow_one]
    have p2 : (c + 3) ^ 3 = (c + 3) * (c + 3) * (c + 3) := by rw [Nat.pow_succ, Nat.pow_succ, Nat.pow_one]
    rw [p1, p2]
    have q1 : (c + 4) * (c + 4) = c * c + 8 * c + 16 := by rw [Nat.add_mul, Nat.mul_add]; omega
    have q2 : (c + 3) * (c + 3) = c * c + 6 * c + 9 := by rw [Nat.add_mul, Nat.mul_add]; omega
    rw [q1, q2]
    have r1 : (c * c + 8 * c + 16) * (c + 4) = c * c * c + 12 * (c * c) + 48 * c + 64 := by
      rw [Nat.add_mul, Nat.add_mul, Nat.mul_add, Nat.mul_add, Nat.mul_assoc 8 c c]; omega
    have r2 : (c * c + 6 * c + 9) * (c + 3) = c * c * c + 9 * (c * c) + 27 * c + 27 := by
      rw [Nat.add_mul, Nat.add_mul, Nat.mul_add, Nat.mul_add, Nat.mul_assoc 6 c c]; omega
    rw [r1, r2]
    omega
theorem filter_split {α : Type} (p : α → Bool) : ∀ U : List α, (U.filter p).length + (U.filter fun x => !p x).length = U.length
  | [] => rfl
  | a :: U => by
    have := filter_split p U
    cases h : p a <;> simp [List.filter_cons, h] <;> omega
theorem without_len {α : Type} [DecidableEq α] (U C : List α) (hn : C.Nodup) (hs : ∀ x ∈ C, x ∈ U) : (U.filter fun x => !decide (x ∈ C)).length + C.length ≤ U.length := by
  have h1 := filter_split (fun x => decide (x ∈ C)) U
  have h2 := nodup_le C (U.filter fun x => decide (x ∈ C)) hn (fun x hx => List.mem_filter.2 ⟨hs x hx, decide_eq_true hx⟩)
  omega
/-- A number of steps after which what a long walk meets has come back. -/
theorem common {α : Type} [DecidableEq α] {E : α → α → Prop} : ∀ (n : Nat) (U : List α), U.length = n → ∃ P, 1 ≤ P ∧ P ^ 3 ≤ 3 ^ U.length ∧ ∀ f : Nat → α, (∀ i, i ≤ U.length → f i ∈ U) → (∀ i, i < U.length → E (f i) (f (i + 1))) → ∃ m c, m ≤ U.length ∧ 1 ≤ c ∧ c ∣ P ∧ Closed E (f m) c := by
  intro n
  induction n using Nat.strongRecOn with
  | ind n ih =>
    intro U hU
    by_cases hw : ∃ f : Nat → α, (∀ i, i ≤ U.length → f i ∈ U) ∧ ∀ i, i < U.length → E (f i) (f (i + 1))
    · obtain ⟨f, hf, hE⟩ := hw
      obtain ⟨i, j, hij, hj, he, hd⟩ := pigeon U f hf
      obtain ⟨c, rfl⟩ : ∃ c, j = i + c := ⟨j - i, by omega⟩
      have hc : 1 ≤ c := by omega
      have hCn : ((List.range c).map fun t => f (i + t)).Nodup := nodup_map f i c fun p q hpq hq => hd (i + p) (i + q) (by omega) (by omega)
      have hCs : ∀ x ∈ (List.range c).map fun t => f (i + t), x ∈ U := by
        intro x hx
        obtain ⟨t, ht, rfl⟩ := List.mem_map.1 hx
        exact hf _ (by have := List.mem_range.1 ht; omega)
      have hclosed : ∀ x ∈ (List.range c).map fun t => f (i + t), Closed E x c := by
        intro x hx
        obtain ⟨t, ht, rfl⟩ := List.mem_map.1 hx
        have ht := List.mem_range.1 ht
        refine ⟨fun s => f (i + (t + s) % c), ?_, ?_, fun s hs => ?_⟩
        · show f (i + (t + 0) % c) = _
          rw [Nat.add_zero, Nat.mod_eq_of_lt ht]
        · show f (i + (t + c) % c) = _
          rw [Nat.add_mod_right, Nat.mod_eq_of_lt ht]
        · show E (f (i + (t + s) % c)) (f (i + (t + (s + 1)) % c))
          have hlt : (t + s) % c < c := Nat.mod_lt _ (by omega)
          by_cases hl : (t + s) % c + 1 < c
          · have : (t + (s + 1)) % c = (t + s) % c + 1 := by
              rw [← Nat.add_assoc, Nat.add_mod, Nat.mod_eq_of_lt (show 1 < c by omega), Nat.mod_eq_of_lt hl]
            rw [this]
            exact hE (i + (t + s) % c) (by omega)
          · have h1 : (t + s) % c + 1 = c := by omega
            have : (t + (s + 1)) % c = 0 := by
              have h2 := Nat.div_add_mod (t + s) c
              have h3 : t + (s + 1) = c * ((t + s) / c + 1) := by rw [Nat.mul_add]; omega
              rw [h3, Nat.mul_mod_right]
            rw [this, Nat.add_zero, he]
            have h4 := hE (i + (t + s) % c) (by omega)
            rwa [show i + (t + s) % c + 1 = i + c by omega] at h4
      have hlen := without_len U ((List.range c).map fun t => f (i + t)) hCn hCs
      rw [List.length_map, List.length_range] at hlen
      obtain ⟨P, hP1, hP3, hP⟩ := ih _ (by omega) (U.filter fun x => !decide (x ∈ (List.range c).map fun t => f (i + t))) rfl
      refine ⟨c * P, Nat.mul_le_mul hc hP1, ?_, fun f' hf' hE' => ?_⟩
      · rw [Nat.mul_pow]
        refine Nat.le_trans (Nat.mul_le_mul (cube_le c) hP3) ?_
        rw [← Nat.pow_add]
        exact Nat.pow_le_pow_right (by omega) (by omega)
      · by_cases hm : ∃ m, m ≤ U.length ∧ f' m ∈ (List.range c).map fun t => f (i + t)
        · obtain ⟨m, hm1, hm2⟩ := hm
          exact ⟨m, c, hm1, hc, Nat.dvd_mul_right _ _, hclosed _ hm2⟩
        · obtain ⟨m, c', h1, h2, h3, h4⟩ := hP f' (fun q hq => List.mem_filter.2 ⟨hf' q (by omega), by
            have : ¬ f' q ∈ (List.range c).map fun t => f (i + t) := fun h => hm ⟨q, by omega, h⟩
            simpa using this⟩) (fun q hq => hE' q (by omega))
          exact ⟨m, c', by omega, h2, Nat.dvd_trans h3 (Nat.dvd_mul_left _ _), h4⟩
    · exact ⟨1, Nat.le_refl _, by rw [Nat.one_pow]; exact Nat.pow_pos (by omega), fun f h1 h2 => absurd ⟨f, h1, h2⟩ hw⟩

/-! ### sets of steps -/
theorem back {α : Type} {E : α → α → Prop} {S : Nat → List α} (hS : ∀ d x, x ∈ S (d + 1) ↔ ∃ y, y ∈ S d ∧ E y x) : ∀ (d : Nat) (x : α), x ∈ S d → ∃ f : Nat → α, (∀ i, i ≤ d → f i ∈ S i) ∧ f d = x ∧ ∀ i, i < d → E (f i) (f (i + 1))
  | 0, x, hx => ⟨fun _ => x, fun i hi => by obtain rfl : i = 0 := by omega
                                            exact hx, rfl, fun i hi => by omega⟩
  | d + 1, x, hx => by
    obtain ⟨y, hy, hE⟩ := (hS d x).1 hx
    obtain ⟨f, h1, h2, h3⟩ := back hS d y hy
    refine ⟨fun i => if i ≤ d then f i else x, fun i hi => ?_, ?_, fun i hi => ?_⟩
    · show (if i ≤ d then f i else x) ∈ S i
      split
      · exact h1 i (by assumption)
      · obtain rfl : i = d + 1 := by omega
        exact hx
    · show (if d + 1 ≤ d then f (d + 1) else x) = x
      rw [if_neg (by omega)]
    · show E (if i ≤ d then f i else x) (if i + 1 ≤ d then f (i + 1) else x)
      rw [if_pos (by omega)]
      by_cases e : i = d
      · subst e
        rw [if_neg (by omega), h2]
        exact hE
      · rw [if_pos (by omega)]
        exact h3 i (by omega)
theorem fwd {α : Type} {E : α → α → Prop} {S : Nat → List α} (hS : ∀ d x, x ∈ S (d + 1) ↔ ∃ y, y ∈ S d ∧ E y x) {f : Nat → α} : ∀ (n t m : Nat), f m ∈ S t → (∀ i, m ≤ i → i < m + n → E (f i) (f (i + 1))) → f (m + n) ∈ S (t + n)
  | 0, t, m, h, _ => h
  | n + 1, t, m, h, hE => by
    have := fwd hS n t m h (fun i h1 h2 => hE i h1 (by omega))
    exact (hS (t + n) _).2 ⟨_, this, hE (m + n) (by omega) (by omega)⟩
theorem again {α : Type} {E : α → α → Prop} {S : Nat → List α} (hS : ∀ d x, x ∈ S (d + 1) ↔ ∃ y, y ∈ S d ∧ E y x) {x : α} {c t : Nat} (hx : x ∈ S t) (hc : Closed E x c) : ∀ q, x ∈ S (t + c * q)
  | 0 => by rw [Nat.mul_zero]; exact hx
  | q + 1 => by
    have ih := again hS hx hc q
    obtain ⟨g, g0, gc, gE⟩ := hc
    have := fwd hS (f := g) c (t + c * q) 0 (by rw [g0]; exact ih) (fun i _ hi => gE i (by omega))
    rw [Nat.zero_add, gc] at this
    rwa [Nat.mul_succ, ← Nat.add_assoc]
theorem none_later {α : Type} {E : α → α → Prop} {S : Nat → List α} (hS : ∀ d x, x ∈ S (d + 1) ↔ ∃ y, y ∈ S d ∧ E y x) {d : Nat} (h : ∀ x, ¬ x ∈ S d) : ∀ n x, ¬ x ∈ S (d + n)
  | 0, x => h x
  | n + 1, x => fun hx => by
    obtain ⟨y, hy, _⟩ := (hS (d + n) x).1 hx
    exact none_later hS h n y hy
/-- If the sets are ever empty, they are so soon. -/
theorem soon {α : Type} [DecidableEq α] {E : α → α → Prop} {S : Nat → List α} (hS : ∀ d x, x ∈ S (d + 1) ↔ ∃ y, y ∈ S d ∧ E y x) {V : List α} (hV : ∀ d x, x ∈ S d → x ∈ V) {d : Nat} (h : ∀ x, ¬ x ∈ S d) : ∀ x, ¬ x ∈ S V.length := by
  intro x hx
  obtain ⟨f, h1, h2, h3⟩ := back hS _ x hx
  obtain ⟨P, _, _, hP⟩ := common (E := E) V.length V rfl
  obtain ⟨m, c, hm, hc, _, hcl⟩ := hP f (fun i hi => hV i _ (h1 i hi)) h3
  have := again hS (h1 m hm) hcl d
  have hle : d ≤ m + c * d := by
    have := Nat.mul_le_mul_right d hc
    omega
  obtain ⟨n, hn⟩ : ∃ n, m + c * d = d + n := ⟨m + c * d - d, by omega⟩
  rw [hn] at this
  exact none_later hS h n _ this
theorem count_lt {α : Type} (p q : α → Bool) (hpq : ∀ x, p x = true → q x = true) : ∀ (U : List α), (∃ x, x ∈ U ∧ q x = true ∧ p x = false) → (U.filter p).length < (U.filter q).length
  | [], ⟨x, hx, _⟩ => by cases hx
  | a :: U, hex => by
    have hle : ∀ U : List α, (U.filter p).length ≤ (U.filter q).length := by
      intro U
      induction U with
      | nil => exact Nat.le_refl _
      | cons a U ih =>
        cases h : p a with
        | true => simp [List.filter_cons, h, hpq a h, ih]
        | false =>
          cases h2 : q a <;> simp [List.filter_cons, h, h2] <;> omega
    obtain ⟨x, hx, h1, h2⟩ := hex
    rcases List.mem_cons.1 hx with rfl | hx
    · have := hle U
      simp [List.filter_cons, h1, h2]
      omega
    · have := count_lt p q hpq U ⟨x, hx, h1, h2⟩
      cases h : p a with
      | true => simp [List.filter_cons, h, hpq a h, this]
      | false =>
        cases h3 : q a <;> simp [List.filter_cons, h, h3] <;> omega
/-- The sets come again. -/
theorem comes {α : Type} [DecidableEq α] {E : α → α → Prop} {S : Nat → List α} (hS : ∀ d x, x ∈ S (d + 1) ↔ ∃ y, y ∈ S d ∧ E y x) {V : List α} (hV : ∀ d x, x ∈ S d → x ∈ V) : ∃ a b P, a < b ∧ P ^ 3 ≤ 3 ^ V.length ∧ b ≤ V.length + (V.length + 1) * P ∧ ∀ x, x ∈ S a ↔ x ∈ S b := by
  obtain ⟨P, hP1, hP3, hP⟩ := common (E := E) V.length V rfl
  have shift : ∀ d, V.length ≤ d → ∀ x, x ∈ S d → x ∈ S (d + P) := by
    intro d hd x hx
    obtain ⟨f, h1, h2, h3⟩ := back hS d x hx
    obtain ⟨m, c, hm, hc, ⟨q, hq⟩, hcl⟩ := hP f (fun i hi => hV i _ (h1 i (by omega))) (fun i hi => h3 i (by omega))
    have h4 := again hS (h1 m (by omega)) hcl q
    rw [← hq] at h4
    have h5 := fwd hS (f := f) (d - m) (m + P) m h4 (fun i hi1 hi2 => h3 i (by omega))
    rw [show m + (d - m) = d by omega, h2, show m + P + (d - m) = d + P by omega] at h5
    exact h5
  have grow : ∀ i x, x ∈ S (V.length + i * P) → x ∈ S (V.length + (i + 1) * P) := by
    intro i x hx
    have := shift (V.length + i * P) (by omega) x hx
    rwa [Nat.add_assoc, ← Nat.succ_mul] at this
  have key : ∃ i, i ≤ V.length ∧ ∀ x, x ∈ S (V.length + (i + 1) * P) → x ∈ S (V.length + i * P) := by
    apply Classical.byContradiction
    intro hno
    have cnt : ∀ i, i ≤ V.length + 1 → i ≤ (V.filter fun x => decide (x ∈ S (V.length + i * P))).length := by
      intro i
      induction i with
      | zero => exact fun _ => Nat.zero_le _
      | succ i ih =>
        intro hi
        have h1 := ih (by omega)
        have h2 : ∃ x, x ∈ S (V.length + (i + 1) * P) ∧ ¬ x ∈ S (V.length + i * P) := by
          apply Classical.byContradiction
          intro hn
          exact hno ⟨i, by omega, fun x hx => Classical.byContradiction fun hx' => hn ⟨x, hx, hx'⟩⟩
        obtain ⟨x, hx1, hx2⟩ := h2
        have := count_lt (fun x => decide (x ∈ S (V.length + i * P))) (fun x => decide (x ∈ S (V.length + (i + 1) * P))) (fun x hx => decide_eq_true (grow i x (of_decide_eq_true hx))) V ⟨x, hV _ x hx1, decide_eq_true hx1, decide_eq_false hx2⟩
        omega
    have h1 := cnt (V.length + 1) (Nat.le_refl _)
    have h2 := List.length_filter_le (fun x => decide (x ∈ S (V.length + (V.length + 1) * P))) V
    omega
  obtain ⟨i, hi, h⟩ := key
  refine ⟨V.length + i * P, V.length + (i + 1) * P, P, ?_, hP3, ?_, fun x => ⟨grow i x, h x⟩⟩
  · rw [Nat.succ_mul]; omega
  · have := Nat.mul_le_mul_right P (show i + 1 ≤ V.length + 1 by omega)
    omega
end Go.Proofs.YtmdaggnfgghnfaaDoor.Rho
