/- Plain arithmetic: primes by trial division, Euclid's lemma, Fermat's little theorem, and what was signed can be opened. No program in sight. -/
namespace Go.Proofs.Ytcpepjnmjiffcaa

/-- A number that trial division finds prime. -/
def isP (p : Nat) : Prop := 2 ≤ p ∧ ∀ d, 2 ≤ d → d * d ≤ p → p % d ≠ 0

theorem isP.dvd {p d : Nat} (h : isP p) (hd : d ∣ p) : d = 1 ∨ d = p := by
  obtain ⟨c, hc⟩ := hd
  have h2 := h.1
  by_cases d1 : d = 1
  · exact .inl d1
  · by_cases c1 : c = 1
    · exact .inr (by rw [hc, c1, Nat.mul_one])
    · exfalso
      have d0 : d ≠ 0 := by rintro rfl; simp at hc; omega
      have c0 : c ≠ 0 := by rintro rfl; simp at hc; omega
      rcases Nat.le_total d c with hdc | hcd
      · exact h.2 d (by omega) (by rw [hc]; exact Nat.mul_le_mul_left d hdc) (by rw [hc]; exact Nat.mul_mod_right d c)
      · exact h.2 c (by omega) (by rw [hc]; exact Nat.mul_le_mul_right c hcd) (by rw [hc]; exact Nat.mul_mod_left d c)
theorem isP.coprime {p a : Nat} (h : isP p) (ha : ¬ p ∣ a) : Nat.Coprime p a := by
  rcases h.dvd (Nat.gcd_dvd_left p a) with h1 | h1
  · exact h1
  · exact absurd (h1 ▸ Nat.gcd_dvd_right p a) ha
theorem isP.euclid {p a b : Nat} (h : isP p) (hd : p ∣ a * b) : p ∣ a ∨ p ∣ b := by
  by_cases ha : p ∣ a
  · exact .inl ha
  · exact .inr ((h.coprime ha).dvd_of_dvd_mul_left hd)

def prodL : List Nat → Nat
  | [] => 1
  | x :: l => x * prodL l
theorem prodL_perm {l l' : List Nat} (h : l.Perm l') : prodL l = prodL l' := by
  induction h with
  | nil => rfl
  | cons x _ ih => simp [prodL, ih]
  | swap x y l => simp only [prodL]; rw [← Nat.mul_assoc, ← Nat.mul_assoc, Nat.mul_comm y x]
  | trans _ _ h1 h2 => exact h1.trans h2
theorem perm_of {l l' : List Nat} (hn : l.Nodup) (hs : ∀ x ∈ l, x ∈ l') (hl : l'.length ≤ l.length) : l.Perm l' := by
  induction l generalizing l' with
  | nil => simp at hl; subst hl; exact .nil
  | cons a t ih =>
    have ha := hs a (by simp)
    obtain ⟨hat, ht⟩ := List.nodup_cons.1 hn
    have h1 : t.Perm (l'.erase a) := ih ht (fun x hx => (List.mem_erase_of_ne (by rintro rfl; exact hat hx)).2 (hs x (by simp [hx]))) (by
      rw [List.length_erase_of_mem ha]; simp at hl; omega)
    exact (h1.cons a).trans (List.perm_cons_erase ha).symm
theorem prodL_map (a p : Nat) (l : List Nat) : prodL (l.map fun x => a * x % p) % p = a ^ l.length * prodL l % p := by
  induction l with
  | nil => simp [prodL]
  | cons x l ih =>
    simp only [List.map_cons, prodL, List.length_cons]
    rw [Nat.mul_mod, Nat.mod_mod, ih, ← Nat.mul_mod]
    congr 1
    rw [Nat.pow_succ]
    simp only [Nat.mul_assoc, Nat.mul_left_comm, Nat.mul_comm]
theorem prodL_ndvd {p : Nat} (h : isP p) (l : List Nat) (hl : ∀ x ∈ l, ¬ p ∣ x) : ¬ p ∣ prodL l := by
  induction l with
  | nil => intro hd; have := Nat.dvd_one.1 hd; have := h.1; omega
  | cons x l ih =>
    intro hd
    rcases h.euclid hd with h1 | h1
    · exact hl x (by simp) h1
    · exact ih (fun y hy => hl y (by simp [hy])) h1
theorem not_dvd_lt {p x : Nat} (h0 : 0 < x) (h1 : x < p) : ¬ p ∣ x := fun h => by have := Nat.le_of_dvd h0 h; omega

theorem dvd_of_mod {a b m : Nat} (e : a % m = b % m) : m ∣ b - a := Nat.dvd_of_mod_eq_zero (Nat.sub_mod_eq_zero_of_mod_eq e.symm)

theorem fermat {p a : Nat} (h : isP p) (ha : ¬ p ∣ a) : a ^ (p - 1) % p = 1 := by
  have h2 := h.1
  let L := List.range' 1 (p - 1)
  have hL : ∀ x, x ∈ L ↔ 0 < x ∧ x < p := by intro x; simp [L, List.mem_range'_1]; omega
  have hnd : ∀ x ∈ L, ¬ p ∣ x := fun x hx => not_dvd_lt ((hL x).1 hx).1 ((hL x).1 hx).2
  have hlen : L.length = p - 1 := by simp [L]
  have hperm : (L.map fun x => a * x % p).Perm L := by
    refine perm_of ?_ (fun y hy => ?_) (by simp)
    · rw [List.nodup_iff_pairwise_ne, List.pairwise_map]
      have hpl : L.Pairwise (· < ·) := List.pairwise_lt_range'
      refine hpl.imp_of_mem ?_
      intro x y hx hy hxy e
      have hx' := (hL x).1 hx
      have hy' := (hL y).1 hy
      have hd : p ∣ a * (y - x) := by
        rw [Nat.mul_sub]
        exact dvd_of_mod e
      rcases h.euclid hd with h1 | h1
      · exact ha h1
      · exact not_dvd_lt (by omega) (by omega) h1
    · obtain ⟨x, hx, rfl⟩ := List.mem_map.1 hy
      refine (hL _).2 ⟨Nat.pos_of_ne_zero fun e => ?_, Nat.mod_lt _ (by omega)⟩
      rcases h.euclid (Nat.dvd_of_mod_eq_zero e) with h1 | h1
      · exact ha h1
      · exact hnd x hx h1
  have e := prodL_map a p L
  rw [prodL_perm hperm, hlen] at e
  have hF := prodL_ndvd h L hnd
  have hpos : 1 ≤ a ^ (p - 1) := Nat.pos_of_ne_zero fun e0 => by
    have : a = 0 := by
      rcases Nat.eq_zero_or_pos a with h0 | h0
      · exact h0
      · have := Nat.pow_pos (n := p - 1) h0; omega
    exact ha (this ▸ Nat.dvd_zero p)
  have hd : p ∣ (a ^ (p - 1) - 1) * prodL L := by
    rw [Nat.sub_mul, Nat.one_mul]
    exact dvd_of_mod e
  rcases h.euclid hd with h1 | h1
  · obtain ⟨c, hc⟩ := h1
    have : a ^ (p - 1) = 1 + p * c := by omega
    rw [this, Nat.add_mul_mod_self_left, Nat.mod_eq_of_lt (by omega)]
  · exact absurd h1 hF

theorem pow_mod_self {p a k : Nat} (h : isP p) : a ^ (1 + (p - 1) * k) % p = a % p := by
  by_cases ha : p ∣ a
  · have h0 : a % p = 0 := Nat.mod_eq_zero_of_dvd ha
    rw [Nat.pow_mod, h0, Nat.zero_pow (by omega), Nat.zero_mod]
  · rw [Nat.pow_add, Nat.pow_one, Nat.pow_mul, Nat.mul_mod, Nat.pow_mod, fermat h ha, Nat.one_pow, Nat.mul_mod_mod]
    rw [Nat.mul_one, Nat.mod_mod]

/-- What was raised to two exponents whose product is 1 modulo (p-1)(q-1) comes back, modulo p q. -/
theorem rsa {p q x s : Nat} (hp : isP p) (hq : isP q) (hne : p ≠ q) (hs : s % ((p - 1) * (q - 1)) = 1) (hx : x < p * q) : x ^ s % (p * q) = x := by
  have hs1 : s = 1 + (p - 1) * (q - 1) * (s / ((p - 1) * (q - 1))) := by
    have := Nat.mod_add_div s ((p - 1) * (q - 1)); omega
  have e1 : x ^ s % p = x % p := by
    rw [hs1, Nat.mul_assoc]; exact pow_mod_self hp
  have e2 : x ^ s % q = x % q := by
    rw [hs1, Nat.mul_comm (p - 1) (q - 1), Nat.mul_assoc]; exact pow_mod_self hq
  have hc : Nat.Coprime p q := hp.coprime (fun h => by
    rcases hq.dvd h with h1 | h1
    · have := hp.1; omega
    · exact hne h1)
  have hge : x ≤ x ^ s := by
    rcases Nat.eq_zero_or_pos x with h0 | h0
    · omega
    · have := Nat.pow_le_pow_right h0 (show 1 ≤ s by omega); simpa using this
  have hd : p * q ∣ x ^ s - x := hc.mul_dvd_of_dvd_of_dvd (dvd_of_mod e1.symm) (dvd_of_mod e2.symm)
  obtain ⟨c, hc⟩ := hd
  have : x ^ s = x + p * q * c := by omega
  rw [this, Nat.add_mul_mod_self_left, Nat.mod_eq_of_lt hx]

/-- Two products of two primes are one only if the primes are. -/
theorem primes_of_product {p q r t : Nat} (hp : isP p) (hr : isP r) (ht : isP t) (e : p * q = r * t) : (p = r ∧ q = t) ∨ (p = t ∧ q = r) := by
  have p2 := hp.1
  have h : p ∣ r * t := e ▸ Nat.dvd_mul_right p q
  have one : ∀ {u v : Nat}, isP u → isP v → u ∣ v → u = v := fun hu hv h => by
    rcases hv.dvd h with h1 | h1
    · have := hu.1; omega
    · exact h1
  rcases hp.euclid h with h1 | h1
  · have := one hp hr h1
    subst this
    exact .inl ⟨rfl, Nat.eq_of_mul_eq_mul_left (by omega) e⟩
  · have := one hp ht h1
    subst this
    rw [Nat.mul_comm r] at e
    exact .inr ⟨rfl, Nat.eq_of_mul_eq_mul_left (by omega) e⟩
end Go.Proofs.Ytcpepjnmjiffcaa
