/- Plain laws: kids as a list; a tree's flows by its shape alone; less kids, and kids in another order. -/
import Derived.Test.YtkafoeaffcbheaaVq2
import Derived.Test.YtkafoeaffcbheaaVk
namespace Go.Proofs.Ytkafoeaffcbheaa
set_option linter.unusedVariables false

def Fo.list : Fo → List (Int × Fo)
  | .nil => []
  | .cons v ks r => (v, ks) :: r.list
def Fo.of : List (Int × Fo) → Fo
  | [] => .nil
  | x :: l => .cons x.1 x.2 (Fo.of l)
theorem of_list : ∀ ks : Fo, Fo.of ks.list = ks
  | .nil => rfl
  | .cons _ _ r => by simp only [Fo.list, Fo.of, of_list r]
theorem list_of : ∀ l : List (Int × Fo), (Fo.of l).list = l
  | [] => rfl
  | x :: l => by simp only [Fo.list, Fo.of, list_of l]
theorem of_append : ∀ a b : List (Int × Fo), Fo.of (a ++ b) = (Fo.of a).app (Fo.of b)
  | [], _ => rfl
  | x :: a, b => by simp only [List.cons_append, Fo.of, Fo.app, of_append a b]
theorem len_list : ∀ ks : Fo, ks.list.length = ks.len
  | .nil => rfl
  | .cons _ _ r => by simp only [Fo.list, List.length_cons, Fo.len, len_list r]
theorem len_of (l : List (Int × Fo)) : (Fo.of l).len = l.length := by rw [← len_list, list_of]

/-- How many of the nodes below are told the outcome, in a shallow tree. -/
def Fo.cnt : Fo → Nat
  | .nil => 0
  | .cons v ks r => (if saysT v ks = 2 then 0 else 1) + (ks.cnt + r.cnt)
theorem toldL_count : ∀ (l : List (Int × Int × Fo)) (n : Nat), (toldL n l).length = l.countP told1
  | [], _ => rfl
  | x :: l, n => by
    simp only [toldL, List.length_append, toldL_count l (n + 1), List.countP_cons]
    split <;> simp <;> omega
theorem visits_count : ∀ (ks : Fo) (d : Int), 1 < d → (∀ x ∈ ks.visits d, x.1 ≤ 8) → (ks.visits d).countP told1 = ks.cnt
  | .nil, _, _, _ => rfl
  | .cons v ks r, d, h1, h => by
    have hd : ¬ 8 < d := by
      have := h (d, v, ks) (by simp [Fo.visits])
      simp only at this
      omega
    have e1 := visits_count ks (d + 1) (by omega) fun x hx => h x (by simp [Fo.visits, hd, hx])
    have e2 := visits_count r d h1 fun x hx => h x (by simp [Fo.visits, hx])
    simp only [Fo.visits, hd, if_false, List.countP_cons, List.countP_append, e1, e2, Fo.cnt, told1, h1, decide_true, Bool.true_and, bne_iff_ne, ne_eq]
    by_cases h2 : saysT v ks = 2 <;> simp [h2] <;> omega
theorem flows_eq {v : Int} {ks : Fo} (h : rightB v ks = true) : flowsT v ks = 2 * ks.size + 3 * ks.cnt := by
  have h8 : ¬ (8 : Int) < 1 := by omega
  have e : seen 1 v ks = (1, v, ks) :: ks.visits (1 + 1) := by unfold seen; rw [if_neg h8]
  have h1 := visits_count ks (1 + 1) (by omega) fun x hx => (right_all h x (by rw [e]; exact List.mem_cons_of_mem _ hx)).1
  have ht : told1 ((1 : Int), v, ks) = false := by simp [told1]
  unfold flowsT
  rw [toldL_count, e, List.countP_cons, h1, ht]
  simp
theorem cnt_app : ∀ a b : Fo, (a.app b).cnt = a.cnt + b.cnt
  | .nil, _ => by simp [Fo.app, Fo.cnt]
  | .cons _ _ r, b => by simp only [Fo.app, Fo.cnt, cnt_app r b]; omega
theorem cnt_zero : ∀ ks : Fo, (∀ y ∈ ks.votes, y = 2) → ks.cnt = 0
  | .nil, _ => rfl
  | .cons v ks r, h => by
    have h1 := cnt_zero ks fun y hy => h y (by simp [Fo.votes, hy])
    have h2 := cnt_zero r fun y hy => h y (by simp [Fo.votes, hy])
    have h3 : saysT v ks = 2 := by
      rw [saysT_votes, says3_two]
      intro y hy
      exact h y (by simp only [Fo.votes, List.mem_cons, List.mem_append]; rcases List.mem_cons.1 hy with rfl | hy; exact .inl rfl; exact .inr (.inl hy))
    simp [Fo.cnt, h1, h2, h3]
theorem okD_mono : ∀ (ks : Fo) (d e : Int), e ≤ d → ks.okD d = true → ks.okD e = true
  | .nil, _, _, _, _ => rfl
  | .cons v ks r, d, e, hde, h => by
    simp only [Fo.okD, Bool.and_eq_true, decide_eq_true_eq] at h ⊢
    exact ⟨⟨⟨by omega, h.1.1.2⟩, h.1.2⟩, okD_mono ks (d + 1) (e + 1) (by omega) h.2.1, okD_mono r d e hde h.2.2⟩

/-- A tree without one of its kids. -/
theorem less {v : Int} {a b k : Fo} {kv : Int} (h : rightB v (a.app (.cons kv k b)) = true) :
    rightB kv k = true ∧ rightB v (a.app b) = true ∧ flowsT v (a.app b) < flowsT v (a.app (.cons kv k b)) ∧
    (saysT kv k = 2 → (noT v (a.app (.cons kv k b)) = noT v (a.app b)) ∧ flowsT v (a.app (.cons kv k b)) = flowsT v (a.app b) + 2 * (k.size + 1)) := by
  obtain ⟨hs, h1, h3, hk⟩ := (right_iff _ _).1 h
  rw [size_app] at hs
  rw [okD_app] at hk
  simp only [Fo.size] at hs
  simp only [Fo.okD, Bool.and_eq_true, decide_eq_true_eq] at hk
  have r1 : rightB kv k = true := (right_iff _ _).2 ⟨by omega, by omega, by omega, okD_mono k (2 + 1) 2 (by omega) hk.2.2.1⟩
  have r2 : rightB v (a.app b) = true := (right_iff _ _).2 ⟨by rw [size_app]; omega, h1, h3, by rw [okD_app, hk.1, hk.2.2.2]; rfl⟩
  have e1 := flows_eq h
  have e2 := flows_eq r2
  rw [size_app, cnt_app] at e1 e2
  simp only [Fo.size, Fo.cnt] at e1
  refine ⟨r1, r2, by omega, fun h2 => ⟨?_, ?_⟩⟩
  · rw [saysT_votes, says3_two] at h2
    have h4 : (kv :: k.votes).any (fun x => x == 3) = false := by
      rw [List.any_eq_false]
      intro x hx
      have := h2 x hx
      simp [this]
    rw [noT_votes, noT_votes, votes_app, votes_app]
    simp only [List.any_cons, List.any_append, Fo.votes] at h4 ⊢
    rw [← Bool.or_assoc (kv == 3), h4]
    simp
  · have h5 : k.cnt = 0 := by
      rw [saysT_votes, says3_two] at h2
      exact cnt_zero k fun y hy => h2 y (List.mem_cons_of_mem _ hy)
    rw [h5, if_pos h2] at e1
    omega

theorem sum_perm {l l' : List Nat} (h : l.Perm l') : l.sum = l'.sum := by
  induction h with
  | nil => rfl
  | cons x _ ih => simp [ih]
  | swap x y l => simp only [List.sum_cons]; omega
  | trans _ _ h1 h2 => exact h1.trans h2
theorem size_list : ∀ ks : Fo, ks.size = (ks.list.map fun p => p.2.size + 1).sum
  | .nil => rfl
  | .cons v ks r => by simp only [Fo.size, Fo.list, List.map_cons, List.sum_cons, size_list r]; omega
theorem cnt_list : ∀ ks : Fo, ks.cnt = (ks.list.map fun p => (if saysT p.1 p.2 = 2 then 0 else 1) + p.2.cnt).sum
  | .nil => rfl
  | .cons v ks r => by simp only [Fo.cnt, Fo.list, List.map_cons, List.sum_cons, cnt_list r]; omega
theorem okD_list (d : Int) : ∀ ks : Fo, ks.okD d = ks.list.all fun p => (decide (d ≤ 8) && decide (1 ≤ p.1) && decide (p.1 ≤ 3)) && p.2.okD (d + 1)
  | .nil => rfl
  | .cons v ks r => by simp only [Fo.okD, Fo.list, List.all_cons, okD_list d r, Bool.and_assoc]
theorem bad_list : ∀ ks : Fo, badL ks.votes = ks.list.any fun p => badL (p.1 :: p.2.votes)
  | .nil => rfl
  | .cons v ks r => by simp only [Fo.votes, Fo.list, List.any_cons, bad_cons, bad_append, bad_list r, Bool.or_assoc]
theorem one_list : ∀ ks : Fo, oneL ks.votes = ks.list.any fun p => oneL (p.1 :: p.2.votes)
  | .nil => rfl
  | .cons v ks r => by simp only [Fo.votes, Fo.list, List.any_cons, one_cons, one_append, one_list r, Bool.or_assoc]
theorem all_perm {l l' : List (Int × Fo)} (f : Int × Fo → Bool) (h : l.Perm l') : l.all f = l'.all f := by
  rw [Bool.eq_iff_iff, List.all_eq_true, List.all_eq_true]
  exact ⟨fun k x hx => k x (h.mem_iff.2 hx), fun k x hx => k x (h.mem_iff.1 hx)⟩
theorem any_perm {l l' : List (Int × Fo)} (f : Int × Fo → Bool) (h : l.Perm l') : l.any f = l'.any f := by
  rw [Bool.eq_iff_iff, List.any_eq_true, List.any_eq_true]
  exact ⟨fun ⟨x, hx, k⟩ => ⟨x, h.mem_iff.1 hx, k⟩, fun ⟨x, hx, k⟩ => ⟨x, h.mem_iff.2 hx, k⟩⟩
/-- A tree with its kids in another order. -/
theorem order {v : Int} {ks us : Fo} (h : rightB v ks = true) (hp : us.list.Perm ks.list) : rightB v us = true ∧ saysT v us = saysT v ks ∧ flowsT v us = flowsT v ks := by
  obtain ⟨hs, h1, h3, hk⟩ := (right_iff _ _).1 h
  have s1 : us.size = ks.size := by rw [size_list, size_list]; exact sum_perm (hp.map _)
  have c1 : us.cnt = ks.cnt := by rw [cnt_list, cnt_list]; exact sum_perm (hp.map _)
  have r2 : rightB v us = true := (right_iff _ _).2 ⟨by rw [s1]; exact hs, h1, h3, by rw [okD_list, all_perm _ hp, ← okD_list]; exact hk⟩
  refine ⟨r2, ?_, ?_⟩
  · rw [saysT_votes, saysT_votes, says3_eq, says3_eq, bad_cons, bad_cons, one_cons, one_cons, bad_list, bad_list, one_list, one_list, any_perm _ hp, any_perm _ hp]
  · rw [flows_eq r2, flows_eq h, s1, c1]

/-- A list turned by r places. -/
def turned (l : List (Int × Fo)) (r : Nat) : List (Int × Fo) := l.drop r ++ l.take r
theorem turned_perm (l : List (Int × Fo)) (r : Nat) : (turned l r).Perm l := by
  unfold turned
  exact (List.perm_append_comm).trans (by rw [List.take_append_drop])
theorem turned_at {l : List (Int × Fo)} {t i : Nat} (hi : i < l.length) : (turned l (t % l.length))[i]? = l[(i + t) % l.length]? := by
  have hr : t % l.length < l.length := Nat.mod_lt _ (by omega)
  have hm : (i + t) % l.length = if i + t % l.length < l.length then i + t % l.length else i + t % l.length - l.length := by
    rw [Nat.add_mod, Nat.mod_eq_of_lt hi]
    split
    · exact Nat.mod_eq_of_lt (by assumption)
    · rw [Nat.mod_eq_sub_mod (by omega), Nat.mod_eq_of_lt (by omega)]
  unfold turned
  rw [hm]
  split
  · rw [List.getElem?_append_left (by simp; omega), List.getElem?_drop]
    congr 1
    omega
  · rw [List.getElem?_append_right (by simp; omega), List.getElem?_take]
    simp only [List.length_drop]
    rw [if_pos (by omega)]
    congr 1
    omega
theorem of_take {m : List (Int × Fo)} {i : Nat} {x : Int × Fo} (h : m[i]? = some x) : (Fo.of (m.take i)).app (.cons x.1 x.2 .nil) = Fo.of (m.take (i + 1)) := by
  rw [List.take_add_one, h]
  simp only [Option.toList, of_append]
  rfl

section
open Go.RowKit
/-- A kid's cells. -/
theorem KidsAt.get {w : World} {B : Nat} {A : Option Addr} : ∀ {ks : Fo} {i j : Nat}, KidsAt w B A i ks → j < ks.len →
    ∃ (v : Int) (k : Fo) (b off c : Nat) (A' : Option Addr), ks.list[j]? = some (v, k) ∧ A = some ⟨b, off, none⟩ ∧ b < B ∧ w.cell? ⟨b, off + (i + j) * 2, none⟩ = some (.int .i64 v) ∧
      w.cell? ⟨b, off + (i + j) * 2 + 1, none⟩ = some (.slice A' k.len c) ∧ k.len ≤ c ∧ c ≤ maxLen ∧ KidsAt w B A' 0 k
  | .nil, _, _, _, hj => by simp [Fo.len] at hj
  | .cons v ks r, i, 0, h, _ => by
    obtain ⟨⟨b, off, c, A', hA, hb, h0, h1, hl, hc, hk⟩, _⟩ := h
    exact ⟨v, ks, b, off, c, A', rfl, hA, hb, h0, h1, hl, hc, hk⟩
  | .cons v ks r, i, j + 1, h, hj => by
    obtain ⟨v', k, b, off, c, A', e, hA, hb, h0, h1, hl, hc, hk⟩ := KidsAt.get (j := j) h.2 (by simp only [Fo.len] at hj; omega)
    rw [show i + 1 + j = i + (j + 1) by omega] at h0 h1
    exact ⟨v', k, b, off, c, A', by simpa [Fo.list] using e, hA, hb, h0, h1, hl, hc, hk⟩
theorem RowOf.take {w : World} {B : Nat} : ∀ {ks : Fo} {xs : List Value} (j : Nat), RowOf w B ks xs → RowOf w B (Fo.of (ks.list.take j)) (xs.take (j * 2))
  | .nil, xs, j, h => by rw [show xs = [] from h]; simp [Fo.list, Fo.of, RowOf]
  | .cons v ks r, xs, 0, h => by simp [Fo.of, RowOf]
  | .cons v ks r, xs, j + 1, ⟨A', c, rest, hx, hl, hc, hk, hr⟩ => by
    have := hr.take j
    rw [hx, show (j + 1) * 2 = j * 2 + 1 + 1 by omega]
    exact ⟨A', c, rest.take (j * 2), by simp, hl, hc, hk, this⟩
theorem RowOf.drop {w : World} {B : Nat} : ∀ {ks : Fo} {xs : List Value} (j : Nat), RowOf w B ks xs → RowOf w B (Fo.of (ks.list.drop j)) (xs.drop (j * 2))
  | .nil, xs, j, h => by rw [show xs = [] from h]; simp [Fo.list, Fo.of, RowOf]
  | .cons v ks r, xs, 0, h => by simp only [List.drop_zero, of_list, Nat.zero_mul]; exact h
  | .cons v ks r, xs, j + 1, ⟨A', c, rest, hx, hl, hc, hk, hr⟩ => by
    have := hr.drop j
    rw [hx, show (j + 1) * 2 = j * 2 + 1 + 1 by omega]
    simpa [Fo.list] using this
theorem Reads.take {w : World} {B size n : Nat} {A : Option Addr} {xs : List Value} (h : Reads w B size A n xs) {k : Nat} (hk : k ≤ n) : Reads w B size A k (xs.take (k * size)) := by
  refine ⟨by rw [List.length_take, h.1, Nat.min_eq_left (Nat.mul_le_mul_right _ hk)], fun hn => ?_⟩
  obtain ⟨ad, rfl, hb, hcell⟩ := h.2 (by omega)
  refine ⟨ad, rfl, hb, fun j u hu => ?_⟩
  rw [List.getElem?_take] at hu
  split at hu
  · exact hcell j u hu
  · cases hu
end
end Go.Proofs.Ytkafoeaffcbheaa
