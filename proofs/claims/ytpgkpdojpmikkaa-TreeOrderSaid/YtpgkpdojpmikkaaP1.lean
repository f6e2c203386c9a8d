/-
  Plain facts about trees in lists: what a tree is; whatever is done to one, it stays one.
-/
import Derived.Test.YtpgkpdojpmikkaaC18
set_option linter.unusedVariables false
set_option linter.unusedSimpArgs false
set_option maxRecDepth 100000
namespace Go.Proofs.Ytpgkpdojpmikkaa.Eng
open Go Go.Proofs

/-- Depths: each at most one more than the one ahead. -/
def Dep (m : Int) : List B → Prop
  | [] => True
  | b :: r => 0 ≤ b.d ∧ b.d ≤ m ∧ Dep (b.d + 1) r
/-- How deep the next one may be. -/
def mo (m : Int) : List B → Int
  | [] => m
  | b :: r => mo (b.d + 1) r

theorem Dep.mono {m m' : Int} (h : m ≤ m') : ∀ {t : List B}, Dep m t → Dep m' t
  | [], _ => trivial
  | b :: r, ⟨h1, h2, h3⟩ => ⟨h1, by omega, h3⟩
theorem Dep.head {m m' : Int} : ∀ {t : List B}, Dep m t → (∀ b, t[0]? = some b → b.d ≤ m') → Dep m' t
  | [], _, _ => trivial
  | b :: r, ⟨h1, h2, h3⟩, h => ⟨h1, h b rfl, h3⟩
theorem Dep_app : ∀ {l r : List B} {m : Int}, Dep m (l ++ r) ↔ Dep m l ∧ Dep (mo m l) r
  | [], r, m => by simp [Dep, mo]
  | b :: l, r, m => by simp only [List.cons_append, Dep, mo, Dep_app (l := l), and_assoc]
theorem mo_pos : ∀ {t : List B} {m : Int}, 0 ≤ m → Dep m t → 0 ≤ mo m t
  | [], m, h, _ => h
  | b :: r, m, h, ⟨h1, h2, h3⟩ => by
    rw [mo]; exact mo_pos (t := r) (by omega) h3

theorem chkT_iff : ∀ {t : List B} {seen : List K} {m : Int}, chkT seen m t = true ↔ (∀ b, b ∈ t → b.k ∉ seen) ∧ (t.map (·.k)).Nodup ∧ (∀ b, b ∈ t → b.k.ok = true) ∧ Dep m t
  | [], seen, m => by simp [chkT, Dep]
  | b :: r, seen, m => by
    simp only [chkT, Bool.and_eq_true, decide_eq_true_eq, Bool.not_eq_true', decide_eq_false_iff_not, chkT_iff (t := r), List.mem_cons, List.map_cons, List.nodup_cons, Dep, List.mem_append, not_or, forall_eq_or_imp, List.mem_singleton, List.not_mem_nil, or_false]
    constructor
    · rintro ⟨⟨⟨⟨h1, h2⟩, h3⟩, h4⟩, h5, h6, h7, h8⟩
      refine ⟨⟨h1, fun c hc => (h5 c hc).1⟩, ⟨?_, h6⟩, ⟨h2, h7⟩, h3, h4, h8⟩
      intro hm
      obtain ⟨c, hc, e⟩ := List.mem_map.1 hm
      exact (h5 c hc).2 e
    · rintro ⟨⟨h1, h2⟩, ⟨h3, h4⟩, ⟨h5, h6⟩, h7, h8, h9⟩
      refine ⟨⟨⟨⟨h1, h5⟩, h7⟩, h8⟩, fun c hc => ⟨h2 c hc, fun e => h3 ?_⟩, h4, h6, h9⟩
      exact List.mem_map.2 ⟨c, hc, e⟩

theorem isT_iff {t : List B} : isT t = true ↔ t.length ≤ 512 ∧ (t.map (·.k)).Nodup ∧ (∀ b, b ∈ t → b.k.ok = true) ∧ Dep 0 t := by
  unfold isT
  rw [Bool.and_eq_true, decide_eq_true_eq, chkT_iff]
  simp

theorem at?_none_iff {t : List B} {k : K} : at? t k = none ↔ k ∉ t.map (·.k) := by
  unfold at?
  rw [List.findIdx?_eq_none_iff]
  simp only [beq_eq_false_iff_ne, List.mem_map, not_exists, not_and]

theorem at?_get {t : List B} {k : K} {i : Nat} (h : at? t k = some i) : ∃ b, t[i]? = some b ∧ b.k = k := by
  unfold at? at h
  rw [List.findIdx?_eq_some_iff_getElem] at h
  obtain ⟨h1, h2, _⟩ := h
  exact ⟨t[i], List.getElem?_eq_getElem h1, by simpa using h2⟩

theorem at?_nd {t : List B} (hn : (t.map (·.k)).Nodup) {i : Nat} {b : B} (hb : t[i]? = some b) : at? t b.k = some i := by
  refine at?_some hb rfl fun j c hj hc e => ?_
  obtain ⟨h1, h1'⟩ := List.getElem?_eq_some_iff.1 hb
  obtain ⟨h2, h2'⟩ := List.getElem?_eq_some_iff.1 hc
  have := (List.pairwise_iff_getElem.1 hn) j i (by simpa using h2) (by simpa using h1) hj
  simp [h1', h2', e] at this

theorem at?_iff {t : List B} (hn : (t.map (·.k)).Nodup) {k : K} {i : Nat} : at? t k = some i ↔ ∃ b, t[i]? = some b ∧ b.k = k :=
  ⟨at?_get, fun ⟨b, h, e⟩ => e ▸ at?_nd hn h⟩

theorem split_at {t : List B} {i : Nat} {b : B} (h : t[i]? = some b) : t = t.take i ++ b :: t.drop (i + 1) := by
  obtain ⟨hi, rfl⟩ := List.getElem?_eq_some_iff.1 h
  rw [← List.drop_eq_getElem_cons hi, List.take_append_drop]

theorem set_at {t : List B} {i : Nat} (h : i < t.length) (c : B) : t.set i c = t.take i ++ c :: t.drop (i + 1) := by
  rw [List.set_eq_take_append_cons_drop, if_pos h]

theorem isT_nil : isT [] = true := by decide

theorem isT_root {t : List B} (k : K) (h : isT t = true) : isT (rootS t k).1 = true := by
  unfold rootS
  split
  · rename_i hc
    simp only [Bool.and_eq_true] at hc
    unfold addS
    split
    · exact h
    · rename_i hk
      simp only [Option.not_isSome_iff_eq_none, at?_none_iff] at hk
      split
      · exact h
      · rw [isT_iff] at h ⊢
        obtain ⟨h1, h2, h3, h4⟩ := h
        simp only [List.take_length, List.drop_length, List.length_append, List.map_append, List.nodup_append, List.mem_append, Dep_app]
        refine ⟨by simp; omega, ⟨h2, by simp, ?_⟩, ?_, h4, ?_⟩
        · intro a ha b hb
          simp at hb
          subst hb
          rintro rfl
          exact hk ha
        · rintro b (hb | hb)
          · exact h3 b hb
          · simp at hb; subst hb; exact hc.2
        · exact ⟨Int.le_refl _, mo_pos (by omega) h4, trivial⟩
  · exact h

theorem isT_put {t : List B} {i : Nat} {p : B} {k : K} {m : Bool} (h : isT t = true) (hp : t[i]? = some p) (hk : k ∉ t.map (·.k)) (hok : k.ok = true) (hl : t.length < 512) :
    isT (t.take (i + 1) ++ ⟨k, p.d + 1, m⟩ :: t.drop (i + 1)) = true := by
  have hs := split_at hp
  have hi := (List.getElem?_eq_some_iff.1 hp).1
  have ht : t.take (i + 1) = t.take i ++ [p] := by rw [List.take_add_one, hp]; rfl
  rw [isT_iff] at h ⊢
  obtain ⟨h1, h2, h3, h4⟩ := h
  have hL : (t.take (i + 1) ++ ⟨k, p.d + 1, m⟩ :: t.drop (i + 1)).length = t.length + 1 := by simp; omega
  refine ⟨by omega, ?_, ?_, ?_⟩
  · have e : t = t.take (i + 1) ++ t.drop (i + 1) := (List.take_append_drop _ _).symm
    rw [e] at h2 hk
    simp only [List.map_append, List.map_cons, List.nodup_append, List.nodup_cons, List.mem_append, List.mem_cons, not_or] at h2 hk ⊢
    obtain ⟨n1, n2, n3⟩ := h2
    refine ⟨n1, ⟨hk.2, n2⟩, ?_⟩
    rintro a ha b (rfl | hb)
    · rintro rfl; exact hk.1 ha
    · exact n3 a ha b hb
  · intro b hb
    simp only [List.mem_append, List.mem_cons] at hb
    rcases hb with hb | rfl | hb
    · exact h3 b (List.mem_of_mem_take hb)
    · exact hok
    · exact h3 b (List.mem_of_mem_drop hb)
  · rw [ht]
    rw [hs] at h4
    simp only [List.append_assoc, List.cons_append, List.nil_append, Dep_app, Dep] at h4 ⊢
    obtain ⟨d1, d2, d3, d4⟩ := h4
    exact ⟨d1, d2, d3, by omega, by omega, d4.mono (by omega)⟩

theorem isT_ins {t : List B} (f k : K) (h : isT t = true) : isT (insS t f k).1 = true := by
  unfold insS
  split
  · rename_i hc
    simp only [Bool.and_eq_true] at hc
    split
    · exact h
    · rename_i i hi
      obtain ⟨p, hp, _⟩ := at?_get hi
      unfold addS
      split
      · exact h
      · rename_i hk
        simp only [Option.not_isSome_iff_eq_none, at?_none_iff] at hk
        split
        · exact h
        · rename_i hl
          rw [hp]
          exact isT_put h hp hk hc.2.2 (by omega)
  · exact h

theorem cnt0 {t : List B} {i : Nat} {p c : B} (hp : t[i]? = some p) (h : cnt t i = 0) (hc : t[i + 1]? = some c) : c.d ≤ p.d := by
  simp only [cnt, hp, cntD] at h
  obtain ⟨hi, rfl⟩ := List.getElem?_eq_some_iff.1 hc
  rw [List.drop_eq_getElem_cons hi, List.takeWhile_cons] at h
  split at h
  · simp at h
  · rename_i hd
    simp at hd
    exact hd

theorem isT_out {t : List B} {i : Nat} {p : B} (h : isT t = true) (hp : t[i]? = some p) (h0 : cnt t i = 0) : isT (t.take i ++ t.drop (i + 1)) = true := by
  have hs := split_at hp
  have hi := (List.getElem?_eq_some_iff.1 hp).1
  have h0' := fun c hc => cnt0 (c := c) hp h0 hc
  rw [isT_iff] at h ⊢
  obtain ⟨h1, h2, h3, h4⟩ := h
  have hsub : (t.take i ++ t.drop (i + 1)).Sublist t := by
    conv => rhs; rw [hs]
    exact List.Sublist.append (List.Sublist.refl _) (List.sublist_cons_self _ _)
  refine ⟨Nat.le_trans hsub.length_le h1, (hsub.map _).nodup h2, fun b hb => h3 b (hsub.subset hb), ?_⟩
  rw [hs] at h4
  simp only [Dep_app, Dep] at h4 ⊢
  obtain ⟨d1, d2, d3, d4⟩ := h4
  refine ⟨d1, d4.head fun b hb => ?_⟩
  have := h0' b (by rw [List.getElem?_drop] at hb; simpa using hb)
  omega

theorem isT_rem {t : List B} (k : K) (h : isT t = true) : isT (remS t k).1 = true := by
  unfold remS
  split
  · split
    · exact h
    · rename_i i hi
      obtain ⟨p, hp, _⟩ := at?_get hi
      split
      · exact h
      · exact isT_out h hp (by omega)
  · exact h

theorem isT_set {t : List B} {i : Nat} {p c : B} (h : isT t = true) (hp : t[i]? = some p) (hd : c.d = p.d) (hok : c.k.ok = true) (hk : c.k = p.k ∨ c.k ∉ t.map (·.k)) : isT (t.set i c) = true := by
  have hs := split_at hp
  have hi := (List.getElem?_eq_some_iff.1 hp).1
  rw [isT_iff] at h ⊢
  obtain ⟨h1, h2, h3, h4⟩ := h
  refine ⟨by simpa using h1, ?_, ?_, ?_⟩
  · rw [set_at hi]
    rcases hk with hk | hk
    · rw [hs] at h2
      simpa only [List.map_append, List.map_cons, hk] using h2
    · rw [hs] at h2 hk
      simp only [List.map_append, List.map_cons, List.nodup_append, List.nodup_cons, List.mem_append, List.mem_cons, not_or] at h2 hk ⊢
      obtain ⟨n1, ⟨n2, n3⟩, n4⟩ := h2
      refine ⟨n1, ⟨hk.2.2, n3⟩, ?_⟩
      rintro a ha b (rfl | hb)
      · rintro rfl; exact hk.1 ha
      · exact n4 a ha b (.inr hb)
  · intro b hb
    rcases List.mem_or_eq_of_mem_set hb with hb | rfl
    · exact h3 b hb
    · exact hok
  · rw [set_at hi]
    rw [hs] at h4
    simpa only [Dep_app, Dep, hd] using h4

theorem isT_mov {t : List B} (f k : K) (h : isT t = true) : isT (movS t f k).1 = true := by
  unfold movS
  split
  · rename_i hc
    simp only [Bool.and_eq_true] at hc
    split
    · exact h
    · rename_i i hi
      obtain ⟨p, hp, _⟩ := at?_get hi
      split
      · exact h
      · rename_i hk
        simp only [Option.not_isSome_iff_eq_none, at?_none_iff] at hk
        exact isT_set h hp (by simp [hp]) hc.2.2 (.inr hk)
  · exact h

theorem isT_mark {t : List B} (k : K) (on : Bool) (h : isT t = true) : isT (markS t k on).1 = true := by
  unfold markS
  split
  · rename_i hc
    simp only [Bool.and_eq_true] at hc
    split
    · exact h
    · rename_i i hi
      obtain ⟨p, hp, hk⟩ := at?_get hi
      refine isT_set h hp (by simp [hp]) ?_ (.inl (by simp [hp]))
      simp [hp, hk, hc.2]
  · exact h

theorem isT_model {t : List B} (x : Ac) (h : isT t = true) : isT (modelS t x).1 = true := by
  unfold modelS
  split
  · exact isT_root _ h
  · split
    · exact isT_ins _ _ h
    · split
      · exact isT_rem _ h
      · split
        · exact isT_mov _ _ h
        · exact isT_mark _ _ h

theorem isT_grown (l : List Ac) : isT (grownS l) = true := by
  have : ∀ (l : List Ac) (t : List B), isT t = true → isT (l.foldl (fun t x => (modelS t x).1) t) = true := by
    intro l
    induction l with
    | nil => intro t h; exact h
    | cons x l ih => intro t h; exact ih _ (isT_model x h)
  exact this l [] isT_nil

end Go.Proofs.Ytpgkpdojpmikkaa.Eng
