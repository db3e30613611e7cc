/-
  Several nodes in memory, apart from one another; what a step on one of them leaves.
-/
import Derived.Test.YtkhjhcbmefahkaaPuts
namespace Go.Proofs.Ytkhjhcbmefahkaa
open Go.RowKit Go.Mm Go.Lst

/-- a node as it lies in memory -/
structure NR where
  b : Nat
  pv : Value
  kv : Value
  pb : List Nat
  kb : List Nat
  ps : List Pair
  ptrs : List Nat
def NR.bs (n : NR) : List Nat := n.b :: (n.pb ++ n.kb)
def NR.At (w : World) (n : NR) : Prop := Blk w n.b [n.pv, n.kv] 62 ∧ Sl w 67 2 n.pv n.pb n.ps.length (encPs n.ps) ∧ Sl w 58 1 n.kv n.kb n.ptrs.length (encKs n.ptrs)
def Nds (w : World) (ns : List NR) : Prop := (∀ n ∈ ns, n.At w) ∧ (ns.flatMap NR.bs).Nodup

theorem NR.At.tch {w w' : World} {n : NR} {S : Nat → Prop} (h : n.At w) (ht : Tch S w w') (hn : ∀ y ∈ n.bs, ¬ S y) : n.At w' :=
  ⟨ht.get h.1 (hn _ (by simp [NR.bs])), h.2.1.tch ht (fun y hy => hn y (by simp [NR.bs, hy])), h.2.2.tch ht (fun y hy => hn y (by simp [NR.bs, hy]))⟩
theorem NR.At.lt {w : World} {n : NR} (h : n.At w) : ∀ y ∈ n.bs, y < w.heap.size := by
  intro y hy
  simp only [NR.bs, List.mem_cons, List.mem_append] at hy
  rcases hy with rfl | hy | hy
  · exact h.1.lt
  · exact h.2.1.lt y hy
  · exact h.2.2.lt y hy
theorem NR.At.nd {w : World} {n : NR} (h : n.At w) : NdAt w n.b n.pb n.ps n.kb n.ptrs := ⟨n.pv, n.kv, h⟩
theorem Nds.lt {w : World} {ns : List NR} (h : Nds w ns) : ∀ y ∈ ns.flatMap NR.bs, y < w.heap.size := by
  intro y hy
  obtain ⟨n, hn, hy⟩ := List.mem_flatMap.1 hy
  exact (h.1 n hn).lt y hy
theorem Nds.tch {w w' : World} {ns : List NR} (h : Nds w ns) (ht : Tch (fun _ => False) w w') : Nds w' ns := ⟨fun n hn => (h.1 n hn).tch ht (fun _ _ h => h), h.2⟩

theorem Nds.mid {w : World} {A C : List NR} {n : NR} (h : Nds w (A ++ n :: C)) : n.At w := h.1 n (by simp)
theorem Nds.parts {w : World} {A C : List NR} {n : NR} (h : Nds w (A ++ n :: C)) :
    n.b ∉ n.pb ∧ n.b ∉ n.kb ∧ (∀ y ∈ n.pb, y ∉ n.kb) ∧ (∀ m ∈ A ++ C, ∀ y ∈ m.bs, y ∉ n.bs) := by
  have h2 := h.2
  rw [List.flatMap_append, List.flatMap_cons] at h2
  have hn : n.bs.Nodup := (List.nodup_append.1 (List.nodup_append.1 h2).2.1).1
  have hA := (List.nodup_append.1 h2).2.2
  have hC := (List.nodup_append.1 (List.nodup_append.1 h2).2.1).2.2
  simp only [NR.bs, List.nodup_cons, List.mem_append, not_or] at hn
  refine ⟨hn.1.1, hn.1.2, fun y h1 h2 => (List.nodup_append.1 hn.2).2.2 y h1 y h2 rfl, fun m hm y hy hy2 => ?_⟩
  rcases List.mem_append.1 hm with hm | hm
  · exact hA y (List.mem_flatMap.2 ⟨m, hm, hy⟩) y (List.mem_append.2 (.inl hy2)) rfl
  · exact hC y hy2 y (List.mem_flatMap.2 ⟨m, hm, hy⟩) rfl

theorem nodup_swap {A C old new : List Nat} {N : Nat} (h : (A ++ (old ++ C)).Nodup) (hlt : ∀ y ∈ A ++ (old ++ C), y < N) (hn : new.Nodup) (hs : ∀ y ∈ new, y ∈ old ∨ N ≤ y) : (A ++ (new ++ C)).Nodup := by
  simp only [List.nodup_append, List.mem_append] at *
  grind

/-- one node's record is laid anew -/
theorem Nds.swap {w w' : World} {A C : List NR} {n n' : NR} {S : Nat → Prop} (h : Nds w (A ++ n :: C)) (ht : Tch S w w') (hS : ∀ y, S y → y ∈ n.bs) (hn' : n'.At w') (hd : n'.bs.Nodup) (hs : ∀ y ∈ n'.bs, y ∈ n.bs ∨ w.heap.size ≤ y) :
    Nds w' (A ++ n' :: C) := by
  have hp := h.parts
  refine ⟨fun m hm => ?_, ?_⟩
  · rcases List.mem_append.1 hm with hm | hm
    · exact (h.1 m (by simp [hm])).tch ht (fun y hy hs => hp.2.2.2 m (by simp [hm]) y hy (hS y hs))
    · rcases List.mem_cons.1 hm with rfl | hm
      · exact hn'
      · exact (h.1 m (by simp [hm])).tch ht (fun y hy hs => hp.2.2.2 m (by simp [hm]) y hy (hS y hs))
  · have h2 := h.2
    have hlt := h.lt
    rw [List.flatMap_append, List.flatMap_cons] at h2 hlt ⊢
    exact nodup_swap h2 hlt hd hs

/-- a node gets new pairs: its slice is laid, then the node's cell is set -/
theorem Nds.pairs {w w1 : World} {A C : List NR} {n : NR} (h : Nds w (A ++ n :: C)) {v : Value} {bl : List Nat} {ps : List Pair} (hs : Sl w1 67 2 v bl ps.length (encPs ps)) (ht : Tch (· ∈ n.pb) w w1) (hb : ∀ y ∈ bl, y ∈ n.pb ∨ w.heap.size ≤ y) :
    Nds (w1.setCell ⟨n.b, 0, none⟩ v) (A ++ { n with pv := v, pb := bl, ps := ps } :: C) ∧ Tch (fun y => y = n.b ∨ y ∈ n.pb) w (w1.setCell ⟨n.b, 0, none⟩ v) := by
  have hp := h.parts
  have hn := h.mid
  have hlt := hn.lt
  have t2 : Tch (fun y => y = n.b ∨ y ∈ n.pb) w (w1.setCell ⟨n.b, 0, none⟩ v) := (ht.mono (fun _ _ h => .inr h)).trans (Tch.setCell (S := fun y => y = n.b ∨ y ∈ n.pb) w1 (a := ⟨n.b, 0, none⟩) (.inl rfl) v) (fun _ _ h => h)
  have hbl : n.b ∉ bl := fun hy => by
    rcases hb _ hy with h | h
    · exact hp.1 h
    · have := hn.1.lt; omega
  have hkl : ∀ y ∈ bl, y ∉ n.kb := fun y hy hk => by
    rcases hb _ hy with h | h
    · exact hp.2.2.1 y h hk
    · have := hn.2.2.lt y hk; omega
  refine ⟨h.swap t2 (fun y hy => by simp only [NR.bs, List.mem_cons, List.mem_append]; exact hy.imp id .inl) ⟨(ht.get hn.1 hp.1).setC 0 v, hs.tch (Tch.setCell (S := (· = n.b)) w1 (a := ⟨n.b, 0, none⟩) rfl v) (fun y hy e => hbl (e ▸ hy)), ?_⟩ ?_ ?_, t2⟩
  · exact hn.2.2.tch t2 (fun y hy e => by
      rcases e with rfl | e
      · exact hp.2.1 hy
      · exact hp.2.2.1 y e hy)
  · show (n.b :: (bl ++ n.kb)).Nodup
    rw [List.nodup_cons, List.nodup_append]
    refine ⟨by simp [hbl, hp.2.1], hs.nodup, hn.2.2.nodup, fun y hy z hz e => hkl y hy (e ▸ hz)⟩
  · intro y hy
    simp only [NR.bs, List.mem_cons, List.mem_append] at hy ⊢
    rcases hy with rfl | hy | hy
    · exact .inl (.inl rfl)
    · exact (hb y hy).imp (fun h => .inr (.inl h)) id
    · exact .inl (.inr (.inr hy))
/-- likewise its kids -/
theorem Nds.kids {w w1 : World} {A C : List NR} {n : NR} (h : Nds w (A ++ n :: C)) {v : Value} {bl : List Nat} {ptrs : List Nat} (hs : Sl w1 58 1 v bl ptrs.length (encKs ptrs)) (ht : Tch (· ∈ n.kb) w w1) (hb : ∀ y ∈ bl, y ∈ n.kb ∨ w.heap.size ≤ y) :
    Nds (w1.setCell ⟨n.b, 1, none⟩ v) (A ++ { n with kv := v, kb := bl, ptrs := ptrs } :: C) ∧ Tch (fun y => y = n.b ∨ y ∈ n.kb) w (w1.setCell ⟨n.b, 1, none⟩ v) := by
  have hp := h.parts
  have hn := h.mid
  have hlt := hn.lt
  have t2 : Tch (fun y => y = n.b ∨ y ∈ n.kb) w (w1.setCell ⟨n.b, 1, none⟩ v) := (ht.mono (fun _ _ h => .inr h)).trans (Tch.setCell (S := fun y => y = n.b ∨ y ∈ n.kb) w1 (a := ⟨n.b, 1, none⟩) (.inl rfl) v) (fun _ _ h => h)
  have hbl : n.b ∉ bl := fun hy => by
    rcases hb _ hy with h | h
    · exact hp.2.1 h
    · have := hn.1.lt; omega
  have hkl : ∀ y ∈ bl, y ∉ n.pb := fun y hy hk => by
    rcases hb _ hy with h | h
    · exact hp.2.2.1 y hk h
    · have := hn.2.1.lt y hk; omega
  refine ⟨h.swap t2 (fun y hy => by simp only [NR.bs, List.mem_cons, List.mem_append]; exact hy.imp id .inr) ⟨(ht.get hn.1 hp.2.1).setC 1 v, ?_, hs.tch (Tch.setCell (S := (· = n.b)) w1 (a := ⟨n.b, 1, none⟩) rfl v) (fun y hy e => hbl (e ▸ hy))⟩ ?_ ?_, t2⟩
  · exact hn.2.1.tch t2 (fun y hy e => by
      rcases e with rfl | e
      · exact hp.1 hy
      · exact hp.2.2.1 y hy e)
  · show (n.b :: (n.pb ++ bl)).Nodup
    rw [List.nodup_cons, List.nodup_append]
    refine ⟨by simp [hbl, hp.1], hn.2.1.nodup, hs.nodup, fun y hy z hz e => hkl z hz (e ▸ hy)⟩
  · intro y hy
    simp only [NR.bs, List.mem_cons, List.mem_append] at hy ⊢
    rcases hy with rfl | hy | hy
    · exact .inl (.inl rfl)
    · exact .inl (.inr (.inl hy))
    · exact (hb y hy).imp (fun h => .inr (.inr h)) id
/-- the pairs' own block is written -/
theorem Nds.inplace {w w1 : World} {A C : List NR} {n : NR} (h : Nds w (A ++ n :: C)) {ps : List Pair} (hs : Sl w1 67 2 n.pv n.pb ps.length (encPs ps)) (ht : Tch (· ∈ n.pb) w w1) :
    Nds w1 (A ++ { n with ps := ps } :: C) := by
  have hp := h.parts
  have hn := h.mid
  have h2 := h.2
  rw [List.flatMap_append, List.flatMap_cons] at h2
  refine h.swap ht (fun y hy => by simp [NR.bs, hy]) ⟨ht.get hn.1 hp.1, hs, hn.2.2.tch ht (fun y hy e => hp.2.2.1 y e hy)⟩ (List.nodup_append.1 (List.nodup_append.1 h2).2.1).1 (fun y hy => .inl hy)

/-- a slice cut at its end -/
theorem Sl.cutTo {w : World} {T k : Nat} {v : Value} {bl : List Nat} {n : Nat} {L : List Value} (h : Sl w T k v bl n L) (hn : 0 < n) (m : Nat) (hm : m ≤ n) : ∃ a cap, v = .slice a n cap ∧ Sl w T k (.slice a m cap) bl m (L.take (m * k)) := by
  obtain ⟨b, cap, sp, rfl, rfl, hb, hl, hc, hnc⟩ := h.pos hn
  have h1 : m * k ≤ n * k := Nat.mul_le_mul_right _ hm
  refine ⟨_, cap, rfl, .inr ⟨b, cap, L.drop (m * k) ++ sp, rfl, rfl, ?_, by rw [List.length_take]; omega, ?_, by omega⟩⟩
  · rw [← List.append_assoc, List.take_append_drop]; exact hb
  · rw [← List.append_assoc, List.take_append_drop]; exact hc

theorem encPs_set (x : Pair) : ∀ (ps : List Pair) (i : Nat) (sp : List Value), i < ps.length → ((encPs ps ++ sp).set (i * 2) (.string x.1)).set (i * 2 + 1) (.int .i64 x.2) = encPs (ps.set i x) ++ sp
  | [], i, _, h => by simp at h
  | p :: ps, 0, sp, _ => by simp [encPs_cons]
  | p :: ps, i + 1, sp, h => by
    have ih := encPs_set x ps i sp (by simpa using h)
    rw [List.set_cons_succ, encPs_cons, encPs_cons, show (i + 1) * 2 = i * 2 + 1 + 1 by omega]
    simp only [List.cons_append, List.set_cons_succ]
    rw [ih]

/-- a pair is written into a row of pairs -/
theorem Sl.setp {w : World} {q cap n i : Nat} {bl : List Nat} {ps : List Pair} (h : Sl w 67 2 (.slice (some ⟨q, 0, none⟩) n cap) bl ps.length (encPs ps)) (hi : i < ps.length) (x : Pair) :
    Sl ((w.setCell ⟨q, i * 2, none⟩ (.string x.1)).setCell ⟨q, i * 2 + 1, none⟩ (.int .i64 x.2)) 67 2 (.slice (some ⟨q, 0, none⟩) n cap) bl (ps.set i x).length (encPs (ps.set i x)) ∧
    Tch (· ∈ bl) w ((w.setCell ⟨q, i * 2, none⟩ (.string x.1)).setCell ⟨q, i * 2 + 1, none⟩ (.int .i64 x.2)) := by
  obtain ⟨q', cap', sp, he, rfl, hb, hl, hc, hnc⟩ := h.pos (by omega)
  cases he
  have hb2 := (hb.setC (i * 2) (.string x.1)).setC (i * 2 + 1) (.int .i64 x.2)
  rw [encPs_set x ps i sp hi] at hb2
  refine ⟨.inr ⟨q, cap, sp, by simp, rfl, hb2, by rw [encPs_length], ?_, by simpa using hnc⟩, (Tch.setCell _ (by simp) _).trans (Tch.setCell _ (by simp) _) (fun _ _ h => h)⟩
  rw [List.length_append, encPs_length, List.length_set, ← encPs_length, ← List.length_append]; exact hc

end Go.Proofs.Ytkhjhcbmefahkaa
