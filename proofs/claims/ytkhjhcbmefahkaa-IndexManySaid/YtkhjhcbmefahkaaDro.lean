/-
  drop: a key is taken away below a node.
-/
import Derived.Test.YtkhjhcbmefahkaaLas
namespace Go.Proofs.Ytkhjhcbmefahkaa
open Go.RowKit Go.Mm Go.Lst

def DropPost (least most h : Nat) (t : MT h) (key : ByteArray) (w : World) (e : Ending) (w' : World) : Prop :=
  ∃ t' : MT h, e = .returned (retv (lget key (flat h t))) ∧ TAt w' h t' ∧ t'.b = t.b ∧ (foot h t').Nodup ∧ (∀ y ∈ foot h t', y ∈ foot h t ∨ w.heap.size ≤ y) ∧ Tch (· ∈ foot h t) w w' ∧
    flat h t' = ldrop key (flat h t) ∧ Shp least most h t' ∧ t'.ps.length ≤ t.ps.length ∧ t.ps.length ≤ t'.ps.length + 1

def DropOk (least most h : Nat) : Prop := ∀ (t : MT h) (w : World) (xb : Nat) (rv lv : Value) (key : ByteArray), TAt w h t → (foot h t).Nodup →
  Blk w xb [.int .i64 most, .int .i64 least, rv, lv] 64 → xb ∉ foot h t → Shp least most h t → (h ≠ 0 → 1 ≤ t.ps.length) → t.ps.length ≤ most → Srt (flat h t) →
  Calls Try.prog 32 #[.pointer (some ⟨xb, 0, none⟩), .pointer (some ⟨t.b, 0, none⟩), .string key] w (DropPost least most h t key w)

set_option maxHeartbeats 1000000 in
theorem drop_zero (least most : Nat) (hm : most ≤ 64) : DropOk least most 0 := by
  intro t w xb rv lv key ha hd hx hxn hsh h1 hlen hs
  obtain ⟨pv, kv, hn⟩ := NR.of_at ha
  have hNd : Nds w [NR.of t pv kv] := ⟨fun n h => by simp only [List.mem_singleton] at h; subst h; exact hn, by
    have := foot_NR t pv kv
    rw [ks_zero] at this
    simpa [this] using hd⟩
  obtain ⟨hb, hp, hk⟩ := hn
  have hk0 : (NR.of t pv kv).ptrs = [] := by simp [NR.of, ks_zero]
  rw [hk0] at hk
  obtain ⟨ka, kc, hke, _⟩ := hk.val
  have hbe : Blk w t.b [pv, .slice ka 0 kc] 62 := by
    have : kv = .slice ka 0 kc := hke
    rw [← this]; exact hb
  have hps : Srt t.ps := hs
  have hfind := find_any hbe (show Sl w 67 2 pv t.pb t.ps.length (encPs t.ps) from hp) (by omega) key hps
  have HF := Lib.hid hfind; have HB := Lib.hid hbe; have HP := Lib.hid (show Sl w 67 2 pv t.pb t.ps.length (encPs t.ps) from hp); have HN := Lib.hid hNd; have HA := Lib.hid ha; have HD := Lib.hid hd; have HKE := Lib.hid (show kv = .slice ka 0 kc from hke); have HS := Lib.hid hps
  clear hfind hbe hp hNd hb hk hke hk0 ha hd hx hxn hsh hs hps h1
  go_enter Try.func32, Try.ntmps32
  go_wp2_with fail
  refine HF.out.mono ?_
  rintro e w1 ⟨⟨A, C, hA, hC, ⟨m, h', rfl⟩ | ⟨h', rfl⟩⟩, ht⟩
  · have hpl : A.length < t.ps.length := by rw [h']; simp
    have hget : t.ps[A.length]? = some (key, m) := by rw [h']; simp
    obtain ⟨q, cap, sp, rfl, hqb, hq, hql, hqc, hqn⟩ := HP.out.pos (by omega)
    have d1 := ((ht.get hq (fun h => h)).cell _).trans (encPs_get hget sp).2
    have c0 : w1.cell? ⟨t.b, 0, none⟩ = some (.slice (some ⟨q, 0, none⟩) t.ps.length cap) := (ht.get HB.out (fun h => h)).cell 0
    have hb1 := Lib.hid (ht.get HB.out (fun h => h))
    have hF1 := Lib.hid ((From.refl HN.out).quiet ht)
    have hdel := delP_any (HP.out.tch ht (fun _ _ h => h)) (by omega) A.length hpl (encPs_one t.ps)
    have HDL := Lib.hid hdel
    have HH := Lib.hid h'; have HA2 := Lib.hid hA; have HC2 := Lib.hid hC
    have hbp : t.b ∉ t.pb := by
      have := HD.out
      simp only [foot, List.nodup_cons, List.mem_append, not_or] at this
      exact this.1.1
    have q0 : (0 : Int) ≤ (A.length : Int) := by omega
    clear hA hC h' hget ht hq hql hqc hqb hdel
    go_wp2_with (go_at_call 30; refine (leaf_any _ _ _ _ _ _ hb1.out).mono ?_; rintro e w3 ⟨rfl, rfl⟩)
    refine HDL.out.mono ?_
    rintro e w4 ⟨v4, bl4, rfl, hs4, ht4, hn4⟩
    obtain ⟨a4, n4, rfl, _⟩ := hs4.val
    have hb4 := ht4.get hb1.out hbp
    have f0 : w4.cell? ⟨t.b, 0, none⟩ = some (.slice (some ⟨q, 0, none⟩) t.ps.length cap) := hb4.cell 0
    have f1 : w4.frozen? ⟨t.b, 0, none⟩ = false := hb4.frozen 0
    have hfin : Hid (DropPost least most 0 t key w (.returned (.tuple #[.int .i64 m, .bool true])) (w4.setCell ⟨t.b, 0, none⟩ (.slice a4 (t.ps.length - 1) n4))) := by
      have hlen2 : t.ps.length - 1 = (A ++ C).length := by rw [HH.out]; simp
      have hf := From.pairs (A := []) (C := []) (n := NR.of t (.slice (some ⟨q, 0, none⟩) t.ps.length cap) kv) hF1.out (w1 := w4) (ps := A ++ C) (v := .slice a4 (t.ps.length - 1) n4) (bl := bl4) (by
        rw [← hlen2]
        rw [HH.out, encPs_del A C (key, m) rfl] at hs4
        rw [HH.out]
        exact hs4) ht4 hn4
      have hfe : foot 0 t = ([NR.of t (.slice (some ⟨q, 0, none⟩) t.ps.length cap) kv] : List NR).flatMap NR.bs := by simp [foot, NR.bs, NR.of]
      refine ⟨mk0 t.b bl4 (A ++ C) t.kb, ?_, ?_, rfl, ?_, ?_, ?_, ?_, trivial, ?_, ?_⟩
      · show _ = Ending.returned (retv (lget key t.ps))
        rw [HH.out, lget_here HA2.out]; rfl
      · have := (hf.1.1 { NR.of t (.slice (some ⟨q, 0, none⟩) t.ps.length cap) kv with pv := .slice a4 (t.ps.length - 1) n4, pb := bl4, ps := A ++ C } (by simp)).nd
        have e0 : t.ks.map (kptr 0) = [] := by rw [ks_zero]; rfl
        have h2 : NdAt (w4.setCell ⟨t.b, 0, none⟩ (.slice a4 (t.ps.length - 1) n4)) t.b bl4 (A ++ C) t.kb (t.ks.map (kptr 0)) := this
        rw [e0] at h2
        exact h2
      · have := hf.1.2
        simpa [foot, mk0, NR.bs, NR.of] using this
      · intro y hy
        have := hf.2.2 y (by simpa [foot, mk0, NR.bs, NR.of] using hy)
        rw [hfe]; exact this
      · rw [hfe]; exact hf.2.1
      · show A ++ C = ldrop key t.ps
        rw [HH.out, ldrop_here HA2.out HC2.out]
      · show (A ++ C).length ≤ t.ps.length
        omega
      · show t.ps.length ≤ (A ++ C).length + 1
        omega
    clear hs4 ht4 hn4 hb4
    go_wp2_with fail
    go_ret2
    exact hfin.out
  · have hb1 := Lib.hid (ht.get HB.out (fun h => h))
    have hfin : Hid (DropPost least most 0 t key w (.returned (.tuple #[.int .i64 0, .bool false])) w1) := by
      refine ⟨t, ?_, TAt.tch ht _ _ HA.out (fun _ _ h => h), rfl, HD.out, fun y hy => .inl hy, ht.mono (fun _ _ h => h.elim), ?_, trivial, Nat.le_refl _, by omega⟩
      · show _ = Ending.returned (retv (lget key t.ps))
        rw [h', lget_append_left hA.ne, lget_none.2 hC.ne]; rfl
      · show t.ps = ldrop key t.ps
        rw [ldrop_id]
        rw [h']
        intro p hp
        rcases List.mem_append.1 hp with hp | hp
        · exact hA.ne p hp
        · exact hC.ne p hp
    clear hA hC h' ht
    go_wp2_with (go_at_call 30; refine (leaf_any _ _ _ _ _ _ hb1.out).mono ?_; rintro e w3 ⟨rfl, rfl⟩)
    go_ret2
    exact hfin.out

set_option maxRecDepth 100000 in
set_option maxHeartbeats 1000000 in
theorem drop_in {least most h : Nat} (hlm : 2 * least ≤ most) (hm : most ≤ 64) (ih : DropOk least most h) {t : MT (h + 1)} {w : World} (xb : Nat) (rv lv : Value) (key : ByteArray) {A C : List Pair} {K1 : List (MT h)} {kid : MT h} {K2 : List (MT h)}
    (I : InF least most h t w A C K1 kid K2) (hl1 : 1 ≤ least)
    (hx : Blk w xb [.int .i64 most, .int .i64 least, rv, lv] 64) (hxn : xb ∉ foot (h + 1) t) (h1 : 1 ≤ t.ps.length) (hlen : t.ps.length ≤ most) (hA : Blw A key) (hC : Abv C key) :
    Calls Try.prog 32 #[.pointer (some ⟨xb, 0, none⟩), .pointer (some ⟨t.b, 0, none⟩), .string key] w (DropPost least most (h + 1) t key w) := by
  have hsp := srt_node I.srt
  obtain ⟨pv, kv, hb, hp, hk⟩ := I.here.1
  have hfind := find_any hb hp (by omega) key hsp
  obtain ⟨hkl, hkm, hks⟩ := I.shp.2 kid I.mem
  have hptl := I.ptl
  obtain ⟨r, kc, ksp, rfl, hkb, hr, hrl, hrc, hrn⟩ := hk.pos (by omega)
  have hkc : w.cell? ⟨r, A.length, none⟩ = some (.pointer (some ⟨kid.b, 0, none⟩)) := by
    rw [hr.cell]
    exact encKs_get (by rw [I.kk, List.map_append, List.map_cons, List.getElem?_append_right (by rw [List.length_map, I.len]; omega), List.length_map, I.len]; simp) ksp
  have hxk : xb ∉ foot h kid := fun e => hxn (by rw [I.foot]; simp [e])
  have hrec := fun (w' : World) (ht : Tch (fun _ => False) w w') => ih kid w' xb rv lv key (TAt.tch ht h kid (I.here.2 kid I.mem) (fun _ _ h => h)) I.kid_nd (ht.get hx (fun h => h)) hxk hks (fun _ => by omega) hkm I.srt_kid
  have hAl : A.length ≤ t.ps.length := by rw [I.ps, List.length_append]; omega
  have hpz : ((((kids t).map (·.b)).length : Int) == 0) = false := by rw [hptl]; simp; omega
  have hA0 : (0 : Int) ≤ (A.length : Int) := by omega
  have hA1 : A.length < ((kids t).map (·.b)).length := by rw [hptl]; omega
  generalize hPL : ((kids t).map (·.b)).length = pl at *
  have HB := Lib.hid hb; have HF := Lib.hid hfind; have HR := Lib.hid hrec; have Hr := Lib.hid hr; have HX := Lib.hid hx
  have HA := Lib.hid hA; have HC := Lib.hid hC; have HI := Lib.hid I; have HXN := Lib.hid hxn
  clear hb hp hk hfind hrec hr hx hA hC hsp hks hptl hkb hrl hrc hxn hxk hPL I ih
  go_enter Try.func32, Try.ntmps32
  go_wp2_with fail
  refine HF.out.mono ?_
  rintro e w1 ⟨⟨A', C', hA', hC', ⟨m', h', rfl⟩ | ⟨h', rfl⟩⟩, ht⟩
  · exact (not_both (h'.symm.trans HI.out.ps) HA.out HC.out).elim
  · obtain ⟨rfl, rfl⟩ := same_split' (HI.out.ps.symm.trans h') HA.out HC.out hA' hC'
    have hb1 := ht.get HB.out (fun h => h)
    have c1 : w1.cell? ⟨t.b, 1, none⟩ = some (.slice (some ⟨r, 0, none⟩) pl kc) := hb1.cell 1
    have k1 : w1.cell? ⟨r, A.length, none⟩ = some (.pointer (some ⟨kid.b, 0, none⟩)) := (((ht.get Hr.out (fun h => h)).cell _).trans (Hr.out.cell _).symm).trans hkc
    have HT1 := Lib.hid ht; have HB1 := Lib.hid hb1
    clear ht hb1 h' hA' hC' hkc
    go_wp2_with (go_at_call 30; refine (leaf_any _ _ _ _ _ _ HB1.out).mono ?_; rintro e w3 ⟨rfl, rfl⟩)
    refine (HR.out _ HT1.out).mono ?_
    rintro e w2 ⟨kid', rfl, g1, g2, g3, g4, g5, g6, g7, g8, g9⟩
    obtain ⟨k1', k2', k3', k4'⟩ := swap_kid HI.out.kk (TAt.tch HT1.out _ _ HI.out.here (fun _ _ h => h)) HI.out.nd g5 g1 g2 g3 g4
    have hx2 := g5.get (HT1.out.get HX.out (fun h => h)) (fun e => HXN.out ((foot_kid HI.out.kk).mem_iff.2 (List.mem_append_left _ e)))
    obtain ⟨old, was, hret⟩ := retv_tuple (lget key (flat h kid))
    rw [hret]
    have hfill := fill_any hlm hm hx2 (d := mkT t.b t.pb t.ps t.kb (K1 ++ kid' :: K2)) (K1 := K1) (K2 := K2) (kid := kid') rfl k1' k2'
      (by show (K1 ++ kid' :: K2).length = t.ps.length + 1; rw [← HI.out.shp.1, HI.out.kk]; simp) h1 hlen (fun k hk => HI.out.shp.2 k (by rw [HI.out.kk]; simp only [List.mem_append, List.mem_cons] at hk ⊢; exact hk.imp id .inr))
      ⟨by omega, by omega, g7⟩
    rw [HI.out.len] at hfill
    have HFL := Lib.hid hfill; have HG6 := Lib.hid g6; have HK3 := Lib.hid k3'; have HK4 := Lib.hid k4'; have HRET := Lib.hid hret
    clear hfill g1 g2 g3 g4 g5 g6 g7 k1' k2' k3' k4' hx2 c1 k1 hret
    go_wp2_with fail
    refine HFL.out.mono ?_
    rintro e w3 ⟨⟨v, rfl⟩, d', m1, m2, m3, m4, m5, m6, m7, m8, m9⟩
    have hfin : Hid (DropPost least most (h + 1) t key w (.returned (.tuple #[.int .i64 old, .bool was])) w3) := by
      have hs12 := HK4.out.size
      have hs01 := HT1.out.size
      refine ⟨d', ?_, m1, m2, m3, fun y hy => ?_, ?_, ?_, m7, m8, m9⟩
      · rw [HI.out.flat, lget_mid (HI.out.blw HA.out) (HI.out.abv HC.out), HRET.out]
      · rcases m4 y hy with h | h
        · exact (HK3.out y h).imp id (fun h => by omega)
        · exact .inr (by omega)
      · refine ((HT1.out.mono (fun _ _ h => h.elim)).trans HK4.out (fun _ _ h => h)).trans m5 (fun y hy h => ?_)
        rcases HK3.out y h with h | h
        · exact h
        · omega
      · rw [m6, flat_one (d := mkT t.b t.pb t.ps t.kb (K1 ++ kid' :: K2)) (A := A) (C := C) (K1 := K1) (K2 := K2) (l := kid') rfl HI.out.ps HI.out.len, HG6.out, HI.out.flat, ldrop_mid (HI.out.blw HA.out) (HI.out.abv HC.out)]
    clear m1 m2 m3 m4 m5 m6 m7
    go_wp2_with fail
    go_ret2
    exact hfin.out

/-- a pair of a node is written over -/
theorem set_pair {h : Nat} {d : MT (h + 1)} {w : World} (ha : TAt w (h + 1) d) (hn : (foot (h + 1) d).Nodup) {i : Nat} (hi : i < d.ps.length) (p : Pair) {q cap : Nat} (hq : w.cell? ⟨d.b, 0, none⟩ = some (.slice (some ⟨q, 0, none⟩) d.ps.length cap)) :
    TAt ((w.setCell ⟨q, i * 2, none⟩ (.string p.1)).setCell ⟨q, i * 2 + 1, none⟩ (.int .i64 p.2)) (h + 1) (mkT d.b d.pb (d.ps.set i p) d.kb (kids d)) ∧
    Tch (· ∈ d.pb) w ((w.setCell ⟨q, i * 2, none⟩ (.string p.1)).setCell ⟨q, i * 2 + 1, none⟩ (.int .i64 p.2)) := by
  obtain ⟨⟨pv, kv, hb, hp, hk⟩, hks⟩ := ha
  have e := (hb.cell 0).symm.trans hq
  simp only [List.getElem?_cons_zero, Option.some.injEq] at e
  subst e
  obtain ⟨h1, ht⟩ := Sl.setp hp hi p
  simp only [foot, List.nodup_cons, List.mem_append, not_or, List.nodup_append] at hn
  refine ⟨⟨⟨_, kv, ht.get hb hn.1.1.1, ?_, hk.tch ht (fun y hy h => hn.2.1.2.2 y h y hy rfl)⟩, fun k hkm => TAt.tch ht h k (hks k hkm) (fun y hy h => hn.2.2.2 y (.inl h) y (List.mem_flatMap.2 ⟨k, hkm, hy⟩) rfl)⟩, ht⟩
  exact h1

set_option maxRecDepth 100000 in
set_option maxHeartbeats 1000000 in
theorem drop_here {least most h : Nat} (hlm : 2 * least ≤ most) (hm : most ≤ 64) (hlast : LastOk least most h) {t : MT (h + 1)} {w : World} (xb : Nat) (rv lv : Value) (key : ByteArray) {n : Int} {A C : List Pair} {K1 : List (MT h)} {kid : MT h} {K2 : List (MT h)}
    (I : InF least most h t w A ((key, n) :: C) K1 kid K2) (hl1 : 1 ≤ least)
    (hx : Blk w xb [.int .i64 most, .int .i64 least, rv, lv] 64) (hxn : xb ∉ foot (h + 1) t) (h1 : 1 ≤ t.ps.length) (hlen : t.ps.length ≤ most) (hA : Blw A key) :
    Calls Try.prog 32 #[.pointer (some ⟨xb, 0, none⟩), .pointer (some ⟨t.b, 0, none⟩), .string key] w (DropPost least most (h + 1) t key w) := by
  have hsp := srt_node I.srt
  obtain ⟨pv, kv, hb, hp, hk⟩ := I.here.1
  have hfind := find_any hb hp (by omega) key hsp
  obtain ⟨hkl, hkm, hks⟩ := I.shp.2 kid I.mem
  have hptl := I.ptl
  obtain ⟨r, kc, ksp, rfl, hkb, hr, hrl, hrc, hrn⟩ := hk.pos (by omega)
  obtain ⟨q, pc, psp, rfl, hpb, hq, hql, hqc, hqn⟩ := hp.pos (by omega)
  have hkc : w.cell? ⟨r, A.length, none⟩ = some (.pointer (some ⟨kid.b, 0, none⟩)) := by
    rw [hr.cell]
    exact encKs_get (by rw [I.kk, List.map_append, List.map_cons, List.getElem?_append_right (by rw [List.length_map, I.len]; omega), List.length_map, I.len]; simp) ksp
  have hget : t.ps[A.length]? = some (key, n) := by rw [I.ps]; simp
  have hd1 : w.cell? ⟨q, A.length * 2 + 1, none⟩ = some (.int .i64 n) := (hq.cell _).trans (encPs_get hget psp).2
  have hd0 : w.cell? ⟨q, A.length * 2, none⟩ = some (.string key) := (hq.cell _).trans (encPs_get hget psp).1
  have hxk : xb ∉ foot h kid := fun e => hxn (by rw [I.foot]; simp [e])
  have hrec := fun (w' : World) (ht : Tch (fun _ => False) w w') => hlast kid w' xb rv lv (TAt.tch ht h kid (I.here.2 kid I.mem) (fun _ _ h => h)) I.kid_nd (ht.get hx (fun h => h)) hxk hks (by omega) hkm
  have hAl : A.length < t.ps.length := by rw [I.ps, List.length_append, List.length_cons]; omega
  have hpz : ((((kids t).map (·.b)).length : Int) == 0) = false := by rw [hptl]; simp; omega
  have hA0 : (0 : Int) ≤ (A.length : Int) := by omega
  have hA1 : A.length < ((kids t).map (·.b)).length := by rw [hptl]; omega
  generalize hPL : ((kids t).map (·.b)).length = pl at *
  have hbk := I.b_kid
  have hqk : q ∉ foot h kid := fun e => I.pb_kid (by rw [hpb]; simp) e
  have hrk : r ∉ foot h kid := fun e => I.kb_kid (by rw [hkb]; simp) e
  have HB := Lib.hid hb; have HF := Lib.hid hfind; have HR := Lib.hid hrec; have Hr := Lib.hid hr; have HX := Lib.hid hx; have HQ := Lib.hid hq
  have HA := Lib.hid hA; have HI := Lib.hid I; have HXN := Lib.hid hxn; have HBK := Lib.hid hbk; have HQK := Lib.hid hqk; have HRK := Lib.hid hrk; have HPB := Lib.hid hpb
  clear hb hp hk hfind hrec hr hx hA hsp hks hptl hkb hrl hrc hxn hxk hPL I hlast hget hq hql hqc hbk hqk hrk hpb
  go_enter Try.func32, Try.ntmps32
  go_wp2_with fail
  refine HF.out.mono ?_
  rintro e w1 ⟨⟨A', C', hA', hC', ⟨m', h', rfl⟩ | ⟨h', rfl⟩⟩, ht⟩
  · obtain ⟨rfl, rfl, rfl⟩ := same_split (HI.out.ps.symm.trans h') HA.out hA'
    have hb1 := ht.get HB.out (fun h => h)
    have hq1 := ht.get HQ.out (fun h => h)
    have c0 : w1.cell? ⟨t.b, 0, none⟩ = some (.slice (some ⟨q, 0, none⟩) t.ps.length pc) := hb1.cell 0
    have c1 : w1.cell? ⟨t.b, 1, none⟩ = some (.slice (some ⟨r, 0, none⟩) pl kc) := hb1.cell 1
    have k1 : w1.cell? ⟨r, A.length, none⟩ = some (.pointer (some ⟨kid.b, 0, none⟩)) := (((ht.get Hr.out (fun h => h)).cell _).trans (Hr.out.cell _).symm).trans hkc
    have d1 : w1.cell? ⟨q, A.length * 2 + 1, none⟩ = some (.int .i64 n) := ((hq1.cell _).trans (HQ.out.cell _).symm).trans hd1
    have HT1 := Lib.hid ht; have HB1 := Lib.hid hb1; have HC := Lib.hid hC'
    have hrec := HR.out _ (HT1.out.trans (Tch.drew (fun _ => False) w1) (fun _ _ h => h))
    have HREC := Lib.hid hrec
    have hr1 := ht.get Hr.out (fun h => h)
    have HQ1 := Lib.hid hq1; have Hr1 := Lib.hid hr1
    clear ht hb1 h' hA' hC' hkc hd1 hd0 hrec hq1 hr1
    go_wp2_with (go_at_call 30; refine (leaf_any _ _ _ _ _ _ HB1.out).mono ?_; rintro e w3 ⟨rfl, rfl⟩)
    have hks2 : (K1 ++ kid :: K2).length = t.ps.length + 1 := by rw [← HI.out.shp.1, HI.out.kk]
    have HPOST : ∀ e w2, LastPost least most h kid w1.drew e w2 → ∃ (p : Pair), e = .returned (.agg #[.string p.1, .int .i64 p.2]) ∧
        w2.cell? ⟨t.b, 0, none⟩ = some (.slice (some ⟨q, 0, none⟩) t.ps.length pc) ∧ w2.cell? ⟨q, A.length * 2, none⟩ = some (.string key) ∧ w2.cell? ⟨q, A.length * 2 + 1, none⟩ = some (.int .i64 n) ∧ w2.frozen? ⟨q, A.length * 2, none⟩ = false ∧ w2.frozen? ⟨q, A.length * 2 + 1, none⟩ = false ∧
        Hid (Calls Try.prog 45 #[.pointer (some ⟨xb, 0, none⟩), .pointer (some ⟨t.b, 0, none⟩), .int .i64 (A.length : Int)] ((w2.setCell ⟨q, A.length * 2, none⟩ (.string p.1)).setCell ⟨q, A.length * 2 + 1, none⟩ (.int .i64 p.2))
          (fun e w' => (∃ v, e = .returned v) ∧ DropPost least most (h + 1) t key w (.returned (.tuple #[.int .i64 n, .bool true])) w')) := by
      rintro e w2 ⟨p, kid', rfl, g1, g2, g3, g4, g5, g6, g7, g8, g9⟩
      have t01 : Tch (fun _ => False) w w1.drew := HT1.out.trans (Tch.drew (fun _ => False) w1) (fun _ _ h => h)
      obtain ⟨k1, k2, k3, k4⟩ := swap_kid HI.out.kk (TAt.tch t01 _ _ HI.out.here (fun _ _ h => h)) HI.out.nd g6 g2 g3 g4 g5
      have hb2 := g6.get (show Blk w1.drew t.b _ 62 from HB1.out) HBK.out
      have hq2 := g6.get (show Blk w1.drew q _ 67 from HQ1.out) HQK.out
      have hx2 := g6.get (t01.get HX.out (fun h => h)) (fun e => HXN.out ((foot_kid HI.out.kk).mem_iff.2 (List.mem_append_left _ e)))
      have hget : t.ps[A.length]? = some (key, n) := by rw [HI.out.ps]; simp
      obtain ⟨m1, m2⟩ := set_pair (i := A.length) k1 k2 hAl p (hb2.cell 0)
      have hxq : xb ∉ t.pb := fun e => HXN.out (by simp only [foot, List.mem_cons, List.mem_append]; exact .inr (.inl (.inl e)))
      have hset : t.ps.set A.length p = A ++ p :: C := by rw [HI.out.ps, List.set_append_right _ _ (by omega)]; simp
      have hlen2 : (t.ps.set A.length p).length = t.ps.length := by simp
      have hfill := fill_any hlm hm (m2.get hx2 hxq) (d := mkT t.b t.pb (t.ps.set A.length p) t.kb (K1 ++ kid' :: K2)) (K1 := K1) (K2 := K2) (kid := kid') rfl m1 k2
        (by show (K1 ++ kid' :: K2).length = (t.ps.set A.length p).length + 1; rw [hlen2, ← hks2]; simp) (by show 1 ≤ (t.ps.set A.length p).length; omega) (by show (t.ps.set A.length p).length ≤ most; omega) (fun k hk => HI.out.shp.2 k (by rw [HI.out.kk]; simp only [List.mem_append, List.mem_cons] at hk ⊢; exact hk.imp id .inr))
        ⟨by have := (HI.out.shp.2 kid HI.out.mem).1; omega, by have := (HI.out.shp.2 kid HI.out.mem).2.1; omega, g7⟩
      rw [HI.out.len] at hfill
      refine ⟨p, rfl, hb2.cell 0, (hq2.cell _).trans (encPs_get hget psp).1, (hq2.cell _).trans (encPs_get hget psp).2, hq2.frozen _, hq2.frozen _, hfill.mono ?_⟩
      rintro e w' ⟨hv, d', n1, n2, n3, n4, n5, n6, n7, n8, n9⟩
      have s1 := t01.size
      have s2 := g6.size
      have s3 := m2.size
      have hfl := HI.out.flat
      have hsr := HI.out.srt
      rw [hfl, g1] at hsr
      have hwr : wr ((key, n) :: C) (K2.map (flat h)) = (key, n) :: weave C (K2.map (flat h)) := rfl
      rw [hwr] at hsr hfl
      have hs1 := Srt.append.1 hsr
      have hblw : Blw (wl A (K1.map (flat h)) ++ (flat h kid' ++ [p])) key := fun x hx => hs1.2.2 x hx (key, n) (by simp)
      have habv : Abv (weave C (K2.map (flat h))) key := fun x hx => (List.pairwise_cons.1 hs1.2.1).1 x hx
      refine ⟨hv, d', ?_, n1, n2, n3, fun y hy => ?_, ?_, ?_, n7, by rw [← hlen2]; exact n8, by rw [← hlen2]; exact n9⟩
      · rw [hfl, g1, lget_here hblw]; rfl
      · rcases n4 y hy with h | h
        · exact (k3 y h).imp id (fun h => by omega)
        · exact .inr (by omega)
      · refine (((t01.mono (fun _ _ h => h.elim)).trans k4 (fun _ _ h => h)).trans m2 (fun y _ h => by simp only [foot, List.mem_cons, List.mem_append]; exact .inr (.inl (.inl h)))).trans n5 (fun y hy h => ?_)
        rcases k3 y h with h | h
        · exact h
        · omega
      · rw [n6, hfl, g1, ldrop_here hblw habv, flat_one (d := mkT t.b t.pb (t.ps.set A.length p) t.kb (K1 ++ kid' :: K2)) (A := A) (C := p :: C) (K1 := K1) (K2 := K2) (l := kid') rfl hset HI.out.len]
        show _ ++ _ ++ (p :: weave C (K2.map (flat h))) = _
        simp
    have HPO := Lib.hid HPOST
    clear HPOST hks2
    go_wp2_with fail
    go_region_with (go_at_call 44; refine HREC.out.mono ?_; intro e w2 hp; obtain ⟨p, rfl, f0, f1, f2, f3, f4, HC45⟩ := HPO.out _ _ hp; clear hp)
    all_goals (
      go_wp2_with fail
      refine HC45.out.mono ?_
      rintro e w3 ⟨⟨v, rfl⟩, hpost⟩
      have hfin := Lib.hid hpost
      clear hpost
      go_wp2_with fail
      go_ret2
      exact hfin.out)
  · exact (not_both (HI.out.ps.symm.trans h') hA' hC').elim

theorem drop_ok {least most : Nat} (hl1 : 1 ≤ least) (hlm : 2 * least ≤ most) (hm : most ≤ 64) : ∀ h, DropOk least most h
  | 0 => drop_zero least most hm
  | h + 1 => by
    have ih := drop_ok hl1 hlm hm h
    intro t w xb rv lv key ha hd hx hxn hsh h1 hlen hs
    rcases split_exists key (srt_node hs) with ⟨A, m, C, hps, hA, hC⟩ | ⟨A, C, hps, hA, hC⟩
    · obtain ⟨K1, kid, K2, I⟩ := InF.mk' hps ha hd hsh hs
      exact drop_here hlm hm (last_ok hl1 hlm hm h) xb rv lv key I hl1 hx hxn (h1 (by omega)) hlen hA
    · obtain ⟨K1, kid, K2, I⟩ := InF.mk' hps ha hd hsh hs
      exact drop_in hlm hm ih xb rv lv key I hl1 hx hxn (h1 (by omega)) hlen hA hC
end Go.Proofs.Ytkhjhcbmefahkaa
