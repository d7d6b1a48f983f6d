/- A disk of the program: Complete. -/


import Derived.Test.YtcgdlmlolmfinaaDkOps
import Derived.Test.YtcgdlmlolmfinaaDkPlain
namespace Go.Proofs.Ytcgdlmlolmfinaa
open Go.RowKit Go.MapKept

def compS (s : DS) (k : Int) : Int × List UInt8 × Int × DS :=
  let s1 := callS s
  if s1.off = true then (0, [], 10, s1)
  else if k < 0 ∨ (s1.Q.length : Int) ≤ k then (0, [], 3, s1)
  else match s1.Q[k.toNat]? with
    | none => (0, [], 3, s1)
    | some q =>
      let s2 : DS := { s1 with Q := s1.Q.eraseIdx k.toNat }
      if q.kind = 1 then (q.id, [], 0, { s2 with W := updW s2.W q.n q.b })
      else if q.kind = 2 then (q.id, [], 0, { s2 with K := flushK s2.K s2.W, W := [] })
      else (q.id, (lookW s2.W q.n).getD (secN s2.K q.n.toNat), 0, s2)
section
variable {w w' : World} {base R M : Nat} {F S : List Nat} {kv wv : Value} {Wv : List (Int × Value × List UInt8)} {Qv : List RV} {s s' : DS}
theorem DkAt.cut (h : DkAt w base R M F kv wv Wv Qv s) {w1 : World} {v' : Value} {k m : Nat} (hn : Qv.length = k + 1 + m) (hr : w1.ownsRow base 100 4 v' (k + m) (wCells (Qv.take k ++ Qv.drop (k + 1)))) (hv : v'.ownBlock = wv.ownBlock) (hl : ∀ g, wv.ownBlock = some g → Left [g] w w1) :
    DkAt (w1.setCell ⟨R, 2, none⟩ v') base R M F kv v' Wv (Qv.take k ++ Qv.drop (k + 1)) { s with Q := s.Q.eraseIdx k } ∧ Left F w (w1.setCell ⟨R, 2, none⟩ v') ∧ Whole w1 R 68 [kv, .map (some M), wv, .int .i64 s.last, .bool s.off, .int .i64 s.lft, .bool s.armed] ∧ ∀ (v : Value) (n : Nat) (xs : List Value) (B : Nat), w.ownsRow B 5 1 v n xs → (w1.setCell ⟨R, 2, none⟩ v').ownsRow B 5 1 v n xs := by
  obtain ⟨b1, b2, b3, b4⟩ := h.blk
  obtain ⟨g, cap, rfl, hBg, hgl, _, _⟩ := own_form h.waits (by omega)
  have hlg := hl g rfl
  have hz3 := hlg.size
  have hl4 : Left [R] w1 (w1.setCell ⟨R, 2, none⟩ v') := (Left.refl _ _).setCell (Or.inl (by simp)) _
  have hz4 := hl4.size
  have hwt : Ty w g 100 := own_ty h.waits rfl
  have hRg : R ∉ [g] := by simp only [List.mem_singleton]; exact h.head.ty.ne hwt (by decide)
  have hW3 := h.head.left hlg hRg
  have hu8 : ∀ {v : Value} {n : Nat} {xs : List Value} {B : Nat}, w.ownsRow B 5 1 v n xs → (w1.setCell ⟨R, 2, none⟩ v').ownsRow B 5 1 v n xs := fun ho => by
    have h3 := own_leftB ho hlg (fun k hk e => by simp only [List.mem_singleton] at hk; subst hk; exact (own_ty ho e).ne hwt (by decide) rfl)
    exact own_leftB h3 hl4 (fun k hk e => by
      simp only [List.mem_singleton] at hk
      subst hk
      exact (hW3.ty.ne (own_ty h3 e) (by decide)) rfl)
  have hlen : (Qv.take k ++ Qv.drop (k + 1)).length = k + m := by rw [List.length_append, List.length_take, List.length_drop]; omega
  refine ⟨⟨hW3.put 2 v', hu8 h.kept, ?_, fun p hp => ?_, h.wval, ?_, fun p hp => ?_, ?_, by have := h.room; omega, ⟨b1, b2, b3, fun k hk => b4 k (hv ▸ hk)⟩, fun k hk => by have := h.lt k hk; omega, h.size, h.fuse⟩, ?_, hW3, fun v n xs B => hu8⟩
  · refine (h.map.left hlg (fun hm => ?_)).left hl4 (fun hm => ?_)
    · simp only [List.mem_singleton] at hm
      exact (h.map.noTy hwt) hm.symm
    · simp only [List.mem_singleton] at hm
      exact (h.map.noTy h.head.ty) hm.symm
  · obtain ⟨a, b, c, d⟩ := h.vals p hp
    exact ⟨hu8 a, b, c, d⟩
  · rw [hlen]
    exact own_leftB hr hl4 (fun k hk e => by
      simp only [List.mem_singleton] at hk
      subst hk
      exact (hW3.ty.ne (own_ty hr e) (by decide)) rfl)
  · have hp' : p ∈ Qv := by
      rcases List.mem_append.1 hp with hp | hp
      · exact List.mem_of_mem_take hp
      · exact List.mem_of_mem_drop hp
    obtain ⟨a, b, d⟩ := h.reqs p hp'
    exact ⟨hu8 a, b, d⟩
  · rw [← h.qval, List.eraseIdx_eq_take_drop_succ, List.map_append, List.map_take, List.map_drop]
  · exact (hlg.mono (T := F) (by simpa using b4 g rfl)).trans (hl4.mono (T := F) (by simpa using b1)) (fun k hk => .inl hk)
theorem set_eq_map {n : Int} {b : List UInt8} : ∀ {W : List (Int × List UInt8)} {j : Nat} {x : List UInt8}, (W.map (·.1)).Nodup → W[j]? = some (n, x) → W.set j (n, b) = W.map (fun p => if p.1 = n then (n, b) else p)
  | [], j, x, _, h => by simp at h
  | p :: W, j, x, hn, h => by
    rw [List.map_cons, List.nodup_cons] at hn
    cases j with
    | zero =>
      simp at h
      subst h
      rw [List.set_cons_zero, List.map_cons, if_pos rfl]
      congr 1
      symm
      exact (List.map_congr_left (g := id) (fun q hq => if_neg (fun e => hn.1 (List.mem_map.2 ⟨q, hq, e⟩)))).trans (List.map_id W)
    | succ j =>
      have hj : W[j]? = some (n, x) := by simpa using h
      rw [List.set_cons_succ, List.map_cons, set_eq_map hn.2 hj, if_neg (fun e => hn.1 (by rw [e]; exact List.mem_map.2 ⟨(n, x), List.mem_of_getElem? hj, rfl⟩))]
/-- A sector was written. -/
theorem DkAt.upd (h : DkAt w base R M F kv wv Wv Qv s) {w1 : World} {n : Int} {bv : Value} {b : List UInt8} (hx : w.ownsRow base 5 1 bv 64 (u8s b)) (hb : b.length = 64) (hn : secIn s.K n) (hF : ∀ k, bv.ownBlock = some k → k ∈ F ∧ kv.ownBlock ≠ some k) (hl : Left [M] w w1)
    (hc : (look (Wv.map fun p => (p.1, p.2.1)) n = none ∧ IMap w1 M ((Wv.map fun p => (p.1, p.2.1)) ++ [(n, bv)])) ∨ ∃ (j : Nat) (v0 : Value), (Wv.map fun p => (p.1, p.2.1))[j]? = some (n, v0) ∧ IMap w1 M ((Wv.map fun p => (p.1, p.2.1)).set j (n, bv))) :
    DkG w1 base R F { s with W := updW s.W n b } := by
  have hz := hl.size
  have hM : ∀ {v : Value} {m : Nat} {xs : List Value} {t : TypeId} {sz B : Nat}, w.ownsRow B t sz v m xs → w1.ownsRow B t sz v m xs := fun ho => own_leftB ho hl (fun k hk e => by
    simp only [List.mem_singleton] at hk
    exact (h.map.noTy (own_ty ho e)) hk)
  have hnd := h.map.nodup
  rw [List.map_map] at hnd
  have hnd2 : (s.W.map (·.1)).Nodup := by rw [← h.wval, List.map_map]; exact hnd
  have hR : R ∉ [M] := by simp only [List.mem_singleton]; exact h.map.noTy h.head.ty
  have mk : ∀ Wv' : List (Int × Value × List UInt8), IMap w1 M (Wv'.map fun p => (p.1, p.2.1)) → (∀ p ∈ Wv', p ∈ Wv ∨ p = (n, bv, b)) → Wv'.map (fun p => (p.1, p.2.2)) = updW s.W n b → DkG w1 base R F { s with W := updW s.W n b } := by
    intro Wv' h1 h2 h3
    refine ⟨M, kv, wv, Wv', Qv, h.head.left hl hR, hM h.kept, h1, fun p hp => ?_, h3, hM h.waits, fun q hq => ?_, h.qval, h.room, h.blk, fun k hk => by have := h.lt k hk; omega, h.size, h.fuse⟩
    · rcases h2 p hp with hp | rfl
      · obtain ⟨a, b, c, d⟩ := h.vals p hp
        exact ⟨hM a, b, c, d⟩
      · exact ⟨hM hx, hb, hn, hF⟩
    · obtain ⟨a, b, d⟩ := h.reqs q hq
      exact ⟨hM a, b, d⟩
  rcases hc with ⟨h1, h2⟩ | ⟨j, v0, h1, h2⟩
  · refine mk (Wv ++ [(n, bv, b)]) (by simpa using h2) (fun p hp => by simpa using hp) ?_
    have hno : lookW s.W n = none := by
      rw [lookW_none, ← h.wval]
      intro p hp
      obtain ⟨q, hq, rfl⟩ := List.mem_map.1 hp
      exact look_none h1 (q.1, q.2.1) (List.mem_map.2 ⟨q, hq, rfl⟩)
    unfold updW
    rw [hno, List.map_append, h.wval]
    rfl
  · rw [List.getElem?_map, Option.map_eq_some_iff] at h1
    obtain ⟨p, hp, hpe⟩ := h1
    have hpn : p.1 = n := congrArg Prod.fst hpe
    have hat : s.W[j]? = some (n, p.2.2) := by rw [← h.wval, List.getElem?_map, hp, ← hpn]; rfl
    refine mk (Wv.set j (n, bv, b)) (by rw [List.map_set]; exact h2) (fun q hq => ?_) ?_
    · exact List.mem_or_eq_of_mem_set hq
    · rw [List.map_set, h.wval, set_eq_map hnd2 hat]
      unfold updW
      rw [lookW_of_mem hnd2 (List.mem_of_getElem? hat)]
      rfl
/-- The kept bytes have turned. -/
theorem DkAt.setK (h : DkAt w base R M F kv wv Wv Qv s) {w1 : World} {g : Nat} {K' : List UInt8} (hg : kv.ownBlock = some g) (hl : Left [g] w w1) (hk : w1.ownsRow base 5 1 kv K'.length (u8s K')) (hlen : K'.length = s.K.length) : DkAt w1 base R M F kv wv Wv Qv { s with K := K' } := by
  have hz := hl.size
  have hgt : Ty w g 5 := own_ty h.kept hg
  have hsec : ∀ n, secIn s.K n → secIn K' n := fun n hn => by unfold secIn at hn ⊢; rw [hlen]; exact hn
  refine ⟨h.head.left hl (by simp only [List.mem_singleton]; exact h.head.ty.ne hgt (by decide)), hk, h.map.left hl (by simp only [List.mem_singleton]; exact fun e => (h.map.noTy hgt) e.symm), fun p hp => ?_, h.wval, own_leftB h.waits hl (fun k hk e => by simp only [List.mem_singleton] at hk; subst hk; exact (own_ty h.waits e).ne hgt (by decide) rfl), fun q hq => ?_, h.qval, h.room, h.blk, fun k hk => by have := h.lt k hk; omega, by rw [hlen]; exact h.size, h.fuse⟩
  · obtain ⟨a, b, c, d⟩ := h.vals p hp
    exact ⟨own_leftB a hl (fun k hk e => by simp only [List.mem_singleton] at hk; subst hk; exact (d k e).2 hg), b, hsec _ c, d⟩
  · obtain ⟨a, b, d⟩ := h.reqs q hq
    refine ⟨own_leftB a hl (fun k hk e => by simp only [List.mem_singleton] at hk; subst hk; exact (d k e).2 hg), ?_, d⟩
    rcases b with ⟨b1, b2⟩ | ⟨b1, b2, b3⟩ | b1
    · exact .inl ⟨b1, hsec _ b2⟩
    · exact .inr (.inl ⟨b1, hsec _ b2, b3⟩)
    · exact .inr (.inr b1)
/-- All that was written is forgotten. -/
theorem DkAt.clr (h : DkAt w base R M F kv wv Wv Qv s) {w1 : World} (hl : Left [M] w w1) (hm : IMap w1 M []) : DkG w1 base R F { s with W := [] } := by
  have hz := hl.size
  have hM : ∀ {v : Value} {m : Nat} {xs : List Value} {t : TypeId} {sz B : Nat}, w.ownsRow B t sz v m xs → w1.ownsRow B t sz v m xs := fun ho => own_leftB ho hl (fun k hk e => by
    simp only [List.mem_singleton] at hk
    exact (h.map.noTy (own_ty ho e)) hk)
  refine ⟨M, kv, wv, [], Qv, h.head.left hl (by simp only [List.mem_singleton]; exact h.map.noTy h.head.ty), hM h.kept, hm, (fun p hp => by simp at hp), rfl, hM h.waits, fun q hq => ?_, h.qval, h.room, h.blk, fun k hk => by have := h.lt k hk; omega, h.size, h.fuse⟩
  obtain ⟨a, b, d⟩ := h.reqs q hq
  exact ⟨hM a, b, d⟩
theorem look_pair {n : Int} (Wv : List (Int × Value × List UInt8)) : look (Wv.map fun p => (p.1, p.2.1)) n = (Wv.find? (fun p => p.1 == n)).map (·.2.1) ∧ lookW (Wv.map fun p => (p.1, p.2.2)) n = (Wv.find? (fun p => p.1 == n)).map (·.2.2) := by
  unfold look lookW
  rw [List.find?_map, List.find?_map]
  constructor
  · show Option.map _ (Option.map _ (Wv.find? _)) = _
    rw [Option.map_map]
    rfl
  · show Option.map _ (Option.map _ (Wv.find? _)) = _
    rw [Option.map_map]
    rfl
theorem zero_bs (w : World) : (zeroValue 33).run Try.prog w = .ok (.slice none 0 0) w := by kernel_rfl
def oldV (g cap n : Nat) : Value := .slice (some ⟨g, 64 * n, none⟩) 64 (cap - 64 * n)
set_option maxHeartbeats 400000 in
theorem old_g (h : DkAt w base R M F kv wv Wv Qv s) {g cap : Nat} (hkv : kv = .slice (some ⟨g, 0, none⟩) s.K.length cap) (n : Nat) (hn : 64 * n + 64 ≤ s.K.length) (hcap : s.K.length ≤ cap) (hcm : cap ≤ maxLen) :
    Calls Try.prog 60 #[.pointer (some ⟨R, 0, none⟩), .int .i64 n] w fun e w' => e = .returned (oldV g cap n) ∧ w = w' := by
  have c0 : w.cell? ⟨R, 0, none⟩ = some kv := by rw [h.head.cell]; rfl
  rw [hkv] at c0
  have hsz := h.size.2.2
  have q1 : IntKind.i64.wrap ((n : Int) * 64) = ((64 * n : Nat) : Int) := by rw [IntWalk.i64_in _ ⟨by omega, by omega⟩]; omega
  have q2 : IntKind.i64.wrap ((n : Int) + 1) = (n : Int) + 1 := IntWalk.i64_in _ ⟨by omega, by omega⟩
  have q3 : IntKind.i64.wrap (((n : Int) + 1) * 64) = ((64 * n + 64 : Nat) : Int) := by rw [IntWalk.i64_in _ ⟨by omega, by omega⟩]; omega
  unfold oldV
  obtain ⟨a, ha⟩ : ∃ a, 64 * n = a := ⟨_, rfl⟩
  rw [ha] at hn q1 q3 ⊢
  have hac : a + 64 ≤ cap := by omega
  have hcm2 : cap ≤ 9223372036854775807 := by unfold maxLen at hcm; omega
  have hne : ¬ cap = a := by omega
  have hd : a + 64 - a = 64 := by omega
  clear h hkv hcm ha hcap hn hsz
  go_enter Try.func60, Try.ntmps60
  go_wp2
  go_ret
  exact ⟨congrArg Ending.returned (show Value.slice (some ⟨g, a, none⟩) (a + 64 - a) (cap - a) = _ by rw [hd]), rfl⟩
theorem old_rd (h : DkAt w base R M F kv wv Wv Qv s) {g cap : Nat} (hkv : kv = .slice (some ⟨g, 0, none⟩) s.K.length cap) (n : Nat) (hn : 64 * n + 64 ≤ s.K.length) (hcap : s.K.length ≤ cap) (hcm : cap ≤ maxLen) : Rd w w.heap.size 1 (oldV g cap n) 64 (u8s (secN s.K n)) := by
  have hk := h.kept
  rw [hkv] at hk
  have hl : (secN s.K n).length = 64 := secN_length hn
  refine ⟨by rw [u8s_length, hl], _, _, rfl, by omega, by unfold maxLen at hcm ⊢; omega, (fun e => by cases e), fun _ => ⟨g, 64 * n, rfl, (hk.lt g rfl).2, fun j u hu => ?_⟩⟩
  have hj : j < 64 := by have := (List.getElem?_eq_some_iff.1 hu).1; rw [u8s_length, hl] at this; exact this
  have h1 := hk.cellAt (64 * n + j) (by rw [Nat.mul_one]; omega)
  rw [h1, ← hu]
  unfold u8s
  rw [List.getElem?_map, List.getElem?_map, secN_at j hj]
theorem sz_u8 : (Try.prog.info? 5).map (·.size) = some 1 := by kernel_rfl
def iterLeft (w : World) (r b : Nat) : Nat := match w.heap[r]?, w.heap[b]? with
  | some (.mapIter _ _ seen _), some (.map es _) => (leftOf es seen).size
  | _, _ => 0
theorem RIt.count {r b : Nat} {L lft : List (Int × Value)} (h : RIt w r b L lft) : iterLeft w r b = lft.length := by
  obtain ⟨es, clock, since, seen, c0, h1, h2, _, _, h5⟩ := h
  unfold iterLeft
  rw [h2, h1.1]
  have := congrArg List.length h5
  simpa using this
/-- Kept but for those that are still to come. -/
def Kpt (s : DS) (lft : List (Int × Value)) (Kc : List UInt8) : Prop := Kc.length = s.K.length ∧ ∀ n : Nat, 64 * n + 64 ≤ s.K.length → secN Kc n = if ((n : Nat) : Int) ∈ lft.map (·.1) then secN s.K n else (lookW s.W n).getD (secN s.K n)
theorem Kpt.start (h : DkAt w base R M F kv wv Wv Qv s) : Kpt s (Wv.map fun p => (p.1, p.2.1)) s.K := by
  refine ⟨rfl, fun n hn => ?_⟩
  split
  · rfl
  · rename_i hno
    have : lookW s.W (n : Nat) = none := by
      rw [lookW_none, ← h.wval]
      intro p hp e
      obtain ⟨q, hq, rfl⟩ := List.mem_map.1 hp
      refine hno ?_
      rw [List.map_map]
      exact List.mem_map.2 ⟨q, hq, e⟩
    rw [this]
    rfl
theorem Kpt.step {lft : List (Int × Value)} {Kc b : List UInt8} {n : Nat} (h : Kpt s lft Kc) (hn : 64 * n + 64 ≤ s.K.length) (hb : b.length = 64) (hl : lookW s.W (n : Nat) = some b) : Kpt s (lft.filter (fun q => q.1 != ((n : Nat) : Int))) (setSec Kc n b) := by
  obtain ⟨h1, h2⟩ := h
  have hn' : 64 * n + 64 ≤ Kc.length := by rw [h1]; exact hn
  refine ⟨by rw [setSec_length hn' hb, h1], fun m hm => ?_⟩
  by_cases e : m = n
  · subst e
    rw [secN_set hn' hb, if_neg (by simp), hl]
    rfl
  · rw [secN_other hn' hb e, h2 m hm]
    have hiff : ((m : Nat) : Int) ∈ (lft.filter (fun q => q.1 != ((n : Nat) : Int))).map (·.1) ↔ ((m : Nat) : Int) ∈ lft.map (·.1) := by
      simp only [List.mem_map, List.mem_filter]
      constructor
      · rintro ⟨q, ⟨hq, _⟩, e⟩
        exact ⟨q, hq, e⟩
      · rintro ⟨q, hq, e2⟩
        refine ⟨q, ⟨hq, ?_⟩, e2⟩
        rw [e2]
        simpa using fun h => e (by omega)
    by_cases hx : ((m : Nat) : Int) ∈ lft.map (·.1)
    · rw [if_pos hx, if_pos (hiff.2 hx)]
    · rw [if_neg hx, if_neg (fun h => hx (hiff.1 h))]
theorem Kpt.end_ {Kc : List UInt8} (h : Kpt s [] Kc) (h64 : s.K.length % 64 = 0) (hW : ∀ p ∈ s.W, p.2.length = 64) : Kc = flushK s.K s.W :=
  flushK_ext h64 hW h.1 (fun n hn => by have := h.2 n hn; rwa [if_neg (by simp)] at this)
/-- The block in which a row of bytes lies, as a whole. -/
theorem own_whole {g cap n : Nat} {K : List UInt8} (h : w.ownsRow base 5 1 (.slice (some ⟨g, 0, none⟩) n cap) n (u8s K)) : ∃ cur : List Value, Whole w g 5 cur ∧ n ≤ cur.length ∧
    ∀ (w' : World) (off : Nat) (b : List UInt8), off + b.length ≤ n → Whole w' g 5 (cur.take off ++ (u8s b ++ cur.drop (off + b.length))) → w'.ownsRow base 5 1 (.slice (some ⟨g, 0, none⟩) n cap) n (u8s (K.take off ++ (b ++ K.drop (off + b.length)))) := by
  have hlen := h.1
  rcases h.2 with ⟨h', _⟩ | ⟨g', cap', cur, h', hb, hg, hnc, hcm, hcs, htake⟩
  · cases h'
  · injection h' with e1 _ e3
    injection e1 with e1
    injection e1 with e1 _
    subst e1 e3
    have hKl : K.length = n := by rw [u8s_length] at hlen; omega
    have htk : cur.toList.take n = u8s K := by rw [← htake, Nat.mul_one]
    have hnl : n ≤ cur.toList.length := by rw [Array.length_toList, hcs]; omega
    refine ⟨cur.toList, by unfold Whole; rw [hg], hnl, fun w' off b hob hW => ?_⟩
    have hnew : (cur.toList.take off ++ (u8s b ++ cur.toList.drop (off + b.length))).length = cur.size := by
      rw [List.length_append, List.length_append, List.length_take, List.length_drop, u8s_length, Array.length_toList]
      rw [Array.length_toList] at hnl
      omega
    refine ⟨by rw [u8s_length, List.length_append, List.length_append, List.length_take, List.length_drop]; omega, .inr ⟨g, cap, (cur.toList.take off ++ (u8s b ++ cur.toList.drop (off + b.length))).toArray, rfl, hb, hW, hnc, hcm, by rw [List.size_toArray, hnew, hcs], ?_⟩⟩
    rw [Nat.mul_one]
    have e1 : cur.toList.take off = (u8s K).take off := by rw [← htk, List.take_take, Nat.min_eq_left (by omega)]
    have e2 : (cur.toList.drop (off + b.length)).take (n - (off + b.length)) = (u8s K).drop (off + b.length) := by rw [← htk, List.drop_take]
    show (cur.toList.take off ++ (u8s b ++ cur.toList.drop (off + b.length))).take n = _
    have hP : (cur.toList.take off ++ u8s b).length = off + b.length := by rw [List.length_append, List.length_take, u8s_length]; omega
    rw [← List.append_assoc, List.take_append, List.take_of_length_le (l := cur.toList.take off ++ u8s b) (by rw [hP]; exact hob), hP, List.append_assoc, e2, e1]
    unfold u8s
    rw [List.map_append, List.map_append, List.map_take, List.map_drop]
def CompP (w : World) (base R : Nat) (F : List Nat) (A : Int × List UInt8 × Int × DS) (e : Ending) (w' : World) : Prop :=
  ∃ v, e = .returned (.tuple #[.int .i64 A.1, v, .int .i64 A.2.2.1]) ∧ w'.ownsRow w.heap.size 5 1 v A.2.1.length (u8s A.2.1) ∧ ∃ F', DkG w' base R F' A.2.2.2 ∧ Left F w w' ∧ (∀ k ∈ F', k ∈ F) ∧ ∀ k, v.ownBlock = some k → k ∉ F'
set_option maxRecDepth 20000 in
set_option maxHeartbeats 4000000 in
theorem Complete_g (h : DkG w base R F s) (hz : base ≤ w.heap.size) (k : Int) :
    Calls Try.prog 46 #[.pointer (some ⟨R, 0, none⟩), .int .i64 k] w (CompP w base R F (compS s k)) := by
  obtain ⟨M, kv, wv, Wv, Qv, h⟩ := h
  obtain ⟨A, hA⟩ : ∃ A, compS s k = A := ⟨_, rfl⟩
  rw [hA]
  have HCALL := Lib.hid (call_at h)
  have HA := Lib.hid hA
  have hRF := h.blk.1
  have HFLT := Lib.hid (fun x (hx : x ∈ F) => (h.lt x hx).2)
  have k1 := callS_K (s := s)
  clear h hA
  go_enter Try.func46, Try.ntmps46
  go_wp2_with fail
  refine HCALL.out.mono ?_
  rintro e w1 ⟨rfl, hD1, hl1⟩
  have hA := HA.out
  unfold compS at hA
  cases hs1 : callS s with
  | mk K1 W1 Q1 last off lft armed =>
  rw [hs1] at hA hD1 k1
  dsimp only at hA k1
  obtain ⟨rfl, rfl, rfl, _, _⟩ := k1
  have HD1 := Lib.hid hD1
  have HL1 := Lib.hid hl1
  have hz1 := hl1.size
  clear hs1
  cases off
  · rw [if_neg (by decide)] at hA
    obtain ⟨wo, wc, rfl, hwc, hwm⟩ := (Rd.of_own hD1.waits).form
    have hql : s.Q.length = Qv.length := by rw [← hD1.qval]; simp
    have hroom := hD1.room
    have c2 : w1.cell? ⟨R, 2, none⟩ = some (.slice wo Qv.length wc) := by rw [hD1.head.cell]; rfl
    have hwm2 : wc ≤ 9223372036854775807 := by unfold maxLen at hwm; omega
    rw [hql] at hA
    by_cases hk0 : k < 0
    · rw [if_pos (.inl hk0)] at hA
      have HR2 := Lib.hid hA
      clear hD1 hl1 hA hwm hql
      go_wp2
      go_ret3
      rw [← HR2.out]
      exact ⟨.slice none 0 0, rfl, World.ownsRow_nil _ _ _ _, F, ⟨M, _, _, _, _, HD1.out⟩, HL1.out.mono (by simpa using hRF), fun k hk => hk, fun k hk => by cases hk⟩
    · by_cases hk1 : (Qv.length : Int) ≤ k
      · rw [if_pos (.inr hk1)] at hA
        have HR2 := Lib.hid hA
        clear hD1 hl1 hA hwm hql
        go_wp2
        go_ret3
        rw [← HR2.out]
        exact ⟨.slice none 0 0, rfl, World.ownsRow_nil _ _ _ _, F, ⟨M, _, _, _, _, HD1.out⟩, HL1.out.mono (by simpa using hRF), fun k hk => hk, fun k hk => by cases hk⟩
      · rw [if_neg (by omega)] at hA
        obtain ⟨j, rfl⟩ : ∃ j : Nat, k = j := ⟨k.toNat, by omega⟩
        rw [Int.toNat_natCast] at hA
        obtain ⟨q, hq⟩ : ∃ q, Qv[j]? = some q := ⟨_, List.getElem?_eq_getElem (by omega)⟩
        have hqs : s.Q[j]? = some q.1 := by rw [← hD1.qval, List.getElem?_map, hq]; rfl
        rw [hqs] at hA
        obtain ⟨m, hm⟩ : ∃ m, Qv.length = j + 1 + m := ⟨Qv.length - j - 1, by omega⟩
        obtain ⟨g, cap', hwv, hBg, hgl, _, _⟩ := own_form hD1.waits (by omega)
        injection hwv with e1 e2 e3
        subst e1 e3
        obtain ⟨x1, x2, x3, x4⟩ := wCells_at Qv j q hq
        have y0 : w1.cell? ⟨g, j * 4, none⟩ = some (.int .i64 q.1.id) := (hD1.waits.cellAt (j * 4) (by omega)).trans x1
        have y1 : w1.cell? ⟨g, j * 4 + 1, none⟩ = some (.int .i64 q.1.kind) := (hD1.waits.cellAt (j * 4 + 1) (by omega)).trans x2
        have y2 : w1.cell? ⟨g, j * 4 + 2, none⟩ = some (.int .i64 q.1.n) := (hD1.waits.cellAt (j * 4 + 2) (by omega)).trans x3
        have y3 : w1.cell? ⟨g, j * 4 + 3, none⟩ = some q.2 := (hD1.waits.cellAt (j * 4 + 3) (by omega)).trans x4
        obtain ⟨ho, hok, hqb⟩ := hD1.reqs q (List.mem_of_getElem? hq)
        obtain ⟨bo, bc, hbv, _, _⟩ := (Rd.of_own ho).form
        rw [hbv] at y3
        have HOO := Lib.hid ho
        have HA2 := Lib.hid hA
        have HOK := Lib.hid hok
        have HQB := Lib.hid hqb
        have HM := Lib.hid hm
        have HBV := Lib.hid hbv
        have HHQ := Lib.hid hq
        have HQQ := Lib.hid hqs
        have hjl : j < Qv.length := by omega
        obtain ⟨⟨id, kind, n, b⟩, qv⟩ := q
        dsimp only at y0 y1 y2 y3
        clear hA hD1 hl1 hwm hql x1 x2 x3 x4 ho hok hqb hbv hq hqs hm
        go_upto_region 6 with fail
        obtain ⟨w2, hw2⟩ : ∃ w2, w2 = w1.alloc (.cells #[.int .i64 id, .int .i64 kind, .int .i64 n, .slice bo b.length bc] 100) := ⟨_, rfl⟩
        have hl2 : Left [] w1 w2 := hw2 ▸ (Left.refl [] w1).alloc _
        have hB2 : Whole w2 w1.heap.size 100 [.int .i64 id, .int .i64 kind, .int .i64 n, .slice bo b.length bc] := hw2 ▸ Whole.new w1 100 [.int .i64 id, .int .i64 kind, .int .i64 n, .slice bo b.length bc]
        rw [← hw2]
        have hD2 := HD1.out.left hl2 (by simp)
        have hz2 := hl2.size
        have hone : One Qv := fun x hx => by obtain ⟨a, _, _⟩ := hD2.reqs x hx; obtain ⟨ao, cap, e, _⟩ := (Rd.of_own a).form; rw [e]; rfl
        have hdel := Delete_any w2 base _ Qv j m hD2.waits hone HM.out (by omega) (by omega)
        have HDEL := Lib.hid hdel
        have HD2 := Lib.hid hD2
        have HB2 := Lib.hid hB2
        have HO2 : Hid (w2.ownsRow base 5 1 (.slice bo b.length bc) b.length (u8s b)) := Lib.hid (by have := own_leftB HOO.out hl2 (by simp); rw [HBV.out] at this; exact this)
        have d2 : w2.cell? ⟨R, 2, none⟩ = some (.slice (some ⟨g, 0, none⟩) Qv.length wc) := by rw [hD2.head.cell]; rfl
        have hFb : w1.heap.size ∉ F := fun hm => by have := HD1.out.lt _ hm; omega
        have HL2 := Lib.hid ((HL1.out.mono (T := F) (by simpa using hRF)).trans (hl2.mono (T := F) (by simp)) (fun x hx => .inl hx))
        clear hw2 hl2 hB2 hD2 hone hdel y0 y1 y2 y3 c2
        go_wp2_with fail
        refine HDEL.out.mono ?_
        rintro e w3 ⟨v3, rfl, hr3, _, hv3, hl3⟩
        obtain ⟨ro, rc, rfl, _, _⟩ := (Rd.of_own hr3).form
        obtain ⟨hD4, hl4, hW3, hu84⟩ := HD2.out.cut HM.out hr3 hv3 hl3
        have f2 := hW3.free 2
        have d3 : w3.cell? ⟨R, 2, none⟩ = some (.slice (some ⟨g, 0, none⟩) Qv.length wc) := by rw [hW3.cell]; rfl
        clear hr3 hv3 hl3 hW3 d2
        go_upto_region 7 with fail
        obtain ⟨w4, hw4⟩ : ∃ w4, w4 = w3.setCell ⟨R, 2, none⟩ (.slice ro (j + m) rc) := ⟨_, rfl⟩
        rw [← hw4] at hD4 hl4 hu84 ⊢
        have HD4 := Lib.hid hD4
        have HB4 := Lib.hid (HB2.out.left hl4 hFb)
        have HL4 := Lib.hid (HL2.out.trans hl4 (fun x hx => .inl hx))
        have HX4 := Lib.hid (hu84 _ _ _ _ HO2.out)
        have b1 := HB4.out.cell 1
        have b2 := HB4.out.cell 2
        have b3 := HB4.out.cell 3
        have b0 := HB4.out.cell 0
        simp only [List.getElem?_cons_zero, List.getElem?_cons_succ] at b0 b1 b2 b3
        have m1 : w4.cell? ⟨R, 1, none⟩ = some (.map (some M)) := by rw [HD4.out.head.cell]; rfl
        have hz4 := HL4.out.size
        have HQE : Hid (s.Q.eraseIdx j = s.Q.eraseIdx j) := Lib.hid rfl
        clear hD4 hl4 hu84 hw4 f2 d3
        have hkk : kind = 0 ∨ kind = 1 ∨ kind = 2 := by
          rcases HOK.out with h | h | h
          · exact .inl h.1
          · exact .inr (.inl h.1)
          · exact .inr (.inr h)
        rcases hkk with rfl | rfl | rfl
        · have hok0 : secIn s.K n := by
            rcases HOK.out with h | h | h
            · exact h.2
            · cases h.1
            · cases h
          obtain ⟨nn, rfl⟩ : ∃ nn : Nat, n = nn := ⟨n.toNat, by have := hok0.1; omega⟩
          have hnn : 64 * nn + 64 ≤ s.K.length := by have := hok0.2; omega
          have hA2 := HA2.out
          (try dsimp only at hA2)
          rw [if_neg (by decide), if_neg (by decide)] at hA2
          obtain ⟨lp1, lp2⟩ := look_pair (n := (nn : Int)) Wv
          rw [HD4.out.wval] at lp2
          dsimp only at lp2
          rw [lp2] at hA2
          have HFB : Hid (∀ x ∈ F, x < w.heap.size) := Lib.hid (fun x hx => HFLT.out x hx)
          have HA3 := Lib.hid hA2
          have hmap : IMap w4 M (Wv.map fun p => (p.1, p.2.1)) := HD4.out.map
          have hrun := run_look_ok (P := Try.prog) (w := w4.drew) (t := 65) (show IMap w4.drew M _ from hmap) Try.underlying65 Try.underlying3 (zero_bs w4.drew) (nn : Int)
          rw [lp1] at hrun
          cases hf : Wv.find? (fun p => p.1 == (nn : Int)) with
          | none =>
            rw [hf] at hrun
            simp only [Option.map_none, Option.getD_none, Option.isSome_none] at hrun
            have HF0 := Lib.hid hf
            obtain ⟨kg, kc, hkv, _, _, hkc, hkm⟩ := HD4.out.keptForm
            have HOLD := Lib.hid (old_g (HD4.out.left ((Left.refl [] w4).drew.drew) (by simp)) hkv nn hnn hkc hkm)
            have hrdO := old_rd (HD4.out.left ((Left.refl [] w4).drew.drew) (by simp)) hkv nn hnn hkc hkm
            have hcl := Clone_any _ _ _ _ hrdO (u8s_one _) (by omega)
            have HCL := Lib.hid hcl
            clear lp1 lp2 hA2 hmap hf hkv hkm hrdO hcl
            go_upto_region 8 with fail
            refine wp_region_held_drew (S := fun wx => wx.cell? ⟨R, 1, none⟩ = some (.map (some M)) ∧ wx.cell? ⟨w1.heap.size, 2, none⟩ = some (.int .i64 (nn : Int))) (by kernel_rfl) ⟨m1, b2⟩ (fun hHeld => ?_)
            refine take_h 0 ⟨?_, ?_, ?_, by kernel_rfl, by kernel_rfl, by kernel_rfl, ?_, ?_, by assumption, ?_⟩
            rotate_left 2
            · (simp only [List.getElem?_toArray, List.getElem?_cons_zero]; exact rfl)
            · exact fun _ _ _ h => h
            · first
                | (refine Or.inr ⟨by rfl, ?_⟩; exact rfl)
                | (refine Or.inl ⟨by rfl, ?_⟩
                   intro w hSw
                   (try dsimp only at hSw)
                   (try go_split_ands)
                   go_simp
                   (first | done | with_reducible rfl))
            try simp only [Act.put, List.setIfInBounds_toArray, List.set_cons_zero, List.set_cons_succ]
            refine take_h 1 ⟨?_, ?_, ?_, by kernel_rfl, by kernel_rfl, by kernel_rfl, ?_, ?_, by assumption, ?_⟩
            rotate_left 2
            · (simp only [List.getElem?_toArray, List.getElem?_cons_succ, List.getElem?_cons_zero]; exact rfl)
            · exact fun _ _ _ h => h
            · first
                | (refine Or.inr ⟨by rfl, ?_⟩; exact rfl)
                | (refine Or.inl ⟨by rfl, ?_⟩
                   intro w hSw
                   (try dsimp only at hSw)
                   (try go_split_ands)
                   go_simp
                   (first | done | with_reducible rfl))
            try simp only [Act.put, List.setIfInBounds_toArray, List.set_cons_zero, List.set_cons_succ]
            refine take_h 2 ⟨?_, ?_, ?_, by kernel_rfl, by kernel_rfl, by kernel_rfl, ?_, ?_, by assumption, ?_⟩
            rotate_left 2
            · (simp only [List.getElem?_toArray, List.getElem?_cons_succ, List.getElem?_cons_zero]; exact rfl)
            · exact fun _ _ _ h => h
            · first
                | (refine Or.inr ⟨by rfl, ?_⟩; exact rfl)
                | (refine Or.inl ⟨by rfl, ?_⟩
                   intro w hSw
                   (try dsimp only at hSw)
                   (try go_split_ands)
                   go_simp
                   (first | done | with_reducible rfl))
            try simp only [Act.put, List.setIfInBounds_toArray, List.set_cons_zero, List.set_cons_succ]
            refine take_h 3 ⟨?_, ?_, ?_, by kernel_rfl, by kernel_rfl, by kernel_rfl, ?_, ?_, by assumption, ?_⟩
            rotate_left 2
            · (simp only [List.getElem?_toArray, List.getElem?_cons_succ, List.getElem?_cons_zero]; exact rfl)
            · exact fun _ _ _ h => h
            · first
                | (refine Or.inr ⟨by rfl, ?_⟩; exact rfl)
                | (refine Or.inl ⟨by rfl, ?_⟩
                   intro w hSw
                   (try dsimp only at hSw)
                   (try go_split_ands)
                   go_simp
                   (first | done | with_reducible rfl))
            try simp only [Act.put, List.setIfInBounds_toArray, List.set_cons_zero, List.set_cons_succ]
            refine take_h 4 ⟨?_, ?_, ?_, by kernel_rfl, by kernel_rfl, by kernel_rfl, ?_, ?_, by assumption, ?_⟩
            rotate_left 2
            · (simp only [List.getElem?_toArray, List.getElem?_cons_succ, List.getElem?_cons_zero]; exact rfl)
            · exact fun _ _ _ h => h
            · first
                | (refine Or.inr ⟨by rfl, ?_⟩; exact rfl)
                | (refine Or.inl ⟨by rfl, ?_⟩
                   intro w hSw
                   (try dsimp only at hSw)
                   (try go_split_ands)
                   go_simp
                   (first | done | with_reducible rfl))
            try simp only [Act.put, List.setIfInBounds_toArray, List.set_cons_zero, List.set_cons_succ]
            refine take_h 5 ⟨?_, ?_, ?_, by kernel_rfl, by kernel_rfl, by kernel_rfl, ?_, ?_, by assumption, ?_⟩
            rotate_left 2
            · (simp only [List.getElem?_toArray, List.getElem?_cons_succ, List.getElem?_cons_zero]; exact rfl)
            · exact fun _ _ _ h => h
            · first
                | (refine Or.inr ⟨by rfl, ?_⟩; exact rfl)
                | (refine Or.inl ⟨by rfl, ?_⟩
                   intro w hSw
                   (try dsimp only at hSw)
                   (try go_split_ands)
                   go_simp
                   (first | done | with_reducible rfl))
            try simp only [Act.put, List.setIfInBounds_toArray, List.set_cons_zero, List.set_cons_succ]
            refine wpAnyH_ready (rs := [6]) (by kernel_rfl) (by simp) ?_
            refine call_h 6 ⟨?_, ?_, fun K hK => ?_⟩
            rotate_left 1
            · (simp only [List.getElem?_toArray, List.getElem?_cons_succ, List.getElem?_cons_zero]; exact rfl)
            go_simp
            skip
            go_wp2_with fail
            refine hK.out _ _ ⟨m1, b2⟩ (fun hHeld => ?_)
            clear hK K
            (try simp only [Act.put, List.setIfInBounds_toArray, List.set_cons_zero, List.set_cons_succ])
            refine take_h 7 ⟨?_, ?_, ?_, by kernel_rfl, by kernel_rfl, by kernel_rfl, ?_, ?_, by assumption, ?_⟩
            rotate_left 2
            · (simp only [List.getElem?_toArray, List.getElem?_cons_succ, List.getElem?_cons_zero]; exact rfl)
            · exact fun _ _ _ h => h
            · first
                | (refine Or.inr ⟨by rfl, ?_⟩; exact rfl)
                | (refine Or.inl ⟨by rfl, ?_⟩
                   intro w hSw
                   (try dsimp only at hSw)
                   (try go_split_ands)
                   go_simp
                   (first | done | with_reducible rfl))
            try simp only [Act.put, List.setIfInBounds_toArray, List.set_cons_zero, List.set_cons_succ]
            refine take_h 8 ⟨?_, ?_, ?_, by kernel_rfl, by kernel_rfl, by kernel_rfl, ?_, ?_, by assumption, ?_⟩
            rotate_left 2
            · (simp only [List.getElem?_toArray, List.getElem?_cons_succ, List.getElem?_cons_zero]; exact rfl)
            · exact fun _ _ _ h => h
            · first
                | (refine Or.inr ⟨by rfl, ?_⟩; exact rfl)
                | (refine Or.inl ⟨by rfl, ?_⟩
                   intro w hSw
                   (try dsimp only at hSw)
                   (try go_split_ands)
                   go_simp
                   (first | done | with_reducible rfl))
            try simp only [Act.put, List.setIfInBounds_toArray, List.set_cons_zero, List.set_cons_succ]
            refine take_h 9 ⟨?_, ?_, ?_, by kernel_rfl, by kernel_rfl, by kernel_rfl, ?_, ?_, by assumption, ?_⟩
            rotate_left 2
            · (simp only [List.getElem?_toArray, List.getElem?_cons_succ, List.getElem?_cons_zero]; exact rfl)
            · exact fun _ _ _ h => h
            · first
                | (refine Or.inr ⟨by rfl, ?_⟩; exact rfl)
                | (refine Or.inl ⟨by rfl, ?_⟩
                   intro w hSw
                   (try dsimp only at hSw)
                   (try go_split_ands)
                   go_simp
                   (first | done | with_reducible rfl))
            try simp only [Act.put, List.setIfInBounds_toArray, List.set_cons_zero, List.set_cons_succ]
            refine take_h 10 ⟨?_, ?_, ?_, by kernel_rfl, by kernel_rfl, by kernel_rfl, ?_, ?_, by assumption, ?_⟩
            rotate_left 2
            · (simp only [List.getElem?_toArray, List.getElem?_cons_succ, List.getElem?_cons_zero]; exact rfl)
            · exact fun _ _ _ h => h
            · first
                | (refine Or.inr ⟨by rfl, ?_⟩; exact rfl)
                | (refine Or.inl ⟨by rfl, ?_⟩
                   intro w hSw
                   (try dsimp only at hSw)
                   (try go_split_ands)
                   go_simp
                   (first | done | with_reducible rfl))
            try simp only [Act.put, List.setIfInBounds_toArray, List.set_cons_zero, List.set_cons_succ]
            refine take_h 11 ⟨?_, ?_, ?_, by kernel_rfl, by kernel_rfl, by kernel_rfl, ?_, ?_, by assumption, ?_⟩
            rotate_left 2
            · (simp only [List.getElem?_toArray, List.getElem?_cons_succ, List.getElem?_cons_zero]; exact rfl)
            · exact fun _ _ _ h => h
            · first
                | (refine Or.inr ⟨by rfl, ?_⟩; exact rfl)
                | (refine Or.inl ⟨by rfl, ?_⟩
                   intro w hSw
                   (try dsimp only at hSw)
                   (try go_split_ands)
                   go_simp
                   (first | done | with_reducible rfl))
            try simp only [Act.put, List.setIfInBounds_toArray, List.set_cons_zero, List.set_cons_succ]
            refine wpAnyH_done (by kernel_rfl) ?_ _
            clear hHeld
            go_upto_region 11 with fail
            refine wp_region_held_drew (S := fun wx => wx.cell? ⟨w1.heap.size, 0, none⟩ = some (.int .i64 id) ∧ wx.cell? ⟨w1.heap.size, 2, none⟩ = some (.int .i64 (nn : Int))) (by kernel_rfl) ⟨b0, b2⟩ (fun hHeld => ?_)
            refine take_h 0 ⟨?_, ?_, ?_, by kernel_rfl, by kernel_rfl, by kernel_rfl, ?_, ?_, by assumption, ?_⟩
            rotate_left 2
            · (simp only [List.getElem?_toArray, List.getElem?_cons_zero]; exact rfl)
            · exact fun _ _ _ h => h
            · first
                | (refine Or.inr ⟨by rfl, ?_⟩; exact rfl)
                | (refine Or.inl ⟨by rfl, ?_⟩
                   intro w hSw
                   (try dsimp only at hSw)
                   (try go_split_ands)
                   go_simp
                   (first | done | with_reducible rfl))
            try simp only [Act.put, List.setIfInBounds_toArray, List.set_cons_zero, List.set_cons_succ]
            refine take_h 1 ⟨?_, ?_, ?_, by kernel_rfl, by kernel_rfl, by kernel_rfl, ?_, ?_, by assumption, ?_⟩
            rotate_left 2
            · (simp only [List.getElem?_toArray, List.getElem?_cons_succ, List.getElem?_cons_zero]; exact rfl)
            · exact fun _ _ _ h => h
            · first
                | (refine Or.inr ⟨by rfl, ?_⟩; exact rfl)
                | (refine Or.inl ⟨by rfl, ?_⟩
                   intro w hSw
                   (try dsimp only at hSw)
                   (try go_split_ands)
                   go_simp
                   (first | done | with_reducible rfl))
            try simp only [Act.put, List.setIfInBounds_toArray, List.set_cons_zero, List.set_cons_succ]
            refine take_h 2 ⟨?_, ?_, ?_, by kernel_rfl, by kernel_rfl, by kernel_rfl, ?_, ?_, by assumption, ?_⟩
            rotate_left 2
            · (simp only [List.getElem?_toArray, List.getElem?_cons_succ, List.getElem?_cons_zero]; exact rfl)
            · exact fun _ _ _ h => h
            · first
                | (refine Or.inr ⟨by rfl, ?_⟩; exact rfl)
                | (refine Or.inl ⟨by rfl, ?_⟩
                   intro w hSw
                   (try dsimp only at hSw)
                   (try go_split_ands)
                   go_simp
                   (first | done | with_reducible rfl))
            try simp only [Act.put, List.setIfInBounds_toArray, List.set_cons_zero, List.set_cons_succ]
            refine take_h 3 ⟨?_, ?_, ?_, by kernel_rfl, by kernel_rfl, by kernel_rfl, ?_, ?_, by assumption, ?_⟩
            rotate_left 2
            · (simp only [List.getElem?_toArray, List.getElem?_cons_succ, List.getElem?_cons_zero]; exact rfl)
            · exact fun _ _ _ h => h
            · first
                | (refine Or.inr ⟨by rfl, ?_⟩; exact rfl)
                | (refine Or.inl ⟨by rfl, ?_⟩
                   intro w hSw
                   (try dsimp only at hSw)
                   (try go_split_ands)
                   go_simp
                   (first | done | with_reducible rfl))
            try simp only [Act.put, List.setIfInBounds_toArray, List.set_cons_zero, List.set_cons_succ]
            refine take_h 4 ⟨?_, ?_, ?_, by kernel_rfl, by kernel_rfl, by kernel_rfl, ?_, ?_, by assumption, ?_⟩
            rotate_left 2
            · (simp only [List.getElem?_toArray, List.getElem?_cons_succ, List.getElem?_cons_zero]; exact rfl)
            · exact fun _ _ _ h => h
            · first
                | (refine Or.inr ⟨by rfl, ?_⟩; exact rfl)
                | (refine Or.inl ⟨by rfl, ?_⟩
                   intro w hSw
                   (try dsimp only at hSw)
                   (try go_split_ands)
                   go_simp
                   (first | done | with_reducible rfl))
            try simp only [Act.put, List.setIfInBounds_toArray, List.set_cons_zero, List.set_cons_succ]
            refine wpAnyH_ready (rs := [5]) (by kernel_rfl) (by simp) ?_
            refine call_h 5 ⟨?_, ?_, fun K hK => ?_⟩
            rotate_left 1
            · (simp only [List.getElem?_toArray, List.getElem?_cons_succ, List.getElem?_cons_zero]; exact rfl)
            go_simp
            (go_at_call 60; refine HOLD.out.mono ?_; rintro e w' ⟨rfl, rfl⟩; unfold oldV)
            go_wp2_with fail
            refine hK.out _ _ ⟨b0, b2⟩ (fun hHeld => ?_)
            clear hK K
            (try simp only [Act.put, List.setIfInBounds_toArray, List.set_cons_zero, List.set_cons_succ])
            refine wpAnyH_ready (rs := [6]) (by kernel_rfl) (by simp) ?_
            refine call_h 6 ⟨?_, ?_, fun K hK => ?_⟩
            rotate_left 1
            · (simp only [List.getElem?_toArray, List.getElem?_cons_succ, List.getElem?_cons_zero]; exact rfl)
            go_simp
            (go_at_call 38; refine HCL.out.mono ?_; rintro e w5 ⟨v5, rfl, hown, hb5⟩)
            go_wp2_with fail
            have hb5' : Below w4.heap.size w4 w5 := ⟨hb5.os, hb5.tape, hb5.output, hb5.size, hb5.block⟩
            obtain ⟨vo, vc, rfl, _, _⟩ := (Rd.of_own hown).form
            have n0 := cell_left' b0 (Left.of_below hb5' []) (by simp)
            have n2 := cell_left' b2 (Left.of_below hb5' []) (by simp)
            have HOWN : Hid (w5.ownsRow w4.heap.size 5 1 (.slice vo 64 vc) 64 (u8s (secN s.K nn))) := Lib.hid hown
            have HD5 := Lib.hid (HD4.out.left (Left.of_below hb5' []) (by simp))
            have HL5 := Lib.hid (HL4.out.trans (Left.of_below hb5' F) (fun x hx => .inl hx))
            clear hown hb5 hb5'
            refine hK.out _ _ ⟨n0, n2⟩ (fun hHeld => ?_)
            clear hK K
            (try simp only [Act.put, List.setIfInBounds_toArray, List.set_cons_zero, List.set_cons_succ])
            refine take_h 7 ⟨?_, ?_, ?_, by kernel_rfl, by kernel_rfl, by kernel_rfl, ?_, ?_, by assumption, ?_⟩
            rotate_left 2
            · (simp only [List.getElem?_toArray, List.getElem?_cons_succ, List.getElem?_cons_zero]; exact rfl)
            · exact fun _ _ _ h => h
            · first
                | (refine Or.inr ⟨by rfl, ?_⟩; exact rfl)
                | (refine Or.inl ⟨by rfl, ?_⟩
                   intro w hSw
                   (try dsimp only at hSw)
                   (try go_split_ands)
                   go_simp
                   (first | done | with_reducible rfl))
            try simp only [Act.put, List.setIfInBounds_toArray, List.set_cons_zero, List.set_cons_succ]
            refine take_h 8 ⟨?_, ?_, ?_, by kernel_rfl, by kernel_rfl, by kernel_rfl, ?_, ?_, by assumption, ?_⟩
            rotate_left 2
            · (simp only [List.getElem?_toArray, List.getElem?_cons_succ, List.getElem?_cons_zero]; exact rfl)
            · exact fun _ _ _ h => h
            · first
                | (refine Or.inr ⟨by rfl, ?_⟩; exact rfl)
                | (refine Or.inl ⟨by rfl, ?_⟩
                   intro w hSw
                   (try dsimp only at hSw)
                   (try go_split_ands)
                   go_simp
                   (first | done | with_reducible rfl))
            try simp only [Act.put, List.setIfInBounds_toArray, List.set_cons_zero, List.set_cons_succ]
            refine take_h 9 ⟨?_, ?_, ?_, by kernel_rfl, by kernel_rfl, by kernel_rfl, ?_, ?_, by assumption, ?_⟩
            rotate_left 2
            · (simp only [List.getElem?_toArray, List.getElem?_cons_succ, List.getElem?_cons_zero]; exact rfl)
            · exact fun _ _ _ h => h
            · first
                | (refine Or.inr ⟨by rfl, ?_⟩; exact rfl)
                | (refine Or.inl ⟨by rfl, ?_⟩
                   intro w hSw
                   (try dsimp only at hSw)
                   (try go_split_ands)
                   go_simp
                   (first | done | with_reducible rfl))
            try simp only [Act.put, List.setIfInBounds_toArray, List.set_cons_zero, List.set_cons_succ]
            refine wpAnyH_done (by kernel_rfl) ?_ _
            clear hHeld n0 n2
            go_wp2
            go_ret3
            rw [← HA3.out, HF0.out]
            have hl64 : (secN s.K nn).length = 64 := secN_length hnn
            refine ⟨.slice vo 64 vc, rfl, ?_, F, ⟨M, _, _, _, _, HD5.out⟩, HL5.out, fun k hk => hk, fun k hk hm => ?_⟩
            · simp only [Option.map_none, Option.getD_none, Int.toNat_natCast, hl64]
              exact own_base HOWN.out hz4
            · have := (HOWN.out.lt k hk).1
              have := HFB.out k hm
              omega
          | some p =>
            rw [hf] at hrun
            simp only [Option.map_some, Option.getD_some, Option.isSome_some] at hrun
            have HF0 := Lib.hid hf
            obtain ⟨pv1, pv2, pv3, pv4⟩ := HD4.out.vals p (List.mem_of_find?_eq_some hf)
            have hcl := Clone_any w4.drew.drew p.2.1 64 (u8s p.2.2) (show Rd w4.drew.drew w4.drew.drew.heap.size 1 _ _ _ from Rd.of_own pv1) (u8s_one _) (by omega)
            have HCL := Lib.hid hcl
            have HP2 := Lib.hid pv2
            obtain ⟨po, pc, hpv, _, _⟩ := (Rd.of_own pv1).form
            rw [hpv] at hrun HCL
            clear lp1 lp2 hA2 hmap hf pv1 pv2 pv3 pv4 hcl hpv
            go_upto_region 8 with fail
            refine wp_region_held_drew (S := fun wx => wx.cell? ⟨R, 1, none⟩ = some (.map (some M)) ∧ wx.cell? ⟨w1.heap.size, 2, none⟩ = some (.int .i64 (nn : Int))) (by kernel_rfl) ⟨m1, b2⟩ (fun hHeld => ?_)
            refine take_h 0 ⟨?_, ?_, ?_, by kernel_rfl, by kernel_rfl, by kernel_rfl, ?_, ?_, by assumption, ?_⟩
            rotate_left 2
            · (simp only [List.getElem?_toArray, List.getElem?_cons_zero]; exact rfl)
            · exact fun _ _ _ h => h
            · first
                | (refine Or.inr ⟨by rfl, ?_⟩; exact rfl)
                | (refine Or.inl ⟨by rfl, ?_⟩
                   intro w hSw
                   (try dsimp only at hSw)
                   (try go_split_ands)
                   go_simp
                   (first | done | with_reducible rfl))
            try simp only [Act.put, List.setIfInBounds_toArray, List.set_cons_zero, List.set_cons_succ]
            refine take_h 1 ⟨?_, ?_, ?_, by kernel_rfl, by kernel_rfl, by kernel_rfl, ?_, ?_, by assumption, ?_⟩
            rotate_left 2
            · (simp only [List.getElem?_toArray, List.getElem?_cons_succ, List.getElem?_cons_zero]; exact rfl)
            · exact fun _ _ _ h => h
            · first
                | (refine Or.inr ⟨by rfl, ?_⟩; exact rfl)
                | (refine Or.inl ⟨by rfl, ?_⟩
                   intro w hSw
                   (try dsimp only at hSw)
                   (try go_split_ands)
                   go_simp
                   (first | done | with_reducible rfl))
            try simp only [Act.put, List.setIfInBounds_toArray, List.set_cons_zero, List.set_cons_succ]
            refine take_h 2 ⟨?_, ?_, ?_, by kernel_rfl, by kernel_rfl, by kernel_rfl, ?_, ?_, by assumption, ?_⟩
            rotate_left 2
            · (simp only [List.getElem?_toArray, List.getElem?_cons_succ, List.getElem?_cons_zero]; exact rfl)
            · exact fun _ _ _ h => h
            · first
                | (refine Or.inr ⟨by rfl, ?_⟩; exact rfl)
                | (refine Or.inl ⟨by rfl, ?_⟩
                   intro w hSw
                   (try dsimp only at hSw)
                   (try go_split_ands)
                   go_simp
                   (first | done | with_reducible rfl))
            try simp only [Act.put, List.setIfInBounds_toArray, List.set_cons_zero, List.set_cons_succ]
            refine take_h 3 ⟨?_, ?_, ?_, by kernel_rfl, by kernel_rfl, by kernel_rfl, ?_, ?_, by assumption, ?_⟩
            rotate_left 2
            · (simp only [List.getElem?_toArray, List.getElem?_cons_succ, List.getElem?_cons_zero]; exact rfl)
            · exact fun _ _ _ h => h
            · first
                | (refine Or.inr ⟨by rfl, ?_⟩; exact rfl)
                | (refine Or.inl ⟨by rfl, ?_⟩
                   intro w hSw
                   (try dsimp only at hSw)
                   (try go_split_ands)
                   go_simp
                   (first | done | with_reducible rfl))
            try simp only [Act.put, List.setIfInBounds_toArray, List.set_cons_zero, List.set_cons_succ]
            refine take_h 4 ⟨?_, ?_, ?_, by kernel_rfl, by kernel_rfl, by kernel_rfl, ?_, ?_, by assumption, ?_⟩
            rotate_left 2
            · (simp only [List.getElem?_toArray, List.getElem?_cons_succ, List.getElem?_cons_zero]; exact rfl)
            · exact fun _ _ _ h => h
            · first
                | (refine Or.inr ⟨by rfl, ?_⟩; exact rfl)
                | (refine Or.inl ⟨by rfl, ?_⟩
                   intro w hSw
                   (try dsimp only at hSw)
                   (try go_split_ands)
                   go_simp
                   (first | done | with_reducible rfl))
            try simp only [Act.put, List.setIfInBounds_toArray, List.set_cons_zero, List.set_cons_succ]
            refine take_h 5 ⟨?_, ?_, ?_, by kernel_rfl, by kernel_rfl, by kernel_rfl, ?_, ?_, by assumption, ?_⟩
            rotate_left 2
            · (simp only [List.getElem?_toArray, List.getElem?_cons_succ, List.getElem?_cons_zero]; exact rfl)
            · exact fun _ _ _ h => h
            · first
                | (refine Or.inr ⟨by rfl, ?_⟩; exact rfl)
                | (refine Or.inl ⟨by rfl, ?_⟩
                   intro w hSw
                   (try dsimp only at hSw)
                   (try go_split_ands)
                   go_simp
                   (first | done | with_reducible rfl))
            try simp only [Act.put, List.setIfInBounds_toArray, List.set_cons_zero, List.set_cons_succ]
            refine wpAnyH_ready (rs := [6]) (by kernel_rfl) (by simp) ?_
            refine call_h 6 ⟨?_, ?_, fun K hK => ?_⟩
            rotate_left 1
            · (simp only [List.getElem?_toArray, List.getElem?_cons_succ, List.getElem?_cons_zero]; exact rfl)
            go_simp
            skip
            go_wp2_with fail
            refine hK.out _ _ ⟨m1, b2⟩ (fun hHeld => ?_)
            clear hK K
            (try simp only [Act.put, List.setIfInBounds_toArray, List.set_cons_zero, List.set_cons_succ])
            refine take_h 7 ⟨?_, ?_, ?_, by kernel_rfl, by kernel_rfl, by kernel_rfl, ?_, ?_, by assumption, ?_⟩
            rotate_left 2
            · (simp only [List.getElem?_toArray, List.getElem?_cons_succ, List.getElem?_cons_zero]; exact rfl)
            · exact fun _ _ _ h => h
            · first
                | (refine Or.inr ⟨by rfl, ?_⟩; exact rfl)
                | (refine Or.inl ⟨by rfl, ?_⟩
                   intro w hSw
                   (try dsimp only at hSw)
                   (try go_split_ands)
                   go_simp
                   (first | done | with_reducible rfl))
            try simp only [Act.put, List.setIfInBounds_toArray, List.set_cons_zero, List.set_cons_succ]
            refine take_h 8 ⟨?_, ?_, ?_, by kernel_rfl, by kernel_rfl, by kernel_rfl, ?_, ?_, by assumption, ?_⟩
            rotate_left 2
            · (simp only [List.getElem?_toArray, List.getElem?_cons_succ, List.getElem?_cons_zero]; exact rfl)
            · exact fun _ _ _ h => h
            · first
                | (refine Or.inr ⟨by rfl, ?_⟩; exact rfl)
                | (refine Or.inl ⟨by rfl, ?_⟩
                   intro w hSw
                   (try dsimp only at hSw)
                   (try go_split_ands)
                   go_simp
                   (first | done | with_reducible rfl))
            try simp only [Act.put, List.setIfInBounds_toArray, List.set_cons_zero, List.set_cons_succ]
            refine take_h 9 ⟨?_, ?_, ?_, by kernel_rfl, by kernel_rfl, by kernel_rfl, ?_, ?_, by assumption, ?_⟩
            rotate_left 2
            · (simp only [List.getElem?_toArray, List.getElem?_cons_succ, List.getElem?_cons_zero]; exact rfl)
            · exact fun _ _ _ h => h
            · first
                | (refine Or.inr ⟨by rfl, ?_⟩; exact rfl)
                | (refine Or.inl ⟨by rfl, ?_⟩
                   intro w hSw
                   (try dsimp only at hSw)
                   (try go_split_ands)
                   go_simp
                   (first | done | with_reducible rfl))
            try simp only [Act.put, List.setIfInBounds_toArray, List.set_cons_zero, List.set_cons_succ]
            refine take_h 10 ⟨?_, ?_, ?_, by kernel_rfl, by kernel_rfl, by kernel_rfl, ?_, ?_, by assumption, ?_⟩
            rotate_left 2
            · (simp only [List.getElem?_toArray, List.getElem?_cons_succ, List.getElem?_cons_zero]; exact rfl)
            · exact fun _ _ _ h => h
            · first
                | (refine Or.inr ⟨by rfl, ?_⟩; exact rfl)
                | (refine Or.inl ⟨by rfl, ?_⟩
                   intro w hSw
                   (try dsimp only at hSw)
                   (try go_split_ands)
                   go_simp
                   (first | done | with_reducible rfl))
            try simp only [Act.put, List.setIfInBounds_toArray, List.set_cons_zero, List.set_cons_succ]
            refine take_h 11 ⟨?_, ?_, ?_, by kernel_rfl, by kernel_rfl, by kernel_rfl, ?_, ?_, by assumption, ?_⟩
            rotate_left 2
            · (simp only [List.getElem?_toArray, List.getElem?_cons_succ, List.getElem?_cons_zero]; exact rfl)
            · exact fun _ _ _ h => h
            · first
                | (refine Or.inr ⟨by rfl, ?_⟩; exact rfl)
                | (refine Or.inl ⟨by rfl, ?_⟩
                   intro w hSw
                   (try dsimp only at hSw)
                   (try go_split_ands)
                   go_simp
                   (first | done | with_reducible rfl))
            try simp only [Act.put, List.setIfInBounds_toArray, List.set_cons_zero, List.set_cons_succ]
            refine wpAnyH_done (by kernel_rfl) ?_ _
            clear hHeld
            go_upto_region 10 with fail
            refine wp_region_held_drew (S := fun wx => wx.cell? ⟨w1.heap.size, 0, none⟩ = some (.int .i64 id)) (by kernel_rfl) b0 (fun hHeld => ?_)
            refine take_h 0 ⟨?_, ?_, ?_, by kernel_rfl, by kernel_rfl, by kernel_rfl, ?_, ?_, by assumption, ?_⟩
            rotate_left 2
            · (simp only [List.getElem?_toArray, List.getElem?_cons_zero]; exact rfl)
            · exact fun _ _ _ h => h
            · first
                | (refine Or.inr ⟨by rfl, ?_⟩; exact rfl)
                | (refine Or.inl ⟨by rfl, ?_⟩
                   intro w hSw
                   (try dsimp only at hSw)
                   (try go_split_ands)
                   go_simp
                   (first | done | with_reducible rfl))
            try simp only [Act.put, List.setIfInBounds_toArray, List.set_cons_zero, List.set_cons_succ]
            refine take_h 1 ⟨?_, ?_, ?_, by kernel_rfl, by kernel_rfl, by kernel_rfl, ?_, ?_, by assumption, ?_⟩
            rotate_left 2
            · (simp only [List.getElem?_toArray, List.getElem?_cons_succ, List.getElem?_cons_zero]; exact rfl)
            · exact fun _ _ _ h => h
            · first
                | (refine Or.inr ⟨by rfl, ?_⟩; exact rfl)
                | (refine Or.inl ⟨by rfl, ?_⟩
                   intro w hSw
                   (try dsimp only at hSw)
                   (try go_split_ands)
                   go_simp
                   (first | done | with_reducible rfl))
            try simp only [Act.put, List.setIfInBounds_toArray, List.set_cons_zero, List.set_cons_succ]
            refine take_h 2 ⟨?_, ?_, ?_, by kernel_rfl, by kernel_rfl, by kernel_rfl, ?_, ?_, by assumption, ?_⟩
            rotate_left 2
            · (simp only [List.getElem?_toArray, List.getElem?_cons_succ, List.getElem?_cons_zero]; exact rfl)
            · exact fun _ _ _ h => h
            · first
                | (refine Or.inr ⟨by rfl, ?_⟩; exact rfl)
                | (refine Or.inl ⟨by rfl, ?_⟩
                   intro w hSw
                   (try dsimp only at hSw)
                   (try go_split_ands)
                   go_simp
                   (first | done | with_reducible rfl))
            try simp only [Act.put, List.setIfInBounds_toArray, List.set_cons_zero, List.set_cons_succ]
            refine wpAnyH_ready (rs := [3]) (by kernel_rfl) (by simp) ?_
            refine call_h 3 ⟨?_, ?_, fun K hK => ?_⟩
            rotate_left 1
            · (simp only [List.getElem?_toArray, List.getElem?_cons_succ, List.getElem?_cons_zero]; exact rfl)
            go_simp
            (go_at_call 38; refine HCL.out.mono ?_; rintro e w5 ⟨v5, rfl, hown, hb5⟩)
            go_wp2_with fail
            have hb5' : Below w4.heap.size w4 w5 := ⟨hb5.os, hb5.tape, hb5.output, hb5.size, hb5.block⟩
            obtain ⟨vo, vc, rfl, _, _⟩ := (Rd.of_own hown).form
            have n0 := cell_left' b0 (Left.of_below hb5' []) (by simp)
            have HOWN : Hid (w5.ownsRow w4.heap.size 5 1 (.slice vo 64 vc) 64 (u8s p.2.2)) := Lib.hid hown
            have HD5 := Lib.hid (HD4.out.left (Left.of_below hb5' []) (by simp))
            have HL5 := Lib.hid (HL4.out.trans (Left.of_below hb5' F) (fun x hx => .inl hx))
            clear hown hb5 hb5'
            refine hK.out _ _ n0 (fun hHeld => ?_)
            clear hK K
            (try simp only [Act.put, List.setIfInBounds_toArray, List.set_cons_zero, List.set_cons_succ])
            refine take_h 4 ⟨?_, ?_, ?_, by kernel_rfl, by kernel_rfl, by kernel_rfl, ?_, ?_, by assumption, ?_⟩
            rotate_left 2
            · (simp only [List.getElem?_toArray, List.getElem?_cons_succ, List.getElem?_cons_zero]; exact rfl)
            · exact fun _ _ _ h => h
            · first
                | (refine Or.inr ⟨by rfl, ?_⟩; exact rfl)
                | (refine Or.inl ⟨by rfl, ?_⟩
                   intro w hSw
                   (try dsimp only at hSw)
                   (try go_split_ands)
                   go_simp
                   (first | done | with_reducible rfl))
            try simp only [Act.put, List.setIfInBounds_toArray, List.set_cons_zero, List.set_cons_succ]
            refine take_h 5 ⟨?_, ?_, ?_, by kernel_rfl, by kernel_rfl, by kernel_rfl, ?_, ?_, by assumption, ?_⟩
            rotate_left 2
            · (simp only [List.getElem?_toArray, List.getElem?_cons_succ, List.getElem?_cons_zero]; exact rfl)
            · exact fun _ _ _ h => h
            · first
                | (refine Or.inr ⟨by rfl, ?_⟩; exact rfl)
                | (refine Or.inl ⟨by rfl, ?_⟩
                   intro w hSw
                   (try dsimp only at hSw)
                   (try go_split_ands)
                   go_simp
                   (first | done | with_reducible rfl))
            try simp only [Act.put, List.setIfInBounds_toArray, List.set_cons_zero, List.set_cons_succ]
            refine take_h 6 ⟨?_, ?_, ?_, by kernel_rfl, by kernel_rfl, by kernel_rfl, ?_, ?_, by assumption, ?_⟩
            rotate_left 2
            · (simp only [List.getElem?_toArray, List.getElem?_cons_succ, List.getElem?_cons_zero]; exact rfl)
            · exact fun _ _ _ h => h
            · first
                | (refine Or.inr ⟨by rfl, ?_⟩; exact rfl)
                | (refine Or.inl ⟨by rfl, ?_⟩
                   intro w hSw
                   (try dsimp only at hSw)
                   (try go_split_ands)
                   go_simp
                   (first | done | with_reducible rfl))
            try simp only [Act.put, List.setIfInBounds_toArray, List.set_cons_zero, List.set_cons_succ]
            refine wpAnyH_done (by kernel_rfl) ?_ _
            clear hHeld n0
            go_wp2
            go_ret3
            rw [← HA3.out, HF0.out]
            refine ⟨.slice vo 64 vc, rfl, ?_, F, ⟨M, _, _, _, _, HD5.out⟩, HL5.out, fun k hk => hk, fun k hk hm => ?_⟩
            · simp only [Option.map_some, Option.getD_some]
              rw [HP2.out]
              exact own_base HOWN.out hz4
            · have := (HOWN.out.lt k hk).1
              have := HFB.out k hm
              omega
        · have hok1 : secIn s.K n ∧ b.length = 64 := by
            rcases HOK.out with h | h | h
            · cases h.1
            · exact h.2
            · cases h
          have hA2 := HA2.out
          (try dsimp only at hA2)
          rw [if_pos rfl] at hA2
          have HA3 := Lib.hid hA2
          clear hA2
          have hx64 : w4.ownsRow base 5 1 (.slice bo b.length bc) 64 (u8s b) := by have := HX4.out; rw [hok1.2] at this ⊢; exact this
          obtain ⟨w5, hrun5, hl5, hc5⟩ := run_update_imap (P := Try.prog) (w := w4.drew) (t := 65) (show IMap w4.drew M _ from HD4.out.map) Try.underlying65 Try.underlying3 n (.slice bo b.length bc)
          have hl5' : Left [M] w4 w5 := ⟨hl5.os, hl5.tape, hl5.output, hl5.size, hl5.block⟩
          have HU := Lib.hid (HD4.out.upd hx64 hok1.2 hok1.1 (fun k hk => HQB.out k (by rw [HBV.out]; exact hk)) hl5' hc5)
          have HL5 := Lib.hid (HL4.out.trans (hl5'.mono (T := F) (by simpa using HD4.out.blk.2.1)) (fun x hx => .inl hx))
          have hMb : w1.heap.size ≠ M := fun e => hFb (e ▸ HD4.out.blk.2.1)
          have hRM : R ≠ M := HD4.out.map.noTy HD4.out.head.ty
          have n1 := cell_left' m1 hl5' (by simpa using hRM)
          have n2 := cell_left' b2 hl5' (by simpa using hMb)
          have n3 := cell_left' b3 hl5' (by simpa using hMb)
          have n0 := cell_left' b0 hl5' (by simpa using hMb)
          clear hx64 hl5 hc5 hl5' hok1
          go_upto_region 13 with fail
          refine wp_region_held_drew (S := fun wx => wx.cell? ⟨R, 1, none⟩ = some (.map (some M)) ∧ wx.cell? ⟨w1.heap.size, 2, none⟩ = some (.int .i64 n) ∧ wx.cell? ⟨w1.heap.size, 3, none⟩ = some (.slice bo b.length bc)) (by kernel_rfl) ⟨m1, b2, b3⟩ (fun hHeld => ?_)
          refine take_h 0 ⟨?_, ?_, ?_, by kernel_rfl, by kernel_rfl, by kernel_rfl, ?_, ?_, by assumption, ?_⟩
          rotate_left 2
          · (simp only [List.getElem?_toArray, List.getElem?_cons_zero]; exact rfl)
          · exact fun _ _ _ h => h
          · first
              | (refine Or.inr ⟨by rfl, ?_⟩; exact rfl)
              | (refine Or.inl ⟨by rfl, ?_⟩
                 intro w hSw
                 (try dsimp only at hSw)
                 (try go_split_ands)
                 go_simp
                 (first | done | with_reducible rfl))
          try simp only [Act.put, List.setIfInBounds_toArray, List.set_cons_zero, List.set_cons_succ]
          refine take_h 1 ⟨?_, ?_, ?_, by kernel_rfl, by kernel_rfl, by kernel_rfl, ?_, ?_, by assumption, ?_⟩
          rotate_left 2
          · (simp only [List.getElem?_toArray, List.getElem?_cons_succ, List.getElem?_cons_zero]; exact rfl)
          · exact fun _ _ _ h => h
          · first
              | (refine Or.inr ⟨by rfl, ?_⟩; exact rfl)
              | (refine Or.inl ⟨by rfl, ?_⟩
                 intro w hSw
                 (try dsimp only at hSw)
                 (try go_split_ands)
                 go_simp
                 (first | done | with_reducible rfl))
          try simp only [Act.put, List.setIfInBounds_toArray, List.set_cons_zero, List.set_cons_succ]
          refine take_h 2 ⟨?_, ?_, ?_, by kernel_rfl, by kernel_rfl, by kernel_rfl, ?_, ?_, by assumption, ?_⟩
          rotate_left 2
          · (simp only [List.getElem?_toArray, List.getElem?_cons_succ, List.getElem?_cons_zero]; exact rfl)
          · exact fun _ _ _ h => h
          · first
              | (refine Or.inr ⟨by rfl, ?_⟩; exact rfl)
              | (refine Or.inl ⟨by rfl, ?_⟩
                 intro w hSw
                 (try dsimp only at hSw)
                 (try go_split_ands)
                 go_simp
                 (first | done | with_reducible rfl))
          try simp only [Act.put, List.setIfInBounds_toArray, List.set_cons_zero, List.set_cons_succ]
          refine take_h 3 ⟨?_, ?_, ?_, by kernel_rfl, by kernel_rfl, by kernel_rfl, ?_, ?_, by assumption, ?_⟩
          rotate_left 2
          · (simp only [List.getElem?_toArray, List.getElem?_cons_succ, List.getElem?_cons_zero]; exact rfl)
          · exact fun _ _ _ h => h
          · first
              | (refine Or.inr ⟨by rfl, ?_⟩; exact rfl)
              | (refine Or.inl ⟨by rfl, ?_⟩
                 intro w hSw
                 (try dsimp only at hSw)
                 (try go_split_ands)
                 go_simp
                 (first | done | with_reducible rfl))
          try simp only [Act.put, List.setIfInBounds_toArray, List.set_cons_zero, List.set_cons_succ]
          refine take_h 4 ⟨?_, ?_, ?_, by kernel_rfl, by kernel_rfl, by kernel_rfl, ?_, ?_, by assumption, ?_⟩
          rotate_left 2
          · (simp only [List.getElem?_toArray, List.getElem?_cons_succ, List.getElem?_cons_zero]; exact rfl)
          · exact fun _ _ _ h => h
          · first
              | (refine Or.inr ⟨by rfl, ?_⟩; exact rfl)
              | (refine Or.inl ⟨by rfl, ?_⟩
                 intro w hSw
                 (try dsimp only at hSw)
                 (try go_split_ands)
                 go_simp
                 (first | done | with_reducible rfl))
          try simp only [Act.put, List.setIfInBounds_toArray, List.set_cons_zero, List.set_cons_succ]
          refine take_h 5 ⟨?_, ?_, ?_, by kernel_rfl, by kernel_rfl, by kernel_rfl, ?_, ?_, by assumption, ?_⟩
          rotate_left 2
          · (simp only [List.getElem?_toArray, List.getElem?_cons_succ, List.getElem?_cons_zero]; exact rfl)
          · exact fun _ _ _ h => h
          · first
              | (refine Or.inr ⟨by rfl, ?_⟩; exact rfl)
              | (refine Or.inl ⟨by rfl, ?_⟩
                 intro w hSw
                 (try dsimp only at hSw)
                 (try go_split_ands)
                 go_simp
                 (first | done | with_reducible rfl))
          try simp only [Act.put, List.setIfInBounds_toArray, List.set_cons_zero, List.set_cons_succ]
          refine take_h 6 ⟨?_, ?_, ?_, by kernel_rfl, by kernel_rfl, by kernel_rfl, ?_, ?_, by assumption, ?_⟩
          rotate_left 2
          · (simp only [List.getElem?_toArray, List.getElem?_cons_succ, List.getElem?_cons_zero]; exact rfl)
          · exact fun _ _ _ h => h
          · first
              | (refine Or.inr ⟨by rfl, ?_⟩; exact rfl)
              | (refine Or.inl ⟨by rfl, ?_⟩
                 intro w hSw
                 (try dsimp only at hSw)
                 (try go_split_ands)
                 go_simp
                 (first | done | with_reducible rfl))
          try simp only [Act.put, List.setIfInBounds_toArray, List.set_cons_zero, List.set_cons_succ]
          refine take_h 7 ⟨?_, ?_, ?_, by kernel_rfl, by kernel_rfl, by kernel_rfl, ?_, ?_, by assumption, ?_⟩
          rotate_left 2
          · (simp only [List.getElem?_toArray, List.getElem?_cons_succ, List.getElem?_cons_zero]; exact rfl)
          · exact fun _ _ _ h => h
          · first
              | (refine Or.inr ⟨by rfl, ?_⟩; exact rfl)
              | (refine Or.inl ⟨by rfl, ?_⟩
                 intro w hSw
                 (try dsimp only at hSw)
                 (try go_split_ands)
                 go_simp
                 (first | done | with_reducible rfl))
          try simp only [Act.put, List.setIfInBounds_toArray, List.set_cons_zero, List.set_cons_succ]
          refine wpAnyH_ready (rs := [8]) (by kernel_rfl) (by simp) ?_
          refine call_h 8 ⟨?_, ?_, fun K hK => ?_⟩
          rotate_left 1
          · (simp only [List.getElem?_toArray, List.getElem?_cons_succ, List.getElem?_cons_zero]; exact rfl)
          go_simp
          skip
          go_wp2_with fail
          refine hK.out _ _ ⟨n1, n2, n3⟩ (fun hHeld => ?_)
          clear hK K
          refine wpAnyH_done (by kernel_rfl) ?_ _
          clear hHeld n1 n2 n3
          go_wp2
          go_ret3
          rw [← HA3.out]
          exact ⟨.slice none 0 0, rfl, World.ownsRow_nil _ _ _ _, F, HU.out, HL5.out, fun k hk => hk, fun k hk => by cases hk⟩
        · have hA2 := HA2.out
          (try dsimp only at hA2)
          rw [if_neg (by decide), if_pos rfl] at hA2
          have HA3 := Lib.hid hA2
          clear hA2
          obtain ⟨w5, hrun5, hit5, hl5⟩ := run_range_imap (P := Try.prog) (t := 65) HD4.out.map Try.underlying65
          obtain ⟨kg, kc, hkv, hkb, hkl, hkc, hkm⟩ := HD4.out.keptForm
          have HKV := Lib.hid hkv
          have hkc2 : kc ≤ 9223372036854775807 := by unfold maxLen at hkm; omega
          have HK4 := Lib.hid (And.intro hkc hkm)
          have hFr : w4.heap.size ∉ F := fun hm => by have := HFLT.out _ hm; omega
          have HD5 := Lib.hid (HD4.out.left hl5 (by simp))
          have HIT := Lib.hid hit5
          have HL45 := Lib.hid hl5
          have HKP : Hid (Kpt ⟨s.K, s.W, s.Q.eraseIdx j, last, false, lft, armed⟩ (Wv.map fun p => (p.1, p.2.1)) s.K) := Lib.hid (Kpt.start HD4.out)
          obtain ⟨r, hr⟩ : ∃ r, w4.heap.size = r := ⟨_, rfl⟩
          rw [hr] at hrun5 hFr HIT
          have hrb : w1.heap.size < r := by have := HB4.out.lt; omega
          clear hl5 hit5 hkv hkm hkc hr
          go_wp2
          go_loopw [8, 9] (fun _ _ wr => ∃ (lt : List (Int × Value)) (Kc : List UInt8), Hid (RIt wr r M (Wv.map fun p => (p.1, p.2.1)) lt) ∧ Hid (DkAt wr base R M F kv (.slice ro (j + m) rc) Wv (Qv.take j ++ Qv.drop (j + 1)) ⟨Kc, s.W, s.Q.eraseIdx j, last, false, lft, armed⟩) ∧ Hid (Kpt ⟨s.K, s.W, s.Q.eraseIdx j, last, false, lft, armed⟩ lt Kc) ∧ Hid (∀ p ∈ lt, p ∈ Wv.map fun p => (p.1, p.2.1)) ∧ Hid (Left (r :: F) w4 wr)) (fun _ _ wr => iterLeft wr r M)
          case atStart => exact ⟨_, s.K, HIT, HD5, HKP, Lib.hid (fun p hp => hp), Lib.hid (HL45.out.mono (by simp))⟩
          case round =>
            obtain ⟨lt, Kc, HI, HDr, HKr, HS, HLr⟩ := hrel
            have m1r : wr.cell? ⟨R, 1, none⟩ = some (.map (some M)) := by rw [HDr.out.head.cell]; rfl
            have HCNT := Lib.hid HI.out.count
            rcases HI.out.next (P := Try.prog) 0 with ⟨hlt0, hnx⟩ | ⟨p, hp, w6, hnx, hen, hi6, hl6, hless⟩
            · subst hlt0
              obtain ⟨w7, hcl, hm7, hl7⟩ := run_clear_imap (P := Try.prog) (t := 65) HDr.out.map Try.underlying65 0
              have hW64 : ∀ p ∈ s.W, p.2.length = 64 := fun p hp => by
                have hv := HDr.out.wval
                dsimp only at hv
                rw [← hv] at hp
                obtain ⟨q, hq, rfl⟩ := List.mem_map.1 hp
                exact (HDr.out.vals q hq).2.1
              have HKE : Hid (Kc = flushK s.K s.W) := Lib.hid (Kpt.end_ HKr.out (HD4.out.size.2.1) hW64)
              have HD7 := Lib.hid (HDr.out.clr hl7 hm7)
              have hMb : w1.heap.size ≠ M := fun e => hFb (e ▸ HD4.out.blk.2.1)
              have n0 : w7.cell? ⟨w1.heap.size, 0, none⟩ = some (.int .i64 id) := cell_left' (cell_left' b0 HLr.out (by simp only [List.mem_cons, not_or]; exact ⟨by omega, hFb⟩)) hl7 (by simpa using hMb)
              have HL7 := Lib.hid ((HL4.out.trans HLr.out (fun x hx => by rcases List.mem_cons.1 hx with rfl | hx; exact .inr (by omega); exact .inl hx)).trans (hl7.mono (T := F) (by simpa using HD4.out.blk.2.1)) (fun x hx => .inl hx))
              clear hm7 hl7 hW64 HCNT
              go_wp2
              go_ret3
              rw [← HA3.out, ← HKE.out]
              exact ⟨.slice none 0 0, rfl, World.ownsRow_nil _ _ _ _, F, HD7.out, HL7.out, fun k hk => hk, fun k hk => by cases hk⟩
            · obtain ⟨q, hq, hqp⟩ := List.mem_map.1 (HS.out p hp)
              have hp1 : p.1 = q.1 := (congrArg Prod.fst hqp).symm
              have hp2 : p.2 = q.2.1 := (congrArg Prod.snd hqp).symm
              obtain ⟨v1, v2, v3, v4⟩ := HDr.out.vals q hq
              obtain ⟨nn, hnn⟩ : ∃ nn : Nat, q.1 = nn := ⟨q.1.toNat, by have := v3.1; omega⟩
              have hn64 : 64 * nn + 64 ≤ Kc.length := by have := v3.2; dsimp only at this; omega
              have hKl : Kc.length = s.K.length := HKr.out.1
              obtain ⟨po, pc, hpv, _, _⟩ := (Rd.of_own v1).form
              rw [hp2, hpv] at hnx hen
              rw [hp1, hnn] at hnx hen hi6 hless
              have hrF : ∀ x ∈ [r], x ∉ F := fun x hx => by simp only [List.mem_singleton] at hx; subst hx; exact hFr
              have hD6 := HDr.out.left hl6 hrF
              have hkv6 : kv = .slice (some ⟨kg, 0, none⟩) Kc.length kc := by rw [hKl]; exact HKV.out
              have hcap6 : Kc.length ≤ kc := by rw [hKl]; exact HK4.out.1
              have HOLD := Lib.hid (old_g hD6 hkv6 nn hn64 hcap6 HK4.out.2)
              have hkept6 := hD6.kept
              dsimp only at hkept6
              rw [hkv6] at hkept6
              obtain ⟨cur, hWh, hcl, hmk⟩ := own_whole hkept6
              have hkgF : kg ∈ F := hD6.blk.2.2.1 kg (by rw [hkv6]; rfl)
              have v1' := own_leftB v1 hl6 (fun x hx e => hrF x hx (v4 x e).1)
              rw [hpv] at v1'
              have HPR := Lib.hid (Rd.of_own v1')
              have HD6 := Lib.hid hD6
              have HWH := Lib.hid hWh
              have HMK := Lib.hid hmk
              have HI6 := Lib.hid hi6
              have HV2 := Lib.hid v2
              have HLES := Lib.hid hless
              have hlk : lookW s.W (nn : Nat) = some q.2.2 := by
                have hnd := HDr.out.map.nodup
                have hv := HDr.out.wval
                dsimp only at hv
                refine lookW_of_mem ?_ ?_
                · rw [← hv, List.map_map]
                  rw [List.map_map] at hnd
                  exact hnd
                · rw [← hv]
                  exact List.mem_map.2 ⟨q, hq, by rw [hnn]⟩
              have HLK := Lib.hid hlk
              have HQQ2 := Lib.hid hq
              have HKV6 := Lib.hid hkv6
              have HL6 := Lib.hid (HLr.out.trans (hl6.mono (T := r :: F) (by simp)) (fun x hx => .inl hx))
              have HKL := Lib.hid hKl
              have hcl2 : 64 * nn + 64 ≤ cur.length := by omega
              clear hp hqp hp1 hp2 v1 v2 v3 v4 hnn hpv hl6 hrF hD6 hkv6 hkept6 hWh hmk v1' hi6 hless hlk hq hKl hcl
              go_wp2_with (first | (go_at_call 60; refine HOLD.out.mono ?_; rintro e w' ⟨rfl, rfl⟩; unfold oldV) | (with_reducible refine wpList_copy (o := ⟨some 96, _, _, _, _, _⟩) rfl (.tmp 94) (.tmp 95) 33 33 rfl 5 Try.underlying33 sz_u8 _ _ _ 64 (.slice po 64 pc) rfl rfl kg (64 * nn) cur 5 HWH.out w6.heap.size (u8s q.2.2) HPR.out ?_ ?_ ?_ (u8s_one _) ?_))
              · exact Nat.le_refl _
              · exact hcl2
              intro w7 hW7 hl7
              have hk7 := HMK.out w7 (64 * nn) q.2.2 (by rw [HV2.out]; exact hn64) (by rw [HV2.out]; exact hW7)
              have HKK : Hid (setSec Kc nn q.2.2 = Kc.take (64 * nn) ++ (q.2.2 ++ Kc.drop (64 * nn + q.2.2.length))) := Lib.hid (by rw [HV2.out]; rfl)
              rw [← HKK.out] at hk7
              have hlen7 : (setSec Kc nn q.2.2).length = Kc.length := setSec_length hn64 HV2.out
              have hD7 := HD6.out.setK (g := kg) (K' := setSec Kc nn q.2.2) (by rw [HKV6.out]; rfl) hl7 (by rw [HKV6.out, hlen7]; exact hk7) hlen7
              have HD7 := Lib.hid hD7
              have hkgr : r ∉ [kg] := by simp only [List.mem_singleton]; exact fun e => hFr (e ▸ hkgF)
              have hkgM : M ∉ [kg] := by simp only [List.mem_singleton]; exact fun e => (HD6.out.map.noTy (own_ty HD6.out.kept (by rw [HKV6.out]; rfl))) e.symm
              have HI7 := Lib.hid (HI6.out.left hl7 hkgM hkgr)
              have HL7 := Lib.hid (HL6.out.trans (hl7.mono (T := r :: F) (by simp [hkgF])) (fun x hx => .inl hx))
              have HK7 : Hid (Kpt ⟨s.K, s.W, s.Q.eraseIdx j, last, false, lft, armed⟩ (lt.filter (fun q => q.1 != ((nn : Nat) : Int))) (setSec Kc nn q.2.2)) := Lib.hid (HKr.out.step (by have := HKL.out; dsimp only; omega) HV2.out HLK.out)
              have HCN7 := Lib.hid HI7.out.count
              clear hk7 hlen7 hD7 hkgr hkgM hW7 hl7
              go_wp2
              go_roundw
              case rel => exact ⟨_, _, HI7, HD7, HK7, Lib.hid (fun p hp => HS.out p ((List.mem_filter.1 hp).1)), HL7⟩
              case measure =>
                rw [HCN7.out, HCNT.out]
                exact HLES.out
  · rw [if_pos rfl] at hA
    have HR2 := Lib.hid hA
    clear hD1 hl1 hA
    go_wp2
    go_ret3
    rw [← HR2.out]
    exact ⟨.slice none 0 0, rfl, World.ownsRow_nil _ _ _ _, F, ⟨M, _, _, _, _, HD1.out⟩, HL1.out.mono (by simpa using hRF), fun k hk => hk, fun k hk => by cases hk⟩
end
end Go.Proofs.Ytcgdlmlolmfinaa
