import Derived.Test.YtnjmplapjnnjdaaLFloors
set_option linter.unusedSimpArgs false
set_option linter.unusedVariables false
set_option linter.unnecessarySimpa false
/- The walks of the checks that rows share nothing. -/
namespace Go.Proofs.Ytnjmplapjnnjdaa
open Go.RowKit

def m8 (i j : Nat) : Int := wrap64 (wrap64 (wrap64 (31 * (i : Int)) + wrap64 (7 * (j : Int))) + 1) % 256
def mk8 (i j : Nat) : Value := .int .u8 (m8 i j)
theorem law01_mark (i j : Nat) (w : World) : Pure Try.prog 49 #[.int .i64 i, .int .i64 j] w (.int .u8 (m8 i j)) := by
  go_enter Try.func49, Try.ntmps49
  go_wp2
  go_ret
  exact ⟨rfl, Below.refl _ _⟩
set_option maxRecDepth 5000 in
set_option maxHeartbeats 1000000 in
theorem law01_ApartBytes (vs : List Value) (al : Option Addr) (cl B : Nat) (w : World) (h63 : (vs.length : Int) ≤ 9223372036854775807) (hl : ApList w al vs) (hok : ApOk w B 5 vs mk8 0 0) (hs : ApSep vs) (hB : B ≤ w.heap.size) :
    Calls Try.prog 21 #[.slice al vs.length cl] w (ApAns vs w) := by
  have hlt : ∀ b, ApH vs b → b < w.heap.size := fun b ⟨i, v, hv, hb⟩ => (hok.lt hv hb).2
  go_enter Try.func21, Try.ntmps21
  go_wp2_with fail
  go_loopw [3] (fun i wr => ∃ c : Nat, c ≤ vs.length ∧ i = .int .i64 c ∧ ApOk wr B 5 vs mk8 c 0 ∧ Turn (ApH vs) w wr) (fun i _ => vs.length - (intOf i).toNat)
  case atStart => exact ⟨0, Nat.zero_le _, rfl, hok, Turn.refl _ _⟩
  case round =>
    obtain ⟨c, hc, rfl, hO, hT⟩ := hrel
    by_cases hcl : c < vs.length
    · obtain ⟨k1, k2⟩ := ap_lt hcl
      have hb1 := ap_bd hcl h63
      obtain ⟨v, hv⟩ : ∃ v, vs[c]? = some v := ⟨_, List.getElem?_eq_getElem hcl⟩
      obtain ⟨a, n, cc, rfl, hn, _⟩ := hO.at_ hv
      go_wp2_with fail
      go_loopw [4] (fun i wr => ∃ j : Nat, j ≤ n ∧ i = .int .i64 j ∧ ApOk wr B 5 vs mk8 c j ∧ Turn (ApH vs) w wr) (fun i _ => n - (intOf i).toNat)
      case atStart => exact ⟨0, Nat.zero_le _, rfl, hO, hT⟩
      case round =>
        clear hO hT
        obtain ⟨j, hj, rfl, hO, hT⟩ := hrel
        obtain ⟨gl, ol, rfl, q1, hgl⟩ := hl.turn hT c _ hv
        by_cases hjn : j < n
        · obtain ⟨a', n', c', he, _, hat⟩ := hO.at_ hv
          obtain ⟨rfl, rfl, rfl⟩ : a = a' ∧ n = n' ∧ cc = c' := by simpa using he
          obtain ⟨g, u, rfl, q2, q3, _⟩ := hat j hjn
          clear hat he
          obtain ⟨k3, k4⟩ := ap_lt hjn
          have hb2 := ap_bd hjn (Int.le_trans (Int.ofNat_le.2 hn) (by decide))
          have Q1 := KeptW.cell q1
          go_upto_region 7 with (fail)
          (refine wp_region_kept_tail 9 (by kernel_rfl) (by kernel_rfl) ?_; simp only [List.take_succ_cons, List.take_zero, List.drop_succ_cons, List.drop_zero])
          repeat first
            | go_big_quiet_step (exact Calls.kept (law01_mark c j _))
          refine wpQuiet_nil ?_
          intro w6 B6
          have hT6 := hT.trans (Turn.ofBelow (H := ApH vs) B6)
          have hO6 := hO.turn (W := w6) fun i v k hv hk => B6.block k (hO.lt hv hk).2
          have q26 := (B6.cell (lt_of_cell q2)).trans q2
          have q36 := (B6.frozen (p := ⟨g, j, none⟩) (lt_of_cell q2)).trans q3
          clear hO hT q1 Q1 q2 q3
          have N1 := hO6.set hs hv hjn
          have N2 := hT6.trans (Turn.setCell w6 ⟨g, j, none⟩ (mk8 c j) (H := ApH vs) ⟨c, _, hv, rfl⟩)
          unfold mk8 at N1 N2
          go_wp2
          go_roundw
          case measure => first | exact ap_meas' hjn | exact ap_meas hjn hb2
          case rel => exact ⟨j + 1, hjn, (by first | rfl | exact congrArg (Value.int .i64) (ap_succ hb2)), N1, N2⟩
        · obtain rfl := ap_end hjn hj
          have k3 : decide ((j : Int) < (j : Int)) = false := by simp
          go_wp2
          go_roundw
          case measure => first | exact ap_meas' hcl | exact ap_meas hcl hb1
          case rel => exact ⟨c + 1, hcl, (by first | rfl | exact congrArg (Value.int .i64) (ap_succ hb1)), hO.next hv, hT⟩
    · obtain rfl := ap_end hcl hc
      have k3 : decide ((vs.length : Int) < (vs.length : Int)) = false := by simp
      go_wp2_with fail
      go_loopw [5] (fun i wr => ∃ c : Nat, c ≤ vs.length ∧ i = .int .i64 c ∧ ApOk wr B 5 vs mk8 vs.length 0 ∧ Turn (ApH vs) w wr) (fun i _ => vs.length - (intOf i).toNat)
      case atStart => exact ⟨0, Nat.zero_le _, rfl, hO, hT⟩
      case round =>
        clear hO hT
        obtain ⟨c, hc, rfl, hO, hT⟩ := hrel
        by_cases hcl : c < vs.length
        · obtain ⟨k1, k2⟩ := ap_lt hcl
          have hb1 := ap_bd hcl h63
          obtain ⟨v, hv⟩ : ∃ v, vs[c]? = some v := ⟨_, List.getElem?_eq_getElem hcl⟩
          have hM := hO.more (S := w.heap.size) hcl hv
          obtain ⟨gl, ol, rfl, q1, hgl⟩ := hl.turn hT c _ hv
          go_wp2_with fail
          go_loopw [6, 7] (fun m i wr => ∃ k : Nat, k ≤ 40 ∧ i = .int .i64 k ∧ ApMore wr w.heap.size B 5 vs mk8 c m k ∧ ApOk wr B 5 vs mk8 vs.length 0 ∧ Turn (ApH vs) w wr) (fun _ i _ => 40 - (intOf i).toNat)
          case atStart => exact ⟨0, Nat.zero_le _, rfl, hM, hO, hT⟩
          case round =>
            clear hO hT hM
            obtain ⟨k, hk, rfl, hM, hO, hT⟩ := hrel
            by_cases hk4 : k < 40
            · obtain ⟨a, n, cc, hv', hn, ys, hown, hys, hwh⟩ := hM
              have k3 : decide ((k : Int) < 40) = true := by simp; omega
              have hb2 : (k : Int) + 1 ≤ 9223372036854775807 := by omega
              have hm40 : n + k + 1 ≤ 5000 := by omega
              have hsz := hT.size
              have hBw : B ≤ wr.heap.size := Nat.le_trans hB hsz
              go_wp2_with (at_builtin; refine apP (us := [.int .u8 254]) (m := 1) hown (by decide) (by decide) rfl rfl rfl (by intro u hu; simp at hu; subst hu; rfl) (by omega) (by omega) hBw ?_; intro v2 w2 hown2 hgr2)
              have hst := ApMore.step hO hs hsz hlt hv' hn hown hys hwh hown2 hgr2
              have hT2 := hT.apart hst.2.2
              go_roundw
              case measure => first | exact ap_meas' hk4 | exact ap_meas hk4 hb2
              case rel => exact ⟨k + 1, hk4, (by first | rfl | exact congrArg (Value.int .i64) (ap_succ hb2)), hst.1, hst.2.1, hT2⟩
            · obtain rfl := ap_end hk4 hk
              go_wp2
              go_roundw
              case measure => first | exact ap_meas' hcl | exact ap_meas hcl hb1
              case rel => exact ⟨c + 1, hcl, (by first | rfl | exact congrArg (Value.int .i64) (ap_succ hb1)), hO, hT⟩
        · obtain rfl := ap_end hcl hc
          go_wp2_with fail
          go_loopw [8] (fun i wr => ∃ c : Nat, c ≤ vs.length ∧ i = .int .i64 c ∧ ApOk wr B 5 vs mk8 vs.length 0 ∧ Turn (ApH vs) w wr) (fun i _ => vs.length - (intOf i).toNat)
          case atStart => exact ⟨0, Nat.zero_le _, rfl, hO, hT⟩
          case round =>
            clear hO hT
            obtain ⟨c, hc, rfl, hO, hT⟩ := hrel
            by_cases hcl : c < vs.length
            · obtain ⟨k1, k2⟩ := ap_lt hcl
              have hb1 := ap_bd hcl h63
              obtain ⟨v, hv⟩ : ∃ v, vs[c]? = some v := ⟨_, List.getElem?_eq_getElem hcl⟩
              obtain ⟨a, n, cc, rfl, hn, _⟩ := hO.at_ hv
              go_wp2_with fail
              go_loopw [9] (fun i wr => ∃ j : Nat, j ≤ n ∧ i = .int .i64 j ∧ ApOk wr B 5 vs mk8 vs.length 0 ∧ Turn (ApH vs) w wr) (fun i _ => n - (intOf i).toNat)
              case atStart => exact ⟨0, Nat.zero_le _, rfl, hO, hT⟩
              case round =>
                clear hO hT
                obtain ⟨j, hj, rfl, hO, hT⟩ := hrel
                obtain ⟨gl, ol, rfl, q1, hgl⟩ := hl.turn hT c _ hv
                by_cases hjn : j < n
                · obtain ⟨a', n', c', he, _, hat⟩ := hO.at_ hv
                  obtain ⟨rfl, rfl, rfl⟩ : a = a' ∧ n = n' ∧ cc = c' := by simpa using he
                  obtain ⟨g, u, rfl, q2, q3, hu⟩ := hat j hjn
                  obtain rfl := hu (.inl hcl)
                  clear hat he hu
                  obtain ⟨k3, k4⟩ := ap_lt hjn
                  have hb2 := ap_bd hjn (Int.le_trans (Int.ofNat_le.2 hn) (by decide))
                  have Q1 := KeptW.cell q1
                  unfold mk8 at q2
                  have Q2 := KeptW.cell q2
                  go_upto_region 22 with (fail)
                  refine wp_region_kept (by kernel_rfl) (by kernel_rfl) ?_
                  repeat first
                    | go_big_quiet_step (exact Calls.kept (law01_mark c j _))
                  refine wpQuiet_nil ?_
                  intro w6 B6
                  have N2 := hT.trans (Turn.ofBelow (H := ApH vs) B6)
                  have N1 := hO.turn (W := w6) fun i v k hv hk => B6.block k (hO.lt hv hk).2
                  clear hO hT q1 Q1 q2 q3 Q2
                  go_wp2
                  go_roundw
                  case measure => first | exact ap_meas' hjn | exact ap_meas hjn hb2
                  case rel => exact ⟨j + 1, hjn, (by first | rfl | exact congrArg (Value.int .i64) (ap_succ hb2)), N1, N2⟩
                · obtain rfl := ap_end hjn hj
                  have k3 : decide ((j : Int) < (j : Int)) = false := by simp
                  go_wp2
                  go_roundw
                  case measure => first | exact ap_meas' hcl | exact ap_meas hcl hb1
                  case rel => exact ⟨c + 1, hcl, (by first | rfl | exact congrArg (Value.int .i64) (ap_succ hb1)), hO, hT⟩
            · obtain rfl := ap_end hcl hc
              go_wp2
              go_ret
              exact ⟨rfl, hT⟩
end Go.Proofs.Ytnjmplapjnnjdaa

/- Rows that share nothing, each in a block that may be longer than its room: the check that they do. -/
namespace Go.Proofs.Ytnjmplapjnnjdaa
open Go.RowKit

/-- A row of its own, in a block that may go on behind its room. -/
def World.ownsX (w : World) (base : Nat) (e : TypeId) (size : Nat) (v : Value) (n : Nat) (xs : List Value) : Prop :=
  xs.length = n * size ∧ ((v = .slice none 0 0 ∧ n = 0) ∨ ∃ g cap cur, v = .slice (some ⟨g, 0, none⟩) n cap ∧ base ≤ g ∧ w.heap[g]? = some (.cells cur e (0, 0)) ∧ n ≤ cap ∧ cap ≤ maxLen ∧ cap * size ≤ cur.size ∧ cur.toList.take (n * size) = xs)
theorem World.ownsX.lt {w : World} {base e size n : Nat} {v : Value} {xs : List Value} (h : World.ownsX w base e size v n xs) : ∀ k, v.ownBlock = some k → base ≤ k ∧ k < w.heap.size := by
  intro k hk
  rcases h.2 with ⟨rfl, _⟩ | ⟨g, cap, cur, rfl, hb, hg, _⟩
  · simp [Value.ownBlock] at hk
  · simp [Value.ownBlock] at hk
    subst hk
    exact ⟨hb, (Array.getElem?_eq_some_iff.1 hg).1⟩
theorem World.ownsX.alloc {w : World} {base e size n : Nat} {v : Value} {xs : List Value} (h : World.ownsX w base e size v n xs) (o : Obj) : World.ownsX (w.alloc o) base e size v n xs := by
  refine ⟨h.1, h.2.imp id ?_⟩
  rintro ⟨g, cap, cur, h1, h2, h3, h4⟩
  exact ⟨g, cap, cur, h1, h2, (heap_alloc_old w o (Array.getElem?_eq_some_iff.1 h3).1).trans h3, h4⟩
theorem World.ownsX.cells {w : World} {base e size n : Nat} {v : Value} {xs : List Value} (h : World.ownsX w base e size v n xs) {g : Nat} (hg : v.ownBlock = some g) : ∀ j u, xs[j]? = some u → w.cell? ((⟨g, 0, none⟩ : Addr).add j) = some u := by
  intro j u hu
  rcases h.2 with ⟨rfl, _⟩ | ⟨g', cap, cur, rfl, _, hgg, _, _, _, htake⟩
  · simp [Value.ownBlock] at hg
  · simp [Value.ownBlock] at hg
    subst hg
    have hadd : (⟨g', 0, none⟩ : Addr).add j = ⟨g', j, none⟩ := by unfold Addr.add; split <;> simp_all
    rw [hadd, cell_of_row w g' j cur e (0, 0) hgg]
    rw [← htake, List.getElem?_take] at hu
    split at hu
    · simpa using hu
    · cases hu
theorem own_cellX {w : World} {base e g n c j : Nat} {xs : List Value} {u : Value} (h : World.ownsX w base e 1 (.slice (some ⟨g, 0, none⟩) n c) n xs) (hu : xs[j]? = some u) : w.cell? ⟨g, j, none⟩ = some u := by
  have := World.ownsX.cells h (g := g) rfl j u hu
  have hadd : (⟨g, 0, none⟩ : Addr).add j = ⟨g, j, none⟩ := by unfold Addr.add; split <;> simp_all
  rwa [hadd] at this
section
variable {P : Program} (w : World)
/-- The library's law on 'append', with one word more: where the row is a new one, nothing that lay there has turned. -/
theorem run_append_apartX (base : Nat) (t ty e : TypeId) (i : TypeInfo) (z : Value) (size bytes : Nat) (ht : P.underlying t = some (.slice e)) (hi : P.info? e = some i) (hz : i.zero = some z)
    (hsize : i.size = size) (hby : i.bytes = bytes) (hzs : z.cells.size = size) (hsz : 0 < size)
    (v : Value) (n : Nat) (xs : List Value) (hown : World.ownsX w base e size v n xs)
    (a : Addr) (m c : Nat) (hm : 0 < m) (news : List Value) (hl : news.length = m * size) (hnews : ∀ j u, news[j]? = some u → w.cell? (a.add j) = some u) (h1 : ∀ u ∈ news, u.oneCell' = true)
    (h63 : n + m ≤ maxLen) (hbytes : (n + m) * bytes ≤ 140737488355328) (hbase : base ≤ w.heap.size) :
    ∃ v' w', (Builtin.append_ #[t, t] ty #[v, .slice (some a) m c]).run P w = .ok v' w' ∧ World.ownsX w' base e size v' (n + m) (xs ++ news) ∧
      ((∃ g c, v = .slice (some ⟨g, 0, none⟩) n c ∧ v' = .slice (some ⟨g, 0, none⟩) (n + m) c ∧ w.grownBy w' (some g)) ∨ (v'.ownBlock = some w.heap.size ∧ w.grownBy w' none)) := by
  subst hsize
  subst hby
  have hlen : (xs ++ news).length = (n + m) * i.size := by rw [List.length_append, hown.1, hl, Nat.add_mul]
  have grown : ∀ (old : Nat), old < n + m →
      World.ownsX (w.drew.alloc (.cells (xs.toArray ++ news.toArray ++ Builtin.zeroCells z.cells (grownCap w (n + m) old e - (n + m))) e)) base e i.size
        (.slice (some ⟨w.heap.size, 0, none⟩) (n + m) (grownCap w (n + m) old e)) (n + m) (xs ++ news) ∧
      w.grownBy (w.drew.alloc (.cells (xs.toArray ++ news.toArray ++ Builtin.zeroCells z.cells (grownCap w (n + m) old e - (n + m))) e)) none := by
    intro old ho
    have hge := grownCap_ge w (n + m) old e
    have hcm : grownCap w (n + m) old e ≤ maxLen := grownCap_le_maxLen w (n + m) old e h63
    refine ⟨⟨hlen, .inr ⟨w.heap.size, _, _, rfl, hbase, heap_alloc_new w.drew _, hge, hcm, ?_, ?_⟩⟩, ⟨rfl, rfl, rfl, by simp, fun k hk _ => heap_alloc_old w.drew _ hk⟩⟩
    · refine Nat.le_of_eq (Eq.symm ?_)
      simp only [Array.size_append, List.size_toArray, size_zeroCells, hzs, hown.1, hl, ← Nat.add_mul]
      congr 1
      omega
    · simp only [Array.toList_append, List.append_assoc]
      rw [← List.append_assoc, ← hlen]
      exact List.take_left
  have h63' : n + m ≤ 9223372036854775807 := by simp only [maxLen] at h63; omega
  rcases hown.2 with ⟨rfl, rfl⟩ | ⟨g, cap, cur, rfl, hbg, hg, hnc, hcm, hcs, htake⟩
  · have hx : xs = [] := List.eq_nil_of_length_eq_zero (by simpa using hown.1)
    subst hx
    have hr := run_append_nil (P := P) w t ty e i z ht hi hz a m c news hl hnews (by omega) (by omega) (by have hb := hbytes; simp only [Nat.zero_add] at hb; omega)
    have hgr := grown 0 (by omega)
    simp only [Nat.zero_add, List.nil_append, Array.empty_append] at hgr ⊢
    exact ⟨_, _, hr, hgr.1, Or.inr ⟨rfl, hgr.2⟩⟩
  · by_cases hroom : n + m ≤ cap
    · have hfit : n * i.size + news.length ≤ cur.size := by rw [hl, ← Nat.add_mul]; exact Nat.le_trans (Nat.mul_le_mul_right _ hroom) hcs
      have hr := run_append_room (P := P) w t ty e i ht hi g n cap cur hg a m c news hl hnews h1 hroom hfit
      refine ⟨_, _, hr, ⟨hlen, .inr ⟨g, cap, _, rfl, hbg, setRow_heap w g cur _ e _ hg, hroom, hcm, ?_, ?_⟩⟩, Or.inl ⟨g, cap, rfl, rfl, ⟨rfl, rfl, rfl, by simp, fun k _ hk => setRow_other w g k _ (fun e => hk (by simp [e]))⟩⟩⟩
      · simp only [List.size_toArray, List.length_append, List.length_take, List.length_drop, Array.length_toList]
        omega
      · rw [htake, ← hlen]
        exact List.take_left
    · have holds : ∀ j u, xs[j]? = some u → w.cell? ((⟨g, 0, none⟩ : Addr).add j) = some u := World.ownsX.cells hown (g := g) rfl
      have hr := run_append_grow (P := P) w t ty e i z ht hi hz ⟨g, 0, none⟩ n cap xs hown.1 holds a m c news hl hnews (by omega) (by omega) (growslice_fits (by omega) hbytes)
      have hgr := grown cap (by omega)
      exact ⟨_, _, hr, hgr.1, Or.inr ⟨rfl, hgr.2⟩⟩
end
/-- THE ARM, the new elements laid in a block of their own just before. -/
theorem apPX {P : Program} {ops : Array Oper} {rest : List Oper} {l : List Value} {ds : List Deferred} {w : World} {Q : Exit → Act → World → Prop} {t e te d n m c size bytes base : Nat} {s x : Operand} {z v : Value} {xs us : List Value} {ty : TypeId} {ps : String} {af : Array Edge}
    [S : SlTy P t e] [E : ElTy P e z size bytes] (hown : World.ownsX w base e size v n xs) (hsz : 0 < size) (hm : 0 < m) (hs : (Act.mk l.toArray ds).eval s = v) (hx : (Act.mk l.toArray ds).eval x = .slice (some ⟨w.heap.size, 0, none⟩) m c)
    (hl : us.length = m * size) (h1 : ∀ u ∈ us, u.oneCell' = true) (h63 : n + m ≤ 9223372036854775807 / 65536) (hbytes : (n + m) * bytes ≤ 140737488355328) (hbase : base ≤ w.heap.size)
    (h : ∀ v' w', World.ownsX w' base e size v' (n + m) (xs ++ us) → ((∃ g c, v = .slice (some ⟨g, 0, none⟩) n c ∧ v' = .slice (some ⟨g, 0, none⟩) (n + m) c ∧ w.grownBy w' (some g)) ∨ (v'.ownBlock = some (w.heap.size + 1) ∧ w.grownBy w' none)) → wpList P ops Q rest ⟨(l.set d v').toArray, ds⟩ w') :
    wpList P ops Q (⟨some d, .call { callee := .builtin .append, args := #[s, x], argTypes := #[t, t] }, ty, ps, af, none⟩ :: rest) ⟨l.toArray, ds⟩ (w.alloc (.cells us.toArray te)) := by
  obtain ⟨i, hi, hz0, hz1, hz2, hz3⟩ := E.out
  obtain ⟨v', w', hr, h2, h3⟩ := run_append_apartX (P := P) (w.alloc (.cells us.toArray te)) base t ty e i z size bytes S.out hi hz0 hz1 hz2 hz3 hsz v n xs (World.ownsX.alloc hown _) ⟨w.heap.size, 0, none⟩ m c hm us hl (alloc_cells_new w us te) h1 (by unfold maxLen; omega) hbytes (by simp; omega)
  refine wpList_plain rfl fun K hK => ?_
  unfold Oper.wp execOp
  simp only [resolve, invoke, builtin, Sem.run_bind, Sem.run_pure, Result.andThen_ok, List.map_toArray, List.map_cons, List.map_nil, hs, hx, hr]
  rw [Oper.upon_value, put_list]
  refine hK _ _ (h v' w' h2 ?_)
  rcases h3 with ⟨g, c, h3, h5, h4⟩ | ⟨h3, h4⟩
  · exact .inl ⟨g, c, h3, h5, (World.grownBy_alloc w _ _).trans h4⟩
  · exact .inr ⟨by simpa using h3, (World.grownBy_alloc w _ _).trans h4⟩

/-! ### A row that is owned, where a cell of it is set, or its end grows -/
section
variable {w w' : World} {B : Nat} {e n c g : Nat} {v : Value} {xs : List Value}
theorem owns_setX (h : World.ownsX w B e 1 (.slice (some ⟨g, 0, none⟩) n c) n xs) (j : Nat) (u : Value) : World.ownsX (w.setCell ⟨g, j, none⟩ u) B e 1 (.slice (some ⟨g, 0, none⟩) n c) n (xs.set j u) := by
  refine ⟨by rw [List.length_set]; exact h.1, ?_⟩
  rcases h.2 with ⟨h, _⟩ | ⟨g', cap, cur, hv, hb, hg, hnc, hcm, hcs, htake⟩
  · cases h
  · obtain ⟨rfl, rfl⟩ : g = g' ∧ c = cap := by simpa using hv
    refine .inr ⟨g, c, cur.setIfInBounds j u, rfl, hb, ?_, hnc, hcm, by simpa using hcs, ?_⟩
    · exact setCell_block w g j u cur e _ hg
    · rw [Array.toList_setIfInBounds, List.take_set, htake]
theorem owns_blockX (h : World.ownsX w B e 1 v n xs) (hk : ∀ k, v.ownBlock = some k → w'.heap[k]? = w.heap[k]?) : World.ownsX w' B e 1 v n xs := by
  refine ⟨h.1, ?_⟩
  rcases h.2 with h | ⟨g', cap, cur, hv, hb, hg, rest⟩
  · exact .inl h
  · exact .inr ⟨g', cap, cur, hv, hb, (hk g' (by rw [hv]; rfl)).trans hg, rest⟩
/-- a row that has grown in its place -/
theorem owns_prefixX {m : Nat} (h : World.ownsX w B e 1 (.slice (some ⟨g, 0, none⟩) (n + m) c) (n + m) xs) : World.ownsX w B e 1 (.slice (some ⟨g, 0, none⟩) n c) n (xs.take n) := by
  have hl := h.1
  refine ⟨by rw [List.length_take]; omega, ?_⟩
  rcases h.2 with ⟨h0, _⟩ | ⟨g', cap, cur, hv, hb, hg, hnc, hcm, hcs, htake⟩
  · cases h0
  obtain ⟨rfl, rfl⟩ : g = g' ∧ c = cap := by simpa using hv
  refine .inr ⟨g, c, cur, rfl, hb, hg, by omega, hcm, hcs, ?_⟩
  have h3 := congrArg (List.take n) htake
  rw [List.take_take, Nat.min_eq_left (by omega)] at h3
  rw [← h3, Nat.mul_one]
end

/-! ### Many rows -/
/-- The rows are owned, hold at most 4096, and bear their marks up to a place. -/
def ApOkX (W : World) (B e : Nat) (vs : List Value) (mk : Nat → Nat → Value) (i0 j0 : Nat) : Prop :=
  ∀ i v, vs[i]? = some v → ∃ a n c xs, v = .slice a n c ∧ n ≤ 4096 ∧ World.ownsX W B e 1 v n xs ∧ ∀ j, j < n → (i < i0 ∨ (i = i0 ∧ j < j0)) → xs[j]? = some (mk i j)
theorem ApOkX.turn {w W : World} {B e : Nat} {vs : List Value} {mk : Nat → Nat → Value} {i0 j0 : Nat} (h : ApOkX w B e vs mk i0 j0) (hk : ∀ (i : Nat) (v : Value) (k : Nat), vs[i]? = some v → v.ownBlock = some k → W.heap[k]? = w.heap[k]?) : ApOkX W B e vs mk i0 j0 := fun i v hv => by
  obtain ⟨a, n, c, xs, h1, h2, h3, h4⟩ := h i v hv
  exact ⟨a, n, c, xs, h1, h2, owns_blockX h3 (fun k hb => hk i v k hv hb), h4⟩
theorem ApOkX.lt {w : World} {B e : Nat} {vs : List Value} {mk : Nat → Nat → Value} {i0 j0 : Nat} (h : ApOkX w B e vs mk i0 j0) {i k : Nat} {v : Value} (hv : vs[i]? = some v) (hk : v.ownBlock = some k) : B ≤ k ∧ k < w.heap.size := by
  obtain ⟨a, n, c, xs, h1, h2, h3, h4⟩ := h i v hv
  exact World.ownsX.lt h3 k hk
/-- the row at a place, for the walk -/
theorem ApOkX.at_ {w : World} {B e : Nat} {vs : List Value} {mk : Nat → Nat → Value} {i0 j0 i : Nat} {v : Value} (h : ApOkX w B e vs mk i0 j0) (hv : vs[i]? = some v) : ∃ a n c, v = .slice a n c ∧ n ≤ 4096 ∧ ∀ j, j < n → ∃ g u, a = some ⟨g, 0, none⟩ ∧ w.cell? ⟨g, j, none⟩ = some u ∧ w.frozen? ⟨g, j, none⟩ = false ∧ ((i < i0 ∨ (i = i0 ∧ j < j0)) → u = mk i j) := by
  obtain ⟨a, n, c, xs, rfl, h2, h3, h4⟩ := h i v hv
  refine ⟨a, n, c, rfl, h2, fun j hj => ?_⟩
  have hx : xs.length = n := by have := h3.1; omega
  have h3' := h3
  rcases h3.2 with ⟨h0, h0'⟩ | ⟨g, cap, cur, hv', hb, hg, hnc, hcm, hcs, htake⟩
  · omega
  obtain ⟨rfl, rfl⟩ : a = some ⟨g, 0, none⟩ ∧ c = cap := by simpa using hv'
  have hc := own_cellX h3' (j := j) (List.getElem?_eq_getElem (by omega))
  refine ⟨g, _, rfl, hc, Box.frozen ⟨_, hg⟩ j, fun hm => ?_⟩
  have := h4 j hj hm
  rw [List.getElem?_eq_getElem (by omega)] at this
  exact Option.some.inj this
theorem ApOkX.set {w : World} {B e : Nat} {vs : List Value} {mk : Nat → Nat → Value} {i j g n c : Nat} (h : ApOkX w B e vs mk i j) (hs : ApSep vs) (hv : vs[i]? = some (.slice (some ⟨g, 0, none⟩) n c)) (hj : j < n) : ApOkX (w.setCell ⟨g, j, none⟩ (mk i j)) B e vs mk i (j + 1) := fun i' v' hv' => by
  obtain ⟨a, n', c', xs, h1, h2, h3, h4⟩ := h i' v' hv'
  by_cases hi : i' = i
  · subst hi
    rw [hv] at hv'
    obtain rfl := Option.some.inj hv'
    obtain ⟨rfl, rfl, rfl⟩ : some ⟨g, 0, none⟩ = a ∧ n = n' ∧ c = c' := by simpa using h1
    have hx : xs.length = n := by have := h3.1; omega
    refine ⟨_, n, c, _, rfl, h2, owns_setX h3 j (mk i' j), fun k hk hm => ?_⟩
    rw [List.getElem?_set]
    by_cases hjk : j = k
    · subst hjk
      rw [if_pos rfl, if_pos (by omega)]
    · rw [if_neg hjk]
      exact h4 k hk (by omega)
  · refine ⟨a, n', c', xs, h1, h2, owns_blockX h3 fun k hk => ?_, fun k hk hm => h4 k hk (by omega)⟩
    refine Below.heap_setCell _ _ _ _ fun he => ?_
    exact hs i i' _ v' g (fun e => hi e.symm) hv hv' rfl (by rw [hk]; simp at he; rw [he])
theorem ApOkX.next {w : World} {B e : Nat} {vs : List Value} {mk : Nat → Nat → Value} {i n c : Nat} {a : Option Addr} (h : ApOkX w B e vs mk i n) (hv : vs[i]? = some (.slice a n c)) : ApOkX w B e vs mk (i + 1) 0 := fun i' v' hv' => by
  obtain ⟨a', n', c', xs, h1, h2, h3, h4⟩ := h i' v' hv'
  refine ⟨a', n', c', xs, h1, h2, h3, fun k hk hm => h4 k hk ?_⟩
  by_cases hi : i' = i
  · subst hi
    rw [hv] at hv'
    obtain rfl := Option.some.inj hv'
    obtain ⟨_, rfl, _⟩ : a = a' ∧ n = n' ∧ c = c' := by simpa using h1
    exact .inr ⟨rfl, hk⟩
  · exact .inl (by omega)
/-- What grows, beside the rows: it lies behind S, or it is the i-th one itself. -/
def ApMoreX (W : World) (S B e : Nat) (vs : List Value) (mk : Nat → Nat → Value) (i : Nat) (more : Value) (k : Nat) : Prop :=
  ∃ a n c, vs[i]? = some (.slice a n c) ∧ n ≤ 4096 ∧ ∃ ys, World.ownsX W B e 1 more (n + k) ys ∧ (∀ j, j < n → ys[j]? = some (mk i j)) ∧
    ((∀ b, more.ownBlock = some b → S ≤ b) ∨ more = .slice a (n + k) c)
theorem ApOkX.more {w : World} {S B e : Nat} {vs : List Value} {mk : Nat → Nat → Value} {i i0 : Nat} {v : Value} (h : ApOkX w B e vs mk i0 0) (hi : i < i0) (hv : vs[i]? = some v) : ApMoreX w S B e vs mk i v 0 := by
  obtain ⟨a, n, c, xs, rfl, h2, h3, h4⟩ := h i v hv
  exact ⟨a, n, c, hv, h2, xs, h3, fun j hj => h4 j hj (.inl hi), .inr rfl⟩
theorem ApMoreX.step {w w' : World} {S B e : Nat} {vs : List Value} {mk : Nat → Nat → Value} {i i0 k n : Nat} {more v' : Value} {a : Option Addr} {c : Nat} {ys us : List Value} (hok : ApOkX w B e vs mk i0 0) (hs : ApSep vs) (hS : S ≤ w.heap.size) (hlt : ∀ b, ApH vs b → b < S)
    (hv : vs[i]? = some (.slice a n c)) (h2 : n ≤ 4096) (h3 : World.ownsX w B e 1 more (n + k) ys) (h4 : ∀ j, j < n → ys[j]? = some (mk i j)) (h5 : (∀ b, more.ownBlock = some b → S ≤ b) ∨ more = .slice a (n + k) c)
    (hn : World.ownsX w' B e 1 v' (n + k + 1) (ys ++ us))
    (hg : (∃ g c, more = .slice (some ⟨g, 0, none⟩) (n + k) c ∧ v' = .slice (some ⟨g, 0, none⟩) (n + k + 1) c ∧ w.grownBy w' (some g)) ∨ (v'.ownBlock = some (w.heap.size + 1) ∧ w.grownBy w' none)) :
    ApMoreX w' S B e vs mk i v' (k + 1) ∧ ApOkX w' B e vs mk i0 0 ∧ Turn (fun b => ApH vs b ∨ S ≤ b) w w' := by
  have hy : ys.length = n + k := by have := h3.1; omega
  have h4' : ∀ j, j < n → (ys ++ us)[j]? = some (mk i j) := fun j hj => by rw [List.getElem?_append_left (by omega)]; exact h4 j hj
  rcases hg with ⟨g, c', rfl, rfl, hg⟩ | ⟨hb, hg⟩
  · rcases h5 with h5 | h5
    · have hgS := h5 g rfl
      have hng : ¬ApH vs g := fun h => by have := hlt g h; omega
      refine ⟨⟨a, n, c, hv, h2, ys ++ us, hn, h4', .inl fun b hb => ?_⟩, hok.turn fun i' v' b hv' hb => hg.block b (hok.lt hv' hb).2 fun e => hng ⟨i', v', hv', by rw [hb]; exact e⟩, ⟨hg.os, hg.tape, hg.output, hg.size, fun b hb hn => hg.block b hb fun e => hn (.inr (Option.some.inj e ▸ hgS))⟩⟩
      obtain rfl : g = b := by simpa [Value.ownBlock] using hb
      exact hgS
    · obtain ⟨rfl, rfl⟩ : some ⟨g, 0, none⟩ = a ∧ c' = c := by simpa using h5
      refine ⟨⟨_, n, c', hv, h2, ys ++ us, hn, h4', .inr (by rw [Nat.add_assoc])⟩, fun i' v hv' => ?_, ⟨hg.os, hg.tape, hg.output, hg.size, fun b hb hn => hg.block b hb fun e => hn (.inl ⟨i, _, hv, e.symm⟩)⟩⟩
      by_cases hii : i' = i
      · subst hii
        rw [hv] at hv'
        obtain rfl := Option.some.inj hv'
        have hp := owns_prefixX (n := n) (m := k + 1) (by rw [← Nat.add_assoc]; exact hn)
        refine ⟨_, n, c', _, rfl, h2, hp, fun j hj _ => ?_⟩
        rw [List.getElem?_take, if_pos hj]
        exact h4' j hj
      · obtain ⟨a', n', c'', xs, e1, e2, e3, e4⟩ := hok i' v hv'
        exact ⟨a', n', c'', xs, e1, e2, owns_blockX e3 fun b hb => hg.block b (World.ownsX.lt e3 b hb).2 fun e => hs i i' _ v g (fun e => hii e.symm) hv hv' rfl (by rw [hb]; exact e), e4⟩
  · refine ⟨⟨a, n, c, hv, h2, ys ++ us, hn, h4', .inl fun b hb' => ?_⟩, hok.turn fun i' v' b hv' hb => hg.block b (hok.lt hv' hb).2 (by simp), ⟨hg.os, hg.tape, hg.output, hg.size, fun b hb hn => hg.block b hb (by simp)⟩⟩
    obtain rfl : w.heap.size + 1 = b := by rw [hb] at hb'; exact Option.some.inj hb'
    omega
set_option maxRecDepth 5000 in
set_option maxHeartbeats 1000000 in
theorem law01_ApartBytesX (vs : List Value) (al : Option Addr) (cl B : Nat) (w : World) (h63 : (vs.length : Int) ≤ 9223372036854775807) (hl : ApList w al vs) (hok : ApOkX w B 5 vs mk8 0 0) (hs : ApSep vs) (hB : B ≤ w.heap.size) :
    Calls Try.prog 21 #[.slice al vs.length cl] w (ApAns vs w) := by
  have hlt : ∀ b, ApH vs b → b < w.heap.size := fun b ⟨i, v, hv, hb⟩ => (hok.lt hv hb).2
  go_enter Try.func21, Try.ntmps21
  go_wp2_with fail
  go_loopw [3] (fun i wr => ∃ c : Nat, c ≤ vs.length ∧ i = .int .i64 c ∧ ApOkX wr B 5 vs mk8 c 0 ∧ Turn (ApH vs) w wr) (fun i _ => vs.length - (intOf i).toNat)
  case atStart => exact ⟨0, Nat.zero_le _, rfl, hok, Turn.refl _ _⟩
  case round =>
    obtain ⟨c, hc, rfl, hO, hT⟩ := hrel
    by_cases hcl : c < vs.length
    · obtain ⟨k1, k2⟩ := ap_lt hcl
      have hb1 := ap_bd hcl h63
      obtain ⟨v, hv⟩ : ∃ v, vs[c]? = some v := ⟨_, List.getElem?_eq_getElem hcl⟩
      obtain ⟨a, n, cc, rfl, hn, _⟩ := hO.at_ hv
      go_wp2_with fail
      go_loopw [4] (fun i wr => ∃ j : Nat, j ≤ n ∧ i = .int .i64 j ∧ ApOkX wr B 5 vs mk8 c j ∧ Turn (ApH vs) w wr) (fun i _ => n - (intOf i).toNat)
      case atStart => exact ⟨0, Nat.zero_le _, rfl, hO, hT⟩
      case round =>
        clear hO hT
        obtain ⟨j, hj, rfl, hO, hT⟩ := hrel
        obtain ⟨gl, ol, rfl, q1, hgl⟩ := hl.turn hT c _ hv
        by_cases hjn : j < n
        · obtain ⟨a', n', c', he, _, hat⟩ := hO.at_ hv
          obtain ⟨rfl, rfl, rfl⟩ : a = a' ∧ n = n' ∧ cc = c' := by simpa using he
          obtain ⟨g, u, rfl, q2, q3, _⟩ := hat j hjn
          clear hat he
          obtain ⟨k3, k4⟩ := ap_lt hjn
          have hb2 := ap_bd hjn (Int.le_trans (Int.ofNat_le.2 hn) (by decide))
          have Q1 := KeptW.cell q1
          go_upto_region 7 with (fail)
          (refine wp_region_kept_tail 9 (by kernel_rfl) (by kernel_rfl) ?_; simp only [List.take_succ_cons, List.take_zero, List.drop_succ_cons, List.drop_zero])
          repeat first
            | go_big_quiet_step (exact Calls.kept (law01_mark c j _))
          refine wpQuiet_nil ?_
          intro w6 B6
          have hT6 := hT.trans (Turn.ofBelow (H := ApH vs) B6)
          have hO6 := hO.turn (W := w6) fun i v k hv hk => B6.block k (hO.lt hv hk).2
          have q26 := (B6.cell (lt_of_cell q2)).trans q2
          have q36 := (B6.frozen (p := ⟨g, j, none⟩) (lt_of_cell q2)).trans q3
          clear hO hT q1 Q1 q2 q3
          have N1 := hO6.set hs hv hjn
          have N2 := hT6.trans (Turn.setCell w6 ⟨g, j, none⟩ (mk8 c j) (H := ApH vs) ⟨c, _, hv, rfl⟩)
          unfold mk8 at N1 N2
          go_wp2
          go_roundw
          case measure => first | exact ap_meas' hjn | exact ap_meas hjn hb2
          case rel => exact ⟨j + 1, hjn, (by first | rfl | exact congrArg (Value.int .i64) (ap_succ hb2)), N1, N2⟩
        · obtain rfl := ap_end hjn hj
          have k3 : decide ((j : Int) < (j : Int)) = false := by simp
          go_wp2
          go_roundw
          case measure => first | exact ap_meas' hcl | exact ap_meas hcl hb1
          case rel => exact ⟨c + 1, hcl, (by first | rfl | exact congrArg (Value.int .i64) (ap_succ hb1)), hO.next hv, hT⟩
    · obtain rfl := ap_end hcl hc
      have k3 : decide ((vs.length : Int) < (vs.length : Int)) = false := by simp
      go_wp2_with fail
      go_loopw [5] (fun i wr => ∃ c : Nat, c ≤ vs.length ∧ i = .int .i64 c ∧ ApOkX wr B 5 vs mk8 vs.length 0 ∧ Turn (ApH vs) w wr) (fun i _ => vs.length - (intOf i).toNat)
      case atStart => exact ⟨0, Nat.zero_le _, rfl, hO, hT⟩
      case round =>
        clear hO hT
        obtain ⟨c, hc, rfl, hO, hT⟩ := hrel
        by_cases hcl : c < vs.length
        · obtain ⟨k1, k2⟩ := ap_lt hcl
          have hb1 := ap_bd hcl h63
          obtain ⟨v, hv⟩ : ∃ v, vs[c]? = some v := ⟨_, List.getElem?_eq_getElem hcl⟩
          have hM := hO.more (S := w.heap.size) hcl hv
          obtain ⟨gl, ol, rfl, q1, hgl⟩ := hl.turn hT c _ hv
          go_wp2_with fail
          go_loopw [6, 7] (fun m i wr => ∃ k : Nat, k ≤ 40 ∧ i = .int .i64 k ∧ ApMoreX wr w.heap.size B 5 vs mk8 c m k ∧ ApOkX wr B 5 vs mk8 vs.length 0 ∧ Turn (ApH vs) w wr) (fun _ i _ => 40 - (intOf i).toNat)
          case atStart => exact ⟨0, Nat.zero_le _, rfl, hM, hO, hT⟩
          case round =>
            clear hO hT hM
            obtain ⟨k, hk, rfl, hM, hO, hT⟩ := hrel
            by_cases hk4 : k < 40
            · obtain ⟨a, n, cc, hv', hn, ys, hown, hys, hwh⟩ := hM
              have k3 : decide ((k : Int) < 40) = true := by simp; omega
              have hb2 : (k : Int) + 1 ≤ 9223372036854775807 := by omega
              have hm40 : n + k + 1 ≤ 5000 := by omega
              have hsz := hT.size
              have hBw : B ≤ wr.heap.size := Nat.le_trans hB hsz
              go_wp2_with (at_builtin; refine apPX (us := [.int .u8 254]) (m := 1) hown (by decide) (by decide) rfl rfl rfl (by intro u hu; simp at hu; subst hu; rfl) (by omega) (by omega) hBw ?_; intro v2 w2 hown2 hgr2)
              have hst := ApMoreX.step hO hs hsz hlt hv' hn hown hys hwh hown2 hgr2
              have hT2 := hT.apart hst.2.2
              go_roundw
              case measure => first | exact ap_meas' hk4 | exact ap_meas hk4 hb2
              case rel => exact ⟨k + 1, hk4, (by first | rfl | exact congrArg (Value.int .i64) (ap_succ hb2)), hst.1, hst.2.1, hT2⟩
            · obtain rfl := ap_end hk4 hk
              go_wp2
              go_roundw
              case measure => first | exact ap_meas' hcl | exact ap_meas hcl hb1
              case rel => exact ⟨c + 1, hcl, (by first | rfl | exact congrArg (Value.int .i64) (ap_succ hb1)), hO, hT⟩
        · obtain rfl := ap_end hcl hc
          go_wp2_with fail
          go_loopw [8] (fun i wr => ∃ c : Nat, c ≤ vs.length ∧ i = .int .i64 c ∧ ApOkX wr B 5 vs mk8 vs.length 0 ∧ Turn (ApH vs) w wr) (fun i _ => vs.length - (intOf i).toNat)
          case atStart => exact ⟨0, Nat.zero_le _, rfl, hO, hT⟩
          case round =>
            clear hO hT
            obtain ⟨c, hc, rfl, hO, hT⟩ := hrel
            by_cases hcl : c < vs.length
            · obtain ⟨k1, k2⟩ := ap_lt hcl
              have hb1 := ap_bd hcl h63
              obtain ⟨v, hv⟩ : ∃ v, vs[c]? = some v := ⟨_, List.getElem?_eq_getElem hcl⟩
              obtain ⟨a, n, cc, rfl, hn, _⟩ := hO.at_ hv
              go_wp2_with fail
              go_loopw [9] (fun i wr => ∃ j : Nat, j ≤ n ∧ i = .int .i64 j ∧ ApOkX wr B 5 vs mk8 vs.length 0 ∧ Turn (ApH vs) w wr) (fun i _ => n - (intOf i).toNat)
              case atStart => exact ⟨0, Nat.zero_le _, rfl, hO, hT⟩
              case round =>
                clear hO hT
                obtain ⟨j, hj, rfl, hO, hT⟩ := hrel
                obtain ⟨gl, ol, rfl, q1, hgl⟩ := hl.turn hT c _ hv
                by_cases hjn : j < n
                · obtain ⟨a', n', c', he, _, hat⟩ := hO.at_ hv
                  obtain ⟨rfl, rfl, rfl⟩ : a = a' ∧ n = n' ∧ cc = c' := by simpa using he
                  obtain ⟨g, u, rfl, q2, q3, hu⟩ := hat j hjn
                  obtain rfl := hu (.inl hcl)
                  clear hat he hu
                  obtain ⟨k3, k4⟩ := ap_lt hjn
                  have hb2 := ap_bd hjn (Int.le_trans (Int.ofNat_le.2 hn) (by decide))
                  have Q1 := KeptW.cell q1
                  unfold mk8 at q2
                  have Q2 := KeptW.cell q2
                  go_upto_region 22 with (fail)
                  refine wp_region_kept (by kernel_rfl) (by kernel_rfl) ?_
                  repeat first
                    | go_big_quiet_step (exact Calls.kept (law01_mark c j _))
                  refine wpQuiet_nil ?_
                  intro w6 B6
                  have N2 := hT.trans (Turn.ofBelow (H := ApH vs) B6)
                  have N1 := hO.turn (W := w6) fun i v k hv hk => B6.block k (hO.lt hv hk).2
                  clear hO hT q1 Q1 q2 q3 Q2
                  go_wp2
                  go_roundw
                  case measure => first | exact ap_meas' hjn | exact ap_meas hjn hb2
                  case rel => exact ⟨j + 1, hjn, (by first | rfl | exact congrArg (Value.int .i64) (ap_succ hb2)), N1, N2⟩
                · obtain rfl := ap_end hjn hj
                  have k3 : decide ((j : Int) < (j : Int)) = false := by simp
                  go_wp2
                  go_roundw
                  case measure => first | exact ap_meas' hcl | exact ap_meas hcl hb1
                  case rel => exact ⟨c + 1, hcl, (by first | rfl | exact congrArg (Value.int .i64) (ap_succ hb1)), hO, hT⟩
            · obtain rfl := ap_end hcl hc
              go_wp2
              go_ret
              exact ⟨rfl, hT⟩
end Go.Proofs.Ytnjmplapjnnjdaa
