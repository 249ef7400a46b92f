/- Airports: the way from a node that follows is the rest of the way. -/
import Derived.Test.YtmbknidfkddpfaaAirStepLaw
set_option linter.unusedVariables false
set_option linter.unusedSimpArgs false
set_option maxHeartbeats 1000000
namespace Go.Proofs.Ytmbknidfkddpfaa
open Go.Proofs.Ytmbknidfkddpfaa.PM

section
variable {on : Nat → List Int} {z th th' : Nat → Bool} {N a : Nat}
theorem kss_keep2 {r j k : Nat} {c : List Int} {x : Int} (h : (kss on th r c k)[j]? = some x) (h0 : 0 ≤ x) (i : Nat) : (kss on th r c (k + i))[j]? = some x := by
  induction i with
  | zero => exact h
  | succ i ih => exact kst_keep ih h0
theorem kst_th {r k : Nat} {c : List Int} (h : th k = th' k) : kst on th r c k = kst on th' r c k := by unfold kst; rw [h]
theorem rss_same (ht : ∀ k, k < N → k ≠ a → th k = th' k) (hta : th a = true) (haN : a < N) {x : Int} {R : Nat} (hR : (rss on z th N R)[a]? = some x) (hx : x < 0) : ∀ r, r ≤ R → rss on z th' N r = rss on z th N r := by
  have hneg : ∀ r, r ≤ R → ∀ y, (rss on z th N r)[a]? = some y → y < 0 := by
    intro r hr y hy
    rcases Int.lt_or_le y 0 with h | h
    · exact h
    · have := rss_keep hy h (R - r)
      rw [show r + (R - r) = R by omega, hR, Option.some.injEq] at this
      omega
  intro r
  induction r with
  | zero => intro _; rfl
  | succ r ih =>
    intro hr
    have ih := ih (by omega)
    show kss on th' r (rss on z th' N r) N = kss on th r (rss on z th N r) N
    rw [ih]
    have key : ∀ k, k ≤ N → kss on th' r (rss on z th N r) k = kss on th r (rss on z th N r) k := by
      intro k
      induction k with
      | zero => intro _; rfl
      | succ k ihk =>
        intro hk
        have ihk := ihk (by omega)
        show kst on th' r (kss on th' r (rss on z th N r) k) k = kst on th r (kss on th r (rss on z th N r) k) k
        rw [ihk]
        by_cases hka : k = a
        · have hfin := hneg (r + 1) hr
          have hfin : ∀ y, (kss on th r (rss on z th N r) N)[a]? = some y → y < 0 := hfin
          have hlen : (kss on th r (rss on z th N r) k).length = N := by simp
          by_cases hc : 0 ≤ (kss on th r (rss on z th N r) k).getD k 0
          · unfold kst; rw [if_pos (.inl hc), if_pos (.inl hc)]
          · by_cases hh : anyN (hit (kss on th r (rss on z th N r) k) r (on k)) 0 (on k).length = true
            · exfalso
              have h1 : (kss on th r (rss on z th N r) (k + 1))[k]? = some ((r : Int) + 1) := by
                show (kst on th r (kss on th r (rss on z th N r) k) k)[k]? = _
                unfold kst
                rw [if_neg (by rintro (q | q); exact hc q; rw [hka, hta] at q; cases q), if_pos hh, List.getElem?_set_self (by omega)]
              have h2 := kss_keep2 h1 (by omega) (N - (k + 1))
              rw [show k + 1 + (N - (k + 1)) = N by omega, hka] at h2
              have := hfin _ h2
              omega
            · unfold kst
              rw [if_neg hh]
              split <;> split <;> rfl
        · exact (kst_th (ht k (by omega) hka)).symm
    exact key N (Nat.le_refl _)
/-- The numbers below that of the node are the same. -/
theorem rss_below (ht : ∀ k, k < N → k ≠ a → th k = th' k) (hta : th a = true) (haN : a < N) {n : Nat} (hD : (rss on z th N N)[a]? = some ((n : Int) + 1)) (k m : Nat) (hm : m ≤ n) :
    (rss on z th N N)[k]? = some (m : Int) ↔ (rss on z th' N N)[k]? = some (m : Int) := by
  have hN : n + 1 ≤ N := by
    have := (inv_rss (on := on) (z := z) (th := th) (N := N) N).hi a _ hD
    omega
  have hl : a < (rss on z th N n).length := by rw [rss_len]; exact haN
  have h1 : ∃ x, (rss on z th N n)[a]? = some x ∧ x < 0 := by
    refine ⟨_, List.getElem?_eq_getElem hl, ?_⟩
    rcases Int.lt_or_le (rss on z th N n)[a] 0 with h | h
    · exact h
    · have h2 := rss_keep (List.getElem?_eq_getElem hl) h (N - n)
      have h3 := (inv_rss (on := on) (z := z) (th := th) (N := N) n).hi a _ (List.getElem?_eq_getElem hl)
      rw [show n + (N - n) = N by omega, hD, Option.some.injEq] at h2
      omega
  obtain ⟨x, hx, hx0⟩ := h1
  have hs := rss_same ht hta haN hx hx0 n (Nat.le_refl _)
  have go : ∀ t : Nat → Bool, (rss on z t N N)[k]? = some (m : Int) ↔ (rss on z t N n)[k]? = some (m : Int) := by
    intro t
    constructor
    · intro h
      have := rss_keep (rss_at (by omega) h) (by omega) (n - m)
      rw [show m + (n - m) = n by omega] at this
      exact this
    · intro h
      have := rss_keep h (by omega) (N - n)
      rw [show n + (N - n) = N by omega] at this
      exact this
  rw [go th, go th', hs]
theorem nxt_congr {c c' os : List Int} {n : Nat} (h : ∀ k : Nat, c[k]? = some (n : Int) ↔ c'[k]? = some (n : Int)) : nxt c os n = nxt c' os n := by
  unfold nxt
  have : (fun o : Int => decide (c[o.toNat]? = some (n : Int))) = fun o : Int => decide (c'[o.toNat]? = some (n : Int)) := by
    funext o
    exact decide_eq_decide.2 (h o.toNat)
  rw [this]
theorem walk_congr {c c' : List Int} (n : Nat) : (∀ k m : Nat, m < n → (c[k]? = some (m : Int) ↔ c'[k]? = some (m : Int))) → ∀ v, walk on c n v = walk on c' n v := by
  induction n with
  | zero => intro _ v; rfl
  | succ n ih =>
    intro h v
    simp only [walk]
    rw [nxt_congr (os := on v.toNat) (fun k => h k n (by omega)), ih (fun k m hm => h k m (by omega))]
end
abbrev fT : Nat → Bool := fun _ => true
theorem way_tail {ns : List Nd} (hr : ∀ k, k < ns.length → ∀ o ∈ onOf ns k, 0 ≤ o ∧ o < ns.length) {a : Nat} (ha : a < ns.length) (he : ¬ endB 1 (kd ns a) = true) (hx : (wayX ns a 1 fT).2 = true) :
    ∃ y rest, (wayX ns a 1 fT).1 = (a : Int) :: y :: rest ∧ 0 ≤ y ∧ y < ns.length ∧ wayX ns y.toNat 1 fT = (y :: rest, true) := by
  have hi : Inv (onOf ns) ns.length ns.length (cnt ns a 1 fT ns.length) := inv_rss _
  have hla : a < (cnt ns a 1 fT ns.length).length := by rw [hi.len]; exact ha
  have hfin : fin ns a 1 fT = (cnt ns a 1 fT ns.length)[a] := by
    unfold fin
    simp only [List.getD_eq_getElem?_getD, List.getElem?_eq_getElem hla, Option.getD_some]
  unfold wayX at hx
  rw [if_neg (by rintro (q | q); cases q; exact he q)] at hx
  split at hx
  · cases hx
  rename_i hf
  have hend : ∀ b : Nat, b < ns.length → ((cnt ns b 1 fT ns.length)[b]? = some 0 → endB 1 (kd ns b) = true) := by
    intro b hb q
    have hz := (rss_end (z := zed ns b (1 : Nat) fT) (th := thr ns b fT) (N := ns.length) ns.length b _ q).1 rfl
    rw [zed_eq, Bool.and_eq_true] at hz
    exact hz.1
  have hne : fin ns a 1 fT ≠ 0 := by
    intro q
    rw [hfin] at q
    exact he (hend a ha (by rw [List.getElem?_eq_getElem hla, q]))
  obtain ⟨n, hn⟩ : ∃ n : Nat, fin ns a 1 fT = n + 1 := ⟨(fin ns a 1 fT - 1).toNat, by omega⟩
  have hD : (cnt ns a 1 fT ns.length)[a]? = some ((n : Int) + 1) := by rw [List.getElem?_eq_getElem hla, ← hfin, hn]
  have hnx := nxt_ex (hi.nx a _ hD (by omega))
  rw [show ((n : Int) + 1 - 1) = n by omega] at hnx
  obtain ⟨hy1, hy2⟩ := hnx
  generalize hY : nxt (cnt ns a 1 fT ns.length) (onOf ns a) n = y at *
  have hyr := hr a ha y hy1
  refine ⟨y, walk (onOf ns) (cnt ns a 1 fT ns.length) n y, ?_, hyr.1, hyr.2, ?_⟩
  · unfold wayX
    rw [if_neg (by rintro (q | q); cases q; exact he q), if_neg hf]
    unfold wayL
    rw [hn, show ((n : Int) + 1).toNat = n + 1 by omega]
    show (a : Int) :: nxt (cnt ns a 1 fT ns.length) (onOf ns a) n :: walk (onOf ns) (cnt ns a 1 fT ns.length) n (nxt (cnt ns a 1 fT ns.length) (onOf ns a) n) = _
    rw [hY]
  have hyN : y.toNat < ns.length := by omega
  have hkdy : ¬ kd ns y.toNat = 0 := by
    have := rss_end (z := zed ns a (1 : Nat) fT) (th := thr ns a fT) (N := ns.length) ns.length y.toNat _ hy2
    by_cases hn0 : n = 0
    · have hz := this.1 (by omega)
      rw [zed_eq, Bool.and_eq_true] at hz
      unfold endB at hz
      have := of_decide_eq_true hz.1
      omega
    · have hz := this.2 (by omega)
      unfold thr at hz
      rw [Bool.or_eq_true] at hz
      rcases hz with hz | hz
      · have h1 := of_decide_eq_true hz
        have h2 : y.toNat = a := by omega
        rw [h2, hD, Option.some.injEq] at hy2
        omega
      · simpa using hz
  have hzs : zed ns y.toNat (1 : Nat) fT = zed ns a (1 : Nat) fT := by
    funext k
    rw [zed_eq, zed_eq]
    rfl
  have hbel := fun k m hm => rss_below (on := onOf ns) (z := zed ns a (1 : Nat) fT) (th := thr ns a fT) (th' := thr ns y.toNat fT) (N := ns.length) (a := a) (fun k hk hka => by
      unfold thr
      by_cases hky : k = y.toNat
      · subst hky
        rw [decide_eq_false hkdy]; simp
      · rw [decide_eq_false (show ¬ ((k : Int) = (a : Int)) by omega), decide_eq_false (show ¬ ((k : Int) = ((y.toNat : Nat) : Int)) by omega)]) (by unfold thr; simp) ha hD k m hm
  rw [← hzs] at hbel
  have hy3 : (cnt ns y.toNat 1 fT ns.length)[y.toNat]? = some (n : Int) := by
    have := (hbel y.toNat n (Nat.le_refl _)).1 (by rw [hzs]; exact hy2)
    exact this
  have hfy : fin ns y.toNat 1 fT = n := by
    unfold fin
    rw [List.getD_eq_getElem?_getD, hy3]; rfl
  by_cases hn0 : n = 0
  · subst hn0
    unfold wayX
    rw [if_pos (.inr (hend y.toNat hyN hy3))]
    show ([((y.toNat : Nat) : Int)], true) = ([y], true)
    rw [show ((y.toNat : Nat) : Int) = y by omega]
  · have hny : ¬ endB 1 (kd ns y.toNat) = true := by
      intro q
      have hl2 : y.toNat < (ini (zed ns y.toNat (1 : Nat) fT) ns.length ns.length).length := by rw [ini_len]; exact hyN
      have h0 : (ini (zed ns y.toNat (1 : Nat) fT) ns.length ns.length)[y.toNat]? = some 0 := by
        rw [ini_get hyN, if_pos hyN, if_pos (by rw [zed_eq, q]; rfl)]
      have := rss_keep (on := onOf ns) (th := thr ns y.toNat fT) (r := 0) (z := zed ns y.toNat (1 : Nat) fT) (N := ns.length) h0 (by omega) ns.length
      rw [Nat.zero_add] at this
      have h4 : (cnt ns y.toNat 1 fT ns.length)[y.toNat]? = some 0 := this
      rw [hy3, Option.some.injEq] at h4
      omega
    unfold wayX
    rw [if_neg (by rintro (q | q); cases q; exact hny q), if_neg (by omega)]
    unfold wayL
    rw [hfy, Int.toNat_natCast, show ((y.toNat : Nat) : Int) = y by omega]
    congr 2
    refine (walk_congr n (fun k m hm => ?_) y).symm
    have := hbel k m (by omega)
    rw [hzs] at this
    show (rss (onOf ns) (zed ns a (1 : Nat) fT) (thr ns a fT) ns.length ns.length)[k]? = some (m : Int) ↔ (rss (onOf ns) (zed ns y.toNat (1 : Nat) fT) (thr ns y.toNat fT) ns.length ns.length)[k]? = some (m : Int)
    rw [hzs]
    exact this
end Go.Proofs.Ytmbknidfkddpfaa
