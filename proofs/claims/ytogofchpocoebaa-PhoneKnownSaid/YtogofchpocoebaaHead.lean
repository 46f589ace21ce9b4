/- The head line of the program, in words: its signs are read once. -/
import Derived.Test.YtogofchpocoebaaRows
import Derived.Test.YtogofchpocoebaaChecked
import Derived.ProofKit
import Derived.JoinedOf
namespace Go.Proofs.Ytogofchpocoebaa

def hw0 : List Char := [Char.ofNat 104, Char.ofNat 97, Char.ofNat 114, Char.ofNat 110, Char.ofNat 101, Char.ofNat 115, Char.ofNat 115]
def hw1 : List Char := [Char.ofNat 56, Char.ofNat 50, Char.ofNat 102, Char.ofNat 53, Char.ofNat 98, Char.ofNat 100, Char.ofNat 100, Char.ofNat 97, Char.ofNat 52, Char.ofNat 48, Char.ofNat 57, Char.ofNat 57, Char.ofNat 101, Char.ofNat 54, Char.ofNat 55, Char.ofNat 53, Char.ofNat 51, Char.ofNat 51, Char.ofNat 52, Char.ofNat 52, Char.ofNat 100, Char.ofNat 52, Char.ofNat 48, Char.ofNat 102, Char.ofNat 50, Char.ofNat 50, Char.ofNat 100, Char.ofNat 99, Char.ofNat 97, Char.ofNat 48, Char.ofNat 50, Char.ofNat 54, Char.ofNat 98, Char.ofNat 48, Char.ofNat 49, Char.ofNat 102, Char.ofNat 48, Char.ofNat 101, Char.ofNat 101, Char.ofNat 54, Char.ofNat 100, Char.ofNat 55, Char.ofNat 101, Char.ofNat 49, Char.ofNat 57, Char.ofNat 50, Char.ofNat 99, Char.ofNat 97, Char.ofNat 52, Char.ofNat 57, Char.ofNat 102, Char.ofNat 56, Char.ofNat 53, Char.ofNat 55, Char.ofNat 49, Char.ofNat 51, Char.ofNat 102, Char.ofNat 54, Char.ofNat 102, Char.ofNat 53, Char.ofNat 57, Char.ofNat 50, Char.ofNat 98, Char.ofNat 56]
def hw2 : List Char := [Char.ofNat 99, Char.ofNat 117, Char.ofNat 116]
def hw3 : List Char := [Char.ofNat 97, Char.ofNat 116]
def hw4 : List Char := [Char.ofNat 99, Char.ofNat 97, Char.ofNat 110, Char.ofNat 116, Char.ofNat 105, Char.ofNat 99, Char.ofNat 108, Char.ofNat 101, Char.ofNat 47, Char.ofNat 99, Char.ofNat 97, Char.ofNat 110, Char.ofNat 116, Char.ofNat 105, Char.ofNat 99, Char.ofNat 108, Char.ofNat 101, Char.ofNat 108, Char.ofNat 97, Char.ofNat 119, Char.ofNat 49, Char.ofNat 53, Char.ofNat 46, Char.ofNat 82, Char.ofNat 104, Char.ofNat 121, Char.ofNat 109, Char.ofNat 101, Char.ofNat 84, Char.ofNat 97, Char.ofNat 105, Char.ofNat 108, Char.ofNat 115]
def hw5 : List Char := [Char.ofNat 99, Char.ofNat 97, Char.ofNat 110, Char.ofNat 116, Char.ofNat 105, Char.ofNat 99, Char.ofNat 108, Char.ofNat 101, Char.ofNat 47, Char.ofNat 99, Char.ofNat 97, Char.ofNat 110, Char.ofNat 116, Char.ofNat 105, Char.ofNat 99, Char.ofNat 108, Char.ofNat 101, Char.ofNat 108, Char.ofNat 97, Char.ofNat 119, Char.ofNat 48, Char.ofNat 56, Char.ofNat 46, Char.ofNat 80, Char.ofNat 104, Char.ofNat 111, Char.ofNat 110, Char.ofNat 101, Char.ofNat 67, Char.ofNat 111, Char.ofNat 115, Char.ofNat 116, Char.ofNat 115]
def hw6 : List Char := [Char.ofNat 99, Char.ofNat 97, Char.ofNat 110, Char.ofNat 116, Char.ofNat 105, Char.ofNat 99, Char.ofNat 108, Char.ofNat 101, Char.ofNat 47, Char.ofNat 99, Char.ofNat 97, Char.ofNat 110, Char.ofNat 116, Char.ofNat 105, Char.ofNat 99, Char.ofNat 108, Char.ofNat 101, Char.ofNat 108, Char.ofNat 97, Char.ofNat 119, Char.ofNat 48, Char.ofNat 56, Char.ofNat 46, Char.ofNat 80, Char.ofNat 104, Char.ofNat 111, Char.ofNat 110, Char.ofNat 101, Char.ofNat 80, Char.ofNat 114, Char.ofNat 105, Char.ofNat 110, Char.ofNat 116, Char.ofNat 115]
def hw7 : List Char := [Char.ofNat 99, Char.ofNat 97, Char.ofNat 110, Char.ofNat 116, Char.ofNat 105, Char.ofNat 99, Char.ofNat 108, Char.ofNat 101, Char.ofNat 47, Char.ofNat 99, Char.ofNat 97, Char.ofNat 110, Char.ofNat 116, Char.ofNat 105, Char.ofNat 99, Char.ofNat 108, Char.ofNat 101, Char.ofNat 108, Char.ofNat 97, Char.ofNat 119, Char.ofNat 48, Char.ofNat 56, Char.ofNat 46, Char.ofNat 80, Char.ofNat 104, Char.ofNat 111, Char.ofNat 110, Char.ofNat 101, Char.ofNat 82, Char.ofNat 117, Char.ofNat 110, Char.ofNat 101, Char.ofNat 115]
def hw8 : List Char := [Char.ofNat 99, Char.ofNat 97, Char.ofNat 110, Char.ofNat 116, Char.ofNat 105, Char.ofNat 99, Char.ofNat 108, Char.ofNat 101, Char.ofNat 47, Char.ofNat 99, Char.ofNat 97, Char.ofNat 110, Char.ofNat 116, Char.ofNat 105, Char.ofNat 99, Char.ofNat 108, Char.ofNat 101, Char.ofNat 108, Char.ofNat 97, Char.ofNat 119, Char.ofNat 48, Char.ofNat 56, Char.ofNat 46, Char.ofNat 80, Char.ofNat 104, Char.ofNat 111, Char.ofNat 110, Char.ofNat 101, Char.ofNat 82, Char.ofNat 101, Char.ofNat 97, Char.ofNat 100, Char.ofNat 115]
def hw9 : List Char := [Char.ofNat 99, Char.ofNat 97, Char.ofNat 110, Char.ofNat 116, Char.ofNat 105, Char.ofNat 99, Char.ofNat 108, Char.ofNat 101, Char.ofNat 47, Char.ofNat 99, Char.ofNat 97, Char.ofNat 110, Char.ofNat 116, Char.ofNat 105, Char.ofNat 99, Char.ofNat 108, Char.ofNat 101, Char.ofNat 108, Char.ofNat 97, Char.ofNat 119, Char.ofNat 48, Char.ofNat 56, Char.ofNat 46, Char.ofNat 80, Char.ofNat 104, Char.ofNat 111, Char.ofNat 110, Char.ofNat 101, Char.ofNat 66, Char.ofNat 97, Char.ofNat 99, Char.ofNat 107]
def hw10 : List Char := [Char.ofNat 99, Char.ofNat 97, Char.ofNat 110, Char.ofNat 116, Char.ofNat 105, Char.ofNat 99, Char.ofNat 108, Char.ofNat 101, Char.ofNat 47, Char.ofNat 99, Char.ofNat 97, Char.ofNat 110, Char.ofNat 116, Char.ofNat 105, Char.ofNat 99, Char.ofNat 108, Char.ofNat 101, Char.ofNat 108, Char.ofNat 97, Char.ofNat 119, Char.ofNat 49, Char.ofNat 53, Char.ofNat 46, Char.ofNat 82, Char.ofNat 104, Char.ofNat 121, Char.ofNat 109, Char.ofNat 101, Char.ofNat 75, Char.ofNat 101, Char.ofNat 121, Char.ofNat 115]
def hw11 : List Char := [Char.ofNat 99, Char.ofNat 97, Char.ofNat 110, Char.ofNat 116, Char.ofNat 105, Char.ofNat 99, Char.ofNat 108, Char.ofNat 101, Char.ofNat 47, Char.ofNat 99, Char.ofNat 97, Char.ofNat 110, Char.ofNat 116, Char.ofNat 105, Char.ofNat 99, Char.ofNat 108, Char.ofNat 101, Char.ofNat 108, Char.ofNat 97, Char.ofNat 119, Char.ofNat 48, Char.ofNat 56, Char.ofNat 46, Char.ofNat 80, Char.ofNat 104, Char.ofNat 111, Char.ofNat 110, Char.ofNat 101, Char.ofNat 70, Char.ofNat 97, Char.ofNat 114]
def hw12 : List Char := [Char.ofNat 99, Char.ofNat 97, Char.ofNat 110, Char.ofNat 116, Char.ofNat 105, Char.ofNat 99, Char.ofNat 108, Char.ofNat 101, Char.ofNat 47, Char.ofNat 99, Char.ofNat 97, Char.ofNat 110, Char.ofNat 116, Char.ofNat 105, Char.ofNat 99, Char.ofNat 108, Char.ofNat 101, Char.ofNat 108, Char.ofNat 97, Char.ofNat 119, Char.ofNat 48, Char.ofNat 56, Char.ofNat 46, Char.ofNat 80, Char.ofNat 104, Char.ofNat 111, Char.ofNat 110, Char.ofNat 101, Char.ofNat 82, Char.ofNat 111, Char.ofNat 119, Char.ofNat 115]
def hw13 : List Char := [Char.ofNat 99, Char.ofNat 97, Char.ofNat 110, Char.ofNat 116, Char.ofNat 105, Char.ofNat 99, Char.ofNat 108, Char.ofNat 101, Char.ofNat 47, Char.ofNat 99, Char.ofNat 97, Char.ofNat 110, Char.ofNat 116, Char.ofNat 105, Char.ofNat 99, Char.ofNat 108, Char.ofNat 101, Char.ofNat 108, Char.ofNat 97, Char.ofNat 119, Char.ofNat 48, Char.ofNat 56, Char.ofNat 46, Char.ofNat 80, Char.ofNat 104, Char.ofNat 111, Char.ofNat 110, Char.ofNat 101, Char.ofNat 75, Char.ofNat 110, Char.ofNat 111, Char.ofNat 119, Char.ofNat 110]
def hw14 : List Char := [Char.ofNat 99, Char.ofNat 97, Char.ofNat 110, Char.ofNat 116, Char.ofNat 105, Char.ofNat 99, Char.ofNat 108, Char.ofNat 101, Char.ofNat 47, Char.ofNat 99, Char.ofNat 97, Char.ofNat 110, Char.ofNat 116, Char.ofNat 105, Char.ofNat 99, Char.ofNat 108, Char.ofNat 101, Char.ofNat 108, Char.ofNat 97, Char.ofNat 119, Char.ofNat 49, Char.ofNat 53, Char.ofNat 46, Char.ofNat 82, Char.ofNat 104, Char.ofNat 121, Char.ofNat 109, Char.ofNat 101, Char.ofNat 80, Char.ofNat 97, Char.ofNat 105, Char.ofNat 114, Char.ofNat 115]
def hw15 : List Char := [Char.ofNat 99, Char.ofNat 97, Char.ofNat 110, Char.ofNat 116, Char.ofNat 105, Char.ofNat 99, Char.ofNat 108, Char.ofNat 101, Char.ofNat 47, Char.ofNat 99, Char.ofNat 97, Char.ofNat 110, Char.ofNat 116, Char.ofNat 105, Char.ofNat 99, Char.ofNat 108, Char.ofNat 101, Char.ofNat 108, Char.ofNat 97, Char.ofNat 119, Char.ofNat 49, Char.ofNat 53, Char.ofNat 46, Char.ofNat 82, Char.ofNat 104, Char.ofNat 121, Char.ofNat 109, Char.ofNat 101, Char.ofNat 67, Char.ofNat 108, Char.ofNat 97, Char.ofNat 115, Char.ofNat 115, Char.ofNat 101, Char.ofNat 115]
def hw16 : List Char := [Char.ofNat 99, Char.ofNat 97, Char.ofNat 110, Char.ofNat 116, Char.ofNat 105, Char.ofNat 99, Char.ofNat 108, Char.ofNat 101, Char.ofNat 47, Char.ofNat 99, Char.ofNat 97, Char.ofNat 110, Char.ofNat 116, Char.ofNat 105, Char.ofNat 99, Char.ofNat 108, Char.ofNat 101, Char.ofNat 108, Char.ofNat 97, Char.ofNat 119, Char.ofNat 49, Char.ofNat 53, Char.ofNat 46, Char.ofNat 82, Char.ofNat 104, Char.ofNat 121, Char.ofNat 109, Char.ofNat 101, Char.ofNat 78, Char.ofNat 97, Char.ofNat 109, Char.ofNat 101, Char.ofNat 115]
def hw17 : List Char := [Char.ofNat 99, Char.ofNat 97, Char.ofNat 110, Char.ofNat 116, Char.ofNat 105, Char.ofNat 99, Char.ofNat 108, Char.ofNat 101, Char.ofNat 47, Char.ofNat 99, Char.ofNat 97, Char.ofNat 110, Char.ofNat 116, Char.ofNat 105, Char.ofNat 99, Char.ofNat 108, Char.ofNat 101, Char.ofNat 108, Char.ofNat 97, Char.ofNat 119, Char.ofNat 49, Char.ofNat 53, Char.ofNat 46, Char.ofNat 82, Char.ofNat 104, Char.ofNat 121, Char.ofNat 109, Char.ofNat 101, Char.ofNat 73, Char.ofNat 115, Char.ofNat 79, Char.ofNat 110, Char.ofNat 101]
def hw18 : List Char := [Char.ofNat 99, Char.ofNat 97, Char.ofNat 110, Char.ofNat 116, Char.ofNat 105, Char.ofNat 99, Char.ofNat 108, Char.ofNat 101, Char.ofNat 47, Char.ofNat 99, Char.ofNat 97, Char.ofNat 110, Char.ofNat 116, Char.ofNat 105, Char.ofNat 99, Char.ofNat 108, Char.ofNat 101, Char.ofNat 108, Char.ofNat 97, Char.ofNat 119, Char.ofNat 49, Char.ofNat 53, Char.ofNat 46, Char.ofNat 82, Char.ofNat 104, Char.ofNat 121, Char.ofNat 109, Char.ofNat 101, Char.ofNat 75, Char.ofNat 105, Char.ofNat 110, Char.ofNat 100, Char.ofNat 115]
def hw19 : List Char := [Char.ofNat 99, Char.ofNat 97, Char.ofNat 110, Char.ofNat 116, Char.ofNat 105, Char.ofNat 99, Char.ofNat 108, Char.ofNat 101, Char.ofNat 47, Char.ofNat 99, Char.ofNat 97, Char.ofNat 110, Char.ofNat 116, Char.ofNat 105, Char.ofNat 99, Char.ofNat 108, Char.ofNat 101, Char.ofNat 108, Char.ofNat 97, Char.ofNat 119, Char.ofNat 49, Char.ofNat 49, Char.ofNat 46, Char.ofNat 83, Char.ofNat 121, Char.ofNat 108, Char.ofNat 108, Char.ofNat 97, Char.ofNat 98, Char.ofNat 108, Char.ofNat 101, Char.ofNat 80, Char.ofNat 114, Char.ofNat 105, Char.ofNat 110, Char.ofNat 116, Char.ofNat 115]
def hw20 : List Char := [Char.ofNat 99, Char.ofNat 97, Char.ofNat 110, Char.ofNat 116, Char.ofNat 105, Char.ofNat 99, Char.ofNat 108, Char.ofNat 101, Char.ofNat 47, Char.ofNat 99, Char.ofNat 97, Char.ofNat 110, Char.ofNat 116, Char.ofNat 105, Char.ofNat 99, Char.ofNat 108, Char.ofNat 101, Char.ofNat 108, Char.ofNat 97, Char.ofNat 119, Char.ofNat 49, Char.ofNat 49, Char.ofNat 46, Char.ofNat 83, Char.ofNat 121, Char.ofNat 108, Char.ofNat 108, Char.ofNat 97, Char.ofNat 98, Char.ofNat 108, Char.ofNat 101, Char.ofNat 80, Char.ofNat 97, Char.ofNat 114, Char.ofNat 116, Char.ofNat 115]
def hw21 : List Char := [Char.ofNat 99, Char.ofNat 97, Char.ofNat 110, Char.ofNat 116, Char.ofNat 105, Char.ofNat 99, Char.ofNat 108, Char.ofNat 101, Char.ofNat 47, Char.ofNat 99, Char.ofNat 97, Char.ofNat 110, Char.ofNat 116, Char.ofNat 105, Char.ofNat 99, Char.ofNat 108, Char.ofNat 101, Char.ofNat 108, Char.ofNat 97, Char.ofNat 119, Char.ofNat 49, Char.ofNat 49, Char.ofNat 46, Char.ofNat 83, Char.ofNat 121, Char.ofNat 108, Char.ofNat 108, Char.ofNat 97, Char.ofNat 98, Char.ofNat 108, Char.ofNat 101, Char.ofNat 83, Char.ofNat 105, Char.ofNat 103, Char.ofNat 110, Char.ofNat 115]
def hw22 : List Char := [Char.ofNat 99, Char.ofNat 97, Char.ofNat 110, Char.ofNat 116, Char.ofNat 105, Char.ofNat 99, Char.ofNat 108, Char.ofNat 101, Char.ofNat 47, Char.ofNat 99, Char.ofNat 97, Char.ofNat 110, Char.ofNat 116, Char.ofNat 105, Char.ofNat 99, Char.ofNat 108, Char.ofNat 101, Char.ofNat 108, Char.ofNat 97, Char.ofNat 119, Char.ofNat 49, Char.ofNat 49, Char.ofNat 46, Char.ofNat 83, Char.ofNat 121, Char.ofNat 108, Char.ofNat 108, Char.ofNat 97, Char.ofNat 98, Char.ofNat 108, Char.ofNat 101, Char.ofNat 82, Char.ofNat 101, Char.ofNat 97, Char.ofNat 100, Char.ofNat 115]
def hw23 : List Char := [Char.ofNat 99, Char.ofNat 97, Char.ofNat 110, Char.ofNat 116, Char.ofNat 105, Char.ofNat 99, Char.ofNat 108, Char.ofNat 101, Char.ofNat 47, Char.ofNat 99, Char.ofNat 97, Char.ofNat 110, Char.ofNat 116, Char.ofNat 105, Char.ofNat 99, Char.ofNat 108, Char.ofNat 101, Char.ofNat 108, Char.ofNat 97, Char.ofNat 119, Char.ofNat 49, Char.ofNat 49, Char.ofNat 46, Char.ofNat 83, Char.ofNat 121, Char.ofNat 108, Char.ofNat 108, Char.ofNat 97, Char.ofNat 98, Char.ofNat 108, Char.ofNat 101, Char.ofNat 66, Char.ofNat 97, Char.ofNat 99, Char.ofNat 107]
def hw24 : List Char := [Char.ofNat 99, Char.ofNat 97, Char.ofNat 110, Char.ofNat 116, Char.ofNat 105, Char.ofNat 99, Char.ofNat 108, Char.ofNat 101, Char.ofNat 47, Char.ofNat 99, Char.ofNat 97, Char.ofNat 110, Char.ofNat 116, Char.ofNat 105, Char.ofNat 99, Char.ofNat 108, Char.ofNat 101, Char.ofNat 108, Char.ofNat 97, Char.ofNat 119, Char.ofNat 49, Char.ofNat 49, Char.ofNat 46, Char.ofNat 83, Char.ofNat 121, Char.ofNat 108, Char.ofNat 108, Char.ofNat 97, Char.ofNat 98, Char.ofNat 108, Char.ofNat 101, Char.ofNat 75, Char.ofNat 110, Char.ofNat 111, Char.ofNat 119, Char.ofNat 110]
def hw25 : List Char := [Char.ofNat 99, Char.ofNat 97, Char.ofNat 110, Char.ofNat 116, Char.ofNat 105, Char.ofNat 99, Char.ofNat 108, Char.ofNat 101, Char.ofNat 47, Char.ofNat 99, Char.ofNat 97, Char.ofNat 110, Char.ofNat 116, Char.ofNat 105, Char.ofNat 99, Char.ofNat 108, Char.ofNat 101, Char.ofNat 108, Char.ofNat 97, Char.ofNat 119, Char.ofNat 49, Char.ofNat 49, Char.ofNat 46, Char.ofNat 83, Char.ofNat 121, Char.ofNat 108, Char.ofNat 108, Char.ofNat 97, Char.ofNat 98, Char.ofNat 108, Char.ofNat 101, Char.ofNat 83, Char.ofNat 112, Char.ofNat 108, Char.ofNat 105, Char.ofNat 116, Char.ofNat 115]
def hw26 : List Char := [Char.ofNat 99, Char.ofNat 97, Char.ofNat 110, Char.ofNat 116, Char.ofNat 105, Char.ofNat 99, Char.ofNat 108, Char.ofNat 101, Char.ofNat 47, Char.ofNat 99, Char.ofNat 97, Char.ofNat 110, Char.ofNat 116, Char.ofNat 105, Char.ofNat 99, Char.ofNat 108, Char.ofNat 101, Char.ofNat 108, Char.ofNat 97, Char.ofNat 119, Char.ofNat 49, Char.ofNat 49, Char.ofNat 46, Char.ofNat 83, Char.ofNat 121, Char.ofNat 108, Char.ofNat 108, Char.ofNat 97, Char.ofNat 98, Char.ofNat 108, Char.ofNat 101, Char.ofNat 84, Char.ofNat 119, Char.ofNat 105, Char.ofNat 99, Char.ofNat 101]
def hw27 : List Char := [Char.ofNat 99, Char.ofNat 97, Char.ofNat 110, Char.ofNat 116, Char.ofNat 105, Char.ofNat 99, Char.ofNat 108, Char.ofNat 101, Char.ofNat 47, Char.ofNat 99, Char.ofNat 97, Char.ofNat 110, Char.ofNat 116, Char.ofNat 105, Char.ofNat 99, Char.ofNat 108, Char.ofNat 101, Char.ofNat 108, Char.ofNat 97, Char.ofNat 119, Char.ofNat 49, Char.ofNat 49, Char.ofNat 46, Char.ofNat 83, Char.ofNat 121, Char.ofNat 108, Char.ofNat 108, Char.ofNat 97, Char.ofNat 98, Char.ofNat 108, Char.ofNat 101, Char.ofNat 83, Char.ofNat 116, Char.ofNat 114, Char.ofNat 101, Char.ofNat 115, Char.ofNat 115]
def ht27 : List Char := hw27
def ht26 : List Char := hw26 ++ Char.ofNat 32 :: ht27
def ht25 : List Char := hw25 ++ Char.ofNat 32 :: ht26
def ht24 : List Char := hw24 ++ Char.ofNat 32 :: ht25
def ht23 : List Char := hw23 ++ Char.ofNat 32 :: ht24
def ht22 : List Char := hw22 ++ Char.ofNat 32 :: ht23
def ht21 : List Char := hw21 ++ Char.ofNat 32 :: ht22
def ht20 : List Char := hw20 ++ Char.ofNat 32 :: ht21
def ht19 : List Char := hw19 ++ Char.ofNat 32 :: ht20
def ht18 : List Char := hw18 ++ Char.ofNat 32 :: ht19
def ht17 : List Char := hw17 ++ Char.ofNat 32 :: ht18
def ht16 : List Char := hw16 ++ Char.ofNat 32 :: ht17
def ht15 : List Char := hw15 ++ Char.ofNat 32 :: ht16
def ht14 : List Char := hw14 ++ Char.ofNat 32 :: ht15
def ht13 : List Char := hw13 ++ Char.ofNat 32 :: ht14
def ht12 : List Char := hw12 ++ Char.ofNat 32 :: ht13
def ht11 : List Char := hw11 ++ Char.ofNat 32 :: ht12
def ht10 : List Char := hw10 ++ Char.ofNat 32 :: ht11
def ht9 : List Char := hw9 ++ Char.ofNat 32 :: ht10
def ht8 : List Char := hw8 ++ Char.ofNat 32 :: ht9
def ht7 : List Char := hw7 ++ Char.ofNat 32 :: ht8
def ht6 : List Char := hw6 ++ Char.ofNat 32 :: ht7
def ht5 : List Char := hw5 ++ Char.ofNat 32 :: ht6
def ht4 : List Char := hw4 ++ Char.ofNat 32 :: ht5
def ht3 : List Char := hw3 ++ Char.ofNat 32 :: ht4
def ht2 : List Char := hw2 ++ Char.ofNat 32 :: ht3
def ht1 : List Char := hw1 ++ Char.ofNat 32 :: ht2
def ht0 : List Char := hw0 ++ Char.ofNat 32 :: ht1
set_option maxRecDepth 100000 in
theorem head_str : Try.prog.initOrder = String.ofList ht0 := by kernel_rfl
/-- the head's signs as a list -/
theorem head_list : Try.prog.initOrder.toList = ht0 := by rw [head_str]; exact String.toList_ofList

theorem ws_gap (r : List Char) : wordsSigns (Char.ofNat 32 :: r) = [] :: wordsSigns r := rfl
theorem ws_cons (c : Char) (r : List Char) (h : c ≠ Char.ofNat 32) : wordsSigns (c :: r) = match wordsSigns r with | w :: ws => (c :: w) :: ws | [] => [[c]] := by
  rw [wordsSigns]
  · rfl
  · exact h
theorem ws_word : ∀ (l : List Char), (l.all fun c => c != Char.ofNat 32) = true → ∀ r, wordsSigns (l ++ Char.ofNat 32 :: r) = l :: wordsSigns r := by
  intro l
  induction l with
  | nil => intro _ r; exact ws_gap r
  | cons c l ih =>
    intro h r
    simp only [List.all_cons, Bool.and_eq_true, bne_iff_ne, ne_eq] at h
    rw [List.cons_append, ws_cons c _ h.1, ih h.2 r]
theorem ws_last : ∀ (l : List Char), (l.all fun c => c != Char.ofNat 32) = true → wordsSigns l = [l] := by
  intro l
  induction l with
  | nil => intro _; rfl
  | cons c l ih =>
    intro h
    simp only [List.all_cons, Bool.and_eq_true, bne_iff_ne, ne_eq] at h
    rw [ws_cons c _ h.1, ih h.2]
theorem head_words : wordsSigns Try.prog.initOrder.toList = [hw0, hw1, hw2, hw3, hw4, hw5, hw6, hw7, hw8, hw9, hw10, hw11, hw12, hw13, hw14, hw15, hw16, hw17, hw18, hw19, hw20, hw21, hw22, hw23, hw24, hw25, hw26, hw27] := by
  rw [head_list]
  rw [ht0, ws_word hw0 (by decide +kernel)]
  rw [ht1, ws_word hw1 (by decide +kernel)]
  rw [ht2, ws_word hw2 (by decide +kernel)]
  rw [ht3, ws_word hw3 (by decide +kernel)]
  rw [ht4, ws_word hw4 (by decide +kernel)]
  rw [ht5, ws_word hw5 (by decide +kernel)]
  rw [ht6, ws_word hw6 (by decide +kernel)]
  rw [ht7, ws_word hw7 (by decide +kernel)]
  rw [ht8, ws_word hw8 (by decide +kernel)]
  rw [ht9, ws_word hw9 (by decide +kernel)]
  rw [ht10, ws_word hw10 (by decide +kernel)]
  rw [ht11, ws_word hw11 (by decide +kernel)]
  rw [ht12, ws_word hw12 (by decide +kernel)]
  rw [ht13, ws_word hw13 (by decide +kernel)]
  rw [ht14, ws_word hw14 (by decide +kernel)]
  rw [ht15, ws_word hw15 (by decide +kernel)]
  rw [ht16, ws_word hw16 (by decide +kernel)]
  rw [ht17, ws_word hw17 (by decide +kernel)]
  rw [ht18, ws_word hw18 (by decide +kernel)]
  rw [ht19, ws_word hw19 (by decide +kernel)]
  rw [ht20, ws_word hw20 (by decide +kernel)]
  rw [ht21, ws_word hw21 (by decide +kernel)]
  rw [ht22, ws_word hw22 (by decide +kernel)]
  rw [ht23, ws_word hw23 (by decide +kernel)]
  rw [ht24, ws_word hw24 (by decide +kernel)]
  rw [ht25, ws_word hw25 (by decide +kernel)]
  rw [ht26, ws_word hw26 (by decide +kernel)]
  rw [ht27, ws_last hw27 (by decide +kernel)]
set_option maxRecDepth 100000 in
theorem head_sum : isSumSigns hw1 = true := by kernel_rfl
theorem head_main : behindMainWord (wordsSigns Try.prog.initOrder.toList) = [hw2, hw3, hw4, hw5, hw6, hw7, hw8, hw9, hw10, hw11, hw12, hw13, hw14, hw15, hw16, hw17, hw18, hw19, hw20, hw21, hw22, hw23, hw24, hw25, hw26, hw27] := by
  rw [head_words, behindMainWord, head_sum]
  rfl
theorem head_strip : stripLifts liftWords [hw2, hw3, hw4, hw5, hw6, hw7, hw8, hw9, hw10, hw11, hw12, hw13, hw14, hw15, hw16, hw17, hw18, hw19, hw20, hw21, hw22, hw23, hw24, hw25, hw26, hw27] = ([], [hw2, hw3, hw4, hw5, hw6, hw7, hw8, hw9, hw10, hw11, hw12, hw13, hw14, hw15, hw16, hw17, hw18, hw19, hw20, hw21, hw22, hw23, hw24, hw25, hw26, hw27]) := by kernel_rfl
theorem may_enter_of {P : Program} {c : List Char} {rest : List (List Char)} (h : behindMainWord (wordsSigns P.initOrder.toList) = c :: rest) (h2 : stripLifts liftWords (c :: rest) = ([], c :: rest)) (h3 : (some c == some "cut".toList) = true)
    (h4 : P.laysLater = false) (h5 : P.bearsReflect = false) (h6 : P.doorFits [] = true) : P.mayEnter = true := by
  unfold Program.mayEnter
  rw [h]
  dsimp only
  rw [h2, h4, h5]
  dsimp only
  rw [h6, List.head?_cons, h3]
  simp
theorem lifts_final_of {P : Program} {c : List Char} {rest : List (List Char)} (h : behindMainWord (wordsSigns P.initOrder.toList) = c :: rest) (h2 : stripLifts liftWords (c :: rest) = ([], c :: rest)) (h3 : (some c == some "carried".toList) = false) : P.liftsFinal = false := by
  unfold Program.liftsFinal Program.headLifts
  rw [h]
  dsimp only
  rw [h2, List.head?_cons, h3]
  dsimp only
  split <;> simp
theorem make_of {P : Program} {c : List Char} {rest : List (List Char)} (h : behindMainWord (wordsSigns P.initOrder.toList) = c :: rest) (h1 : (c == "gc".toList || c == "spec".toList) = false) (h2 : (c == "cut".toList) = true) : P.make = some .cut := by
  unfold Program.make
  rw [h]
  dsimp only
  rw [h1, h2]
  simp
theorem make_is : Try.prog.make = some .cut := make_of head_main (by kernel_rfl) (by kernel_rfl)
theorem may_enter : Try.prog.mayEnter = true := may_enter_of head_main head_strip (by kernel_rfl) (by kernel_rfl) (by kernel_rfl) (by kernel_rfl)
theorem lifts_final : Try.prog.liftsFinal = false := lifts_final_of head_main head_strip (by kernel_rfl)
end Go.Proofs.Ytogofchpocoebaa
